/- The contract of the reference's Quo. -/
import Derived.Test.YtmhbkilidpbenaaGreatDoorF
import Derived.Laws.ShiftsVarLaws
namespace Go.Proofs.YtmhbkilidpbenaaGreatDoor
open Go.RowKit

theorem lt_pw_of {x m k : Nat} (h : (x : Int) < pw m) (hk : m ≤ k) : (x : Int) < pw k := Int.lt_of_lt_of_le h (pw_le hk)
theorem mul_lt_pw {x y m k : Nat} (hx : (x : Int) < pw m) (hy : (y : Int) < pw k) : ((x * y : Nat) : Int) < pw (m + k) := by
  rw [pw_add, Int.natCast_mul]
  have h1 : (x : Int) * y ≤ (pw m - 1) * (pw k - 1) := Int.mul_le_mul (by omega) (by omega) (by omega) (by omega)
  have h2 : (pw m - 1) * (pw k - 1) = pw m * pw k - pw m - pw k + 1 := by grind
  have := pw_pos m
  have := pw_pos k
  omega

set_option maxHeartbeats 3200000 in
set_option maxRecDepth 100000 in
theorem quo_any (va vb : Value) (p q m : Nat) (w : World) (hp : (p : Int) < pw m) (hq : (q : Int) < pw m) (hm : m ≤ 1000000000) (h : p < 2305843009213693952 * q) (ha : IsN w va p) (hb : IsN w vb q) :
    Calls Tryz.prog 37 #[va, vb] w fun e w' => ∃ v, e = .returned (.tuple #[.int .u64 (p / q : Nat), v]) ∧ IsN w' v (p % q) ∧ Below w.heap.size w w' := by
  go_enter Tryz.func37, Tryz.ntmps37
  go_wp2
  go_loopw [0, 6, 7, 8, 9] (fun pv nv iv _ _ wr => ∃ (P N I : Nat), nv = .int .u64 N ∧ iv = .int .i64 ((I : Int) - 1) ∧ I ≤ 61 ∧ P + N * q = p ∧ N < 2305843009213693952 ∧ P < 2 ^ I * q ∧ IsN wr pv P ∧ Below w.heap.size w wr) (fun _ _ iv _ _ _ => (intOf iv + 1).toNat)
  case atStart => exact ⟨p, 0, 61, rfl, rfl, by omega, by omega, by omega, h, ha, Below.refl _ _⟩
  case round =>
    obtain ⟨P, N, I, rfl, rfl, hI, hPN, hN, hP, hpv, hbl⟩ := hrel
    by_cases h0 : 0 < I
    · obtain ⟨i, rfl⟩ : ∃ i, I = i + 1 := ⟨I - 1, by omega⟩
      have e1 : (((i + 1 : Nat) : Int) - 1) = (i : Int) := by omega
      rw [e1]
      have HPN := Lib.hid hPN
      have HP := Lib.hid hP
      clear hPN hP e1
      have cP : Calls Tryz.prog 61 #[.int .u64 2, .int .i64 (i : Int)] wr fun e w' => ∃ v, e = .returned v ∧ IsN w' v (2 ^ i) ∧ Below wr.heap.size wr w' := power_any 2 i wr (by omega) (by omega) (by omega)
      obtain ⟨t, ht⟩ : ∃ t, 2 ^ i = t := ⟨_, rfl⟩
      have htm : (t : Int) < pw (i + 1) := by rw [← ht]; exact pow_lt_pw 2 i (by decide)
      have ht1 : 1 ≤ t := by rw [← ht]; exact Nat.one_le_two_pow
      have ht2 : t ≤ 1152921504606846976 := by
        rw [← ht, show (1152921504606846976 : Nat) = 2 ^ 60 by decide]
        exact Nat.pow_le_pow_right (by decide) (by omega)
      rw [ht] at cP
      have HT := Lib.hid ht
      clear ht
      go_wp2_with fail
      refine cP.mono ?_
      rintro e w1 ⟨v1, rfl, hv1, hb1⟩
      have hbl1 := hbl.trans (hb1.mono hbl.size)
      have hpv1 := hpv.below hb1
      go_wp2_with fail
      refine (mul_any _ _ t q (i + 1) m w1 htm hq (by omega) (by omega) hv1 (hb.below hbl1)).mono ?_
      rintro e w2 ⟨v2, rfl, hv2, hb2⟩
      have hbl2 := hbl1.trans (hb2.mono hbl1.size)
      have hpv2 := hpv1.below hb2
      have hPp : P ≤ p := by rw [← HPN.out]; omega
      have hPm : (P : Int) < pw m := by omega
      go_wp2_with fail
      refine (cmp_any _ _ P (t * q) (i + 1 + m) w2 (lt_pw_of hPm (by omega)) (mul_lt_pw htm hq) (by omega) hpv2 hv2).mono ?_
      rintro e w3 ⟨c, rfl, ⟨hc1, hc2⟩, r, rfl⟩
      have hpv3 : IsN (w2.drewN r) _ P := hpv2
      have hv3 : IsN (w2.drewN r) v2 (t * q) := hv2
      have hbl3 : Below w.heap.size w (w2.drewN r) := below_drewN hbl2 r
      by_cases hcc : 0 ≤ c
      · have hle : t * q ≤ P := by omega
        clear hc1 hc2 hpv1 hpv2 hbl1 hbl2 hv1 hv2 hb1 hb2
        go_wp2_with fail
        refine (sub_any _ _ P (t * q) (i + 1 + m) (w2.drewN r) (lt_pw_of hPm (by omega)) hle (by omega) hpv3 hv3).mono ?_
        rintro e w4 ⟨v4, rfl, hv4, hb4⟩
        have hbl4 := hbl3.trans (hb4.mono hbl3.size)
        go_wp2
        have hti : (2 : Int) ^ i = (t : Int) := by rw [← HT.out, Int.natCast_pow]; rfl
        have hsum : P - t * q + (N + t) * q = p := by rw [← HPN.out, Nat.add_mul]; omega
        have hNt : N + t < 2305843009213693952 := by
          rcases Nat.lt_or_ge (N + t) 2305843009213693952 with hlt | hge
          · exact hlt
          · have := Nat.mul_le_mul_right q hge
            omega
        refine ⟨⟨P - t * q, N + t, i, ?_, rfl, by omega, hsum, hNt, ?_, hv4, hbl4⟩, ?_⟩
        · rw [hti, IntKind.wrap_u64, IntKind.wrap_u64]
          congr 1
          omega
        · have := HP.out
          rw [Nat.pow_succ, HT.out] at this
          rw [HT.out]
          have e : t * 2 * q = t * q + t * q := by grind
          omega
        · simp [intOf]
      · have hlt : P < t * q := by omega
        clear hc1 hc2 hpv1 hpv2 hbl1 hbl2 hv1 hv2 hb1 hb2
        go_wp2
        refine ⟨⟨P, N, i, rfl, rfl, by omega, HPN.out, hN, by rw [HT.out]; exact hlt, hpv3, hbl3⟩, ?_⟩
        simp [intOf]
    · have hI0 : I = 0 := by omega
      subst hI0
      rw [Nat.pow_zero, Nat.one_mul] at hP
      have hq0 : 0 < q := by omega
      have e1 : p / q = N := by
        rw [← hPN, Nat.add_mul_div_right _ _ hq0, Nat.div_eq_of_lt hP, Nat.zero_add]
      have e2 : p % q = P := by
        rw [← hPN, Nat.add_mul_mod_self_right, Nat.mod_eq_of_lt hP]
      go_wp2
      go_ret2
      rw [e1, e2]
      exact ⟨_, rfl, hpv, hbl⟩
end Go.Proofs.YtmhbkilidpbenaaGreatDoor
