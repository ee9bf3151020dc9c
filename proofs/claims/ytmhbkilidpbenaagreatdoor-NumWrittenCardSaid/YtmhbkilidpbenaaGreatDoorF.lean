/- Contracts of the reference's Power, Quo. -/
import Derived.Test.YtmhbkilidpbenaaGreatDoorE
namespace Go.Proofs.YtmhbkilidpbenaaGreatDoor
open Go.RowKit

theorem pow_lt_pw (b r : Nat) (hb : b < 65536) : ((b ^ r : Nat) : Int) < pw (r + 1) := by
  have h1 : b ^ r ≤ 65536 ^ r := Nat.pow_le_pow_left (by omega) r
  have h2 : 0 < 65536 ^ r := Nat.pow_pos (by decide)
  have h3 : b ^ r < 65536 ^ (r + 1) := by rw [Nat.pow_succ]; omega
  have e : pw (r + 1) = ((65536 ^ (r + 1) : Nat) : Int) := by
    unfold pw
    rw [Int.natCast_pow]
    rfl
  rw [e]
  exact Int.ofNat_lt.2 h3

set_option maxHeartbeats 3200000 in
set_option maxRecDepth 100000 in
theorem power_any (b : Nat) (n : Int) (w : World) (hb : b < 65536) (hn : n ≤ 1000000000000) (hn0 : -9223372036854775808 ≤ n) :
    Calls Tryz.prog 61 #[.int .u64 b, .int .i64 n] w fun e w' => ∃ v, e = .returned v ∧ IsN w' v (b ^ n.toNat) ∧ Below w.heap.size w w' := by
  have n1 : Calls Tryz.prog 14 #[.int .u64 1] w fun e w' => ∃ v, e = .returned v ∧ IsN w' v 1 ∧ Below w.heap.size w w' := nat_any 1 w (by omega)
  have n2 := fun W => nat_any b W (by omega)
  obtain ⟨X, hX⟩ : ∃ X, b ^ n.toNat = X := ⟨_, rfl⟩
  rw [hX]
  have HX := Lib.hid hX
  clear hX
  go_enter Tryz.func61, Tryz.ntmps61
  go_wp2_with fail
  refine n1.mono ?_
  rintro e w1 ⟨v1, rfl, hv1, hb1⟩
  go_wp2_with fail
  refine (n2 w1).mono ?_
  rintro e w2 ⟨v2, rfl, hv2, hb2⟩
  have hz1 := hb1.size
  have hz2 := hb2.size
  have hb12 := hb1.trans (hb2.mono hz1)
  have hv1' := hv1.below hb2
  clear n1 n2 hv1 hb1 hb2
  go_wp2
  go_loopw [1, 5, 6] (fun nv ov bv wr => ∃ (N : Int) (R T : Nat), nv = .int .i64 N ∧ -9223372036854775808 ≤ N ∧ N ≤ 1000000000000 ∧ R + T * N.toNat = n.toNat ∧ IsN wr ov (b ^ R) ∧ IsN wr bv (b ^ T) ∧ Below w.heap.size w wr) (fun nv _ _ _ => (intOf nv).toNat)
  case atStart => exact ⟨n, 0, 1, rfl, hn0, hn, by omega, by rw [Nat.pow_zero]; exact hv1', by rw [Nat.pow_one]; exact hv2, hb12⟩
  case round =>
    clear hb12 hv1' hv2 hz1 hz2 w1 w2
    obtain ⟨N, R, T, rfl, hN0, hN1, hRT, hov, hbv, hbl⟩ := hrel
    by_cases h0 : 0 < N
    · have hTn : T ≤ n.toNat := by
        have : T * 1 ≤ T * N.toNat := Nat.mul_le_mul_left _ (by omega)
        omega
      have hR : R ≤ n.toNat := by omega
      have HRT := Lib.hid hRT
      clear hRT
      by_cases h1 : N % 2 = 1
      · have hmod : Int.tmod N 2 = 1 := by rw [Int.tmod_eq_emod_of_nonneg (by omega)]; exact h1
        go_wp2_with fail
        refine (mul_any _ _ (b ^ R) (b ^ T) (R + 1) (T + 1) wr (pow_lt_pw b R hb) (pow_lt_pw b T hb) (by omega) (by omega) hov hbv).mono ?_
        rintro e w3 ⟨v3, rfl, hv3, hb3⟩
        have hbv3 := hbv.below hb3
        go_wp2_with fail
        refine (mul_any _ _ (b ^ T) (b ^ T) (T + 1) (T + 1) w3 (pow_lt_pw b T hb) (pow_lt_pw b T hb) (by omega) (by omega) hbv3 hbv3).mono ?_
        rintro e w4 ⟨v4, rfl, hv4, hb4⟩
        have hv34 := hv3.below hb4
        have hbl4 := (hbl.trans (hb3.mono hbl.size)).trans (hb4.mono (Nat.le_trans hbl.size hb3.size))
        clear hbv3 hv3 hb3 hb4 hov hbv hbl
        go_wp2
        go_roundw
        case rel => exact ⟨N / 2, R + T, T + T, by go_num, by omega, by omega, by
          have h := HRT.out
          rw [← h, show N.toNat = 2 * (N / 2).toNat + 1 by omega]
          grind, by rw [Nat.pow_add]; exact hv34, by rw [Nat.pow_add]; exact hv4, hbl4⟩
        case measure => simp [intOf]; omega
      · have hmod : Int.tmod N 2 = 0 := by rw [Int.tmod_eq_emod_of_nonneg (by omega)]; omega
        go_wp2_with fail
        refine (mul_any _ _ (b ^ T) (b ^ T) (T + 1) (T + 1) wr (pow_lt_pw b T hb) (pow_lt_pw b T hb) (by omega) (by omega) hbv hbv).mono ?_
        rintro e w4 ⟨v4, rfl, hv4, hb4⟩
        have hv34 := hov.below hb4
        have hbl4 := hbl.trans (hb4.mono hbl.size)
        clear hb4 hov hbv hbl
        go_wp2
        go_roundw
        case rel => exact ⟨N / 2, R, T + T, by go_num, by omega, by omega, by
          have h := HRT.out
          rw [← h, show N.toNat = 2 * (N / 2).toNat by omega]
          grind, hv34, by rw [Nat.pow_add]; exact hv4, hbl4⟩
        case measure => simp [intOf]; omega
    · go_wp2
      go_ret
      refine ⟨_, rfl, ?_, hbl⟩
      rw [← HX.out, ← hRT, show N.toNat = 0 by omega, Nat.mul_zero, Nat.add_zero]
      exact hov
end Go.Proofs.YtmhbkilidpbenaaGreatDoor
