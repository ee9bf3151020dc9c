/- Contracts of the small functions of the program's scaling. Each lemma's conditions stand in its own statement. -/
import Derived.Test.YtmhbkilidpbenaaGreatDoorZg
import Derived.Laws.BitsAllLaws
import Derived.BigQuiet
import Derived.Deep.QuietTactic
namespace Go.Proofs.YtmhbkilidpbenaaGreatDoor
open Go.RowKit

set_option maxRecDepth 100000 in
theorem log10pow2_any (x : Int) (w : World) (h0 : -100000 ≤ x) (h1 : x ≤ 100000) : Calls Tryz.prog 95 #[.int .i64 x] w fun e w' => e = .returned (.int .i64 (l10 x)) ∧ w = w' := by
  unfold l10
  go_enter Tryz.func95, Tryz.ntmps95
  go_wp2
  go_ret
  exact ⟨rfl, rfl⟩
set_option maxRecDepth 100000 in
theorem log2pow10_any (x : Int) (w : World) (h0 : -100000 ≤ x) (h1 : x ≤ 100000) : Calls Tryz.prog 121 #[.int .i64 x] w fun e w' => e = .returned (.int .i64 (l2 x)) ∧ w = w' := by
  unfold l2
  go_enter Tryz.func121, Tryz.ntmps121
  go_wp2
  go_ret
  exact ⟨rfl, rfl⟩
set_option maxRecDepth 100000 in
theorem skewed_any (x : Int) (w : World) (h0 : -100000 ≤ x) (h1 : x ≤ 100000) : Calls Tryz.prog 119 #[.int .i64 x] w fun e w' => e = .returned (.int .i64 (skw x)) ∧ w = w' := by
  unfold skw
  go_enter Tryz.func119, Tryz.ntmps119
  go_wp2
  go_ret
  exact ⟨rfl, rfl⟩
theorem bool2u_t (w : World) : Calls Tryz.prog 144 #[.bool true] w fun e w' => e = .returned (.int .u64 1) ∧ w' = w := by
  go_enter Tryz.func144, Tryz.ntmps144
  go_wp2
  go_ret
  exact ⟨rfl, rfl⟩
theorem bool2u_f (w : World) : Calls Tryz.prog 144 #[.bool false] w fun e w' => e = .returned (.int .u64 0) ∧ w' = w := by
  go_enter Tryz.func144, Tryz.ntmps144
  go_wp2
  go_ret
  exact ⟨rfl, rfl⟩
theorem bool2i_t (w : World) : Calls Tryz.prog 127 #[.bool true] w fun e w' => e = .returned (.int .i64 1) ∧ w' = w := by
  go_enter Tryz.func127, Tryz.ntmps127
  go_wp2
  go_ret
  exact ⟨rfl, rfl⟩
theorem bool2i_f (w : World) : Calls Tryz.prog 127 #[.bool false] w fun e w' => e = .returned (.int .i64 0) ∧ w' = w := by
  go_enter Tryz.func127, Tryz.ntmps127
  go_wp2
  go_ret
  exact ⟨rfl, rfl⟩
theorem or_one (q : Nat) (h : q < 18446744073709551616) : bits .or .u64 (q : Int) 1 = ((q / 2 * 2 + 1 : Nat) : Int) := by
  have e := u64_or_nat q 1 h (by omega)
  have e2 : q ||| 1 = q / 2 * 2 + 1 := by
    have h1 : (q ||| 1) / 2 = q / 2 := by rw [Nat.or_div_two]; simp
    have h2 : (q ||| 1) % 2 = 1 := by rw [Nat.or_mod_two_eq_one]; right; rfl
    omega
  rw [e2] at e
  exact e
theorem or_zero (q : Nat) (h : q < 18446744073709551616) : bits .or .u64 (q : Int) 0 = (q : Int) := by
  have e := u64_or_nat q 0 h (by omega)
  rw [Nat.or_zero] at e
  exact e
theorem and_one (q : Int) (h0 : 0 ≤ q) (h : q < 18446744073709551616) : bits .and .u64 q 1 = q % 2 :=
  bits_mask .u64 64 (by decide) (fun n h0 h1 => IntWalk.u64_in n (by omega)) 1 (by decide) q h0 h
theorem u64_wrap (n : Int) (h0 : 0 ≤ n) (h1 : n < 18446744073709551616) : IntKind.u64.wrap n = n := IntWalk.u64_in n (by omega)
theorem u64_neg (n : Int) (h0 : -18446744073709551616 ≤ n) (h1 : n < 0) : IntKind.u64.wrap n = n + 18446744073709551616 := by
  simp [IntKind.wrap, IntKind.bits, IntKind.signed]; omega
set_option maxRecDepth 100000 in
theorem nudge_any (u : Nat) (d : Int) (w : World) (h : u < 1152921504606846976) (hu : 0 < u) (hd0 : -1 ≤ d) (hd1 : d ≤ 1) : Calls Tryz.prog 123 #[.int .u64 u, .int .i64 d] w fun e w' => e = .returned (.int .u64 ((u : Int) + d)) ∧ w = w' := by
  have e : IntKind.u64.wrap ((u : Int) + IntKind.u64.wrap d) = (u : Int) + d := by
    rcases Int.lt_or_le d 0 with g | g
    · rw [u64_neg d (by omega) g]
      simp only [IntKind.wrap, IntKind.bits, IntKind.signed]
      simp
      omega
    · rw [u64_wrap d g (by omega), u64_wrap _ (by omega) (by omega)]
  have HE := Lib.hid e
  clear e
  go_enter Tryz.func123, Tryz.ntmps123
  go_wp2
  go_ret
  rw [HE.out]
  exact ⟨rfl, rfl⟩
set_option maxRecDepth 100000 in
theorem ceil_any (u : Nat) (w : World) (h : u < 1152921504606846978) : Calls Tryz.prog 124 #[.int .u64 u] w fun e w' => e = .returned (.int .u64 (((u + 3) / 4 : Nat) : Int)) ∧ w = w' := by
  go_enter Tryz.func124, Tryz.ntmps124
  go_wp2
  go_ret
  exact ⟨ret_int (by omega), rfl⟩
set_option maxRecDepth 100000 in
theorem ufloor_any (u : Nat) (w : World) (h : u < 1152921504606846978) : Calls Tryz.prog 125 #[.int .u64 u] w fun e w' => e = .returned (.int .u64 ((u / 4 : Nat) : Int)) ∧ w = w' := by
  go_enter Tryz.func125, Tryz.ntmps125
  go_wp2
  go_ret
  exact ⟨ret_int (by omega), rfl⟩
set_option maxRecDepth 100000 in
theorem uround_any (u : Nat) (w : World) (h : u < 1152921504606846978) : Calls Tryz.prog 126 #[.int .u64 u] w fun e w' => e = .returned (.int .u64 (rndOf u : Nat)) ∧ w = w' := by
  have e1 := and_one ((u : Int) / 4) (by omega) (by omega)
  have e2 : IntKind.u64.wrap ((u : Int) + 1 + (u : Int) / 4 % 2) = (u : Int) + 1 + (u : Int) / 4 % 2 := u64_wrap _ (by omega) (by omega)
  go_enter Tryz.func126, Tryz.ntmps126
  go_wp2
  go_ret
  exact ⟨ret_int (by unfold rndOf; omega), rfl⟩

theorem mul_hi_le (x lo : Nat) (hx : x < 18446744073709551616) (hl : lo < 18446744073709551616) : x * lo / 18446744073709551616 + 2 ≤ 18446744073709551616 := by
  have h : x * lo ≤ 18446744073709551615 * 18446744073709551615 := Nat.mul_le_mul (by omega) (by omega)
  omega
theorem cast_shr (H s : Nat) : (H : Int) / 2 ^ s = ((H / 2 ^ s : Nat) : Int) := by
  rw [Int.natCast_ediv, Int.natCast_pow]
  rfl
theorem cast_shl (Q s : Nat) : (Q : Int) * 2 ^ s = ((Q * 2 ^ s : Nat) : Int) := by
  rw [Int.natCast_mul, Int.natCast_pow]
  rfl
set_option maxRecDepth 100000 in
set_option maxHeartbeats 1600000 in
theorem uscale_any (x hi lo s g : Nat) (w : World) (hx : x < 18446744073709551616) (hh : hi < 18446744073709551616) (hl : lo < 18446744073709551616) (hs : s < 64) (hH1 : 1 ≤ x * hi / 18446744073709551616)
    (k0 : w.cell? ⟨g, 0, none⟩ = some (.int .u64 hi)) (k1 : w.cell? ⟨g, 1, none⟩ = some (.int .u64 lo)) (k2 : w.cell? ⟨g, 2, none⟩ = some (.int .i64 s)) :
    Calls Tryz.prog 122 #[.int .u64 x, .pointer (some ⟨g, 0, none⟩)] w fun e w' => e = .returned (.int .u64 (usc x hi lo s : Nat)) ∧ ∃ q, w' = w.drewN q := by
  have c1 := Tryz.bits_Mul64 x hi hx hh w
  have c2 := Tryz.bits_Mul64 x lo hx hl
  have hD2b := mul_hi_le x lo hx hl
  have hDb : x * hi % 18446744073709551616 < 18446744073709551616 := Nat.mod_lt _ (by omega)
  have hHb : x * hi / 18446744073709551616 < 18446744073709551616 := by
    rw [Nat.div_lt_iff_lt_mul (by omega)]
    exact Nat.mul_lt_mul'' hx hh
  have husc : usc x hi lo s = usc x hi lo s := rfl
  conv at husc => rhs; unfold usc
  obtain ⟨H, hH⟩ : ∃ H, x * hi / 18446744073709551616 = H := ⟨_, rfl⟩
  obtain ⟨D, hD⟩ : ∃ D, x * hi % 18446744073709551616 = D := ⟨_, rfl⟩
  obtain ⟨D2, hD2⟩ : ∃ D2, x * lo / 18446744073709551616 = D2 := ⟨_, rfl⟩
  obtain ⟨L2, hL2⟩ : ∃ L2, x * lo % 18446744073709551616 = L2 := ⟨_, rfl⟩
  rw [hH] at hH1 hHb
  rw [hD] at hDb
  rw [hD2] at hD2b
  rw [hH, hD] at c1
  rw [hD2, hL2] at c2
  rw [hH, hD, hD2] at husc
  clear hH hD hD2 hL2
  have ms : bits .and .i64 (s : Int) 63 = (s : Int) := by
    have e : bits .and .i64 (s : Int) 63 = (s : Int) % 64 := bits_mask .i64 63 (by decide) (fun n h0 h1 => IntWalk.i64_in n (by omega)) 6 (by decide) (s : Int) (by omega) (by omega)
    rw [e]; omega
  have hQ := cast_shr H s
  obtain ⟨Q, hQe⟩ : ∃ Q, H / 2 ^ s = Q := ⟨_, rfl⟩
  rw [hQe] at hQ husc
  have hR := cast_shl Q s
  have hQH : Q ≤ H := by rw [← hQe]; exact Nat.div_le_self _ _
  have hR0 : Q * 2 ^ s + H % 2 ^ s = H := by rw [← hQe, Nat.mul_comm]; exact Nat.div_add_mod _ _
  obtain ⟨R, hRe⟩ : ∃ R, Q * 2 ^ s = R := ⟨_, rfl⟩
  rw [hRe] at hR hR0
  have hwR : IntKind.u64.wrap (R : Int) = (R : Int) := u64_wrap _ (by omega) (by omega)
  have o1 := or_one Q (by omega)
  obtain ⟨V, hV⟩ : ∃ V, usc x hi lo s = V := ⟨_, rfl⟩
  rw [hV] at husc ⊢
  by_cases hz : H % 2 ^ s = 0
  · rw [if_pos hz] at husc
    have hRH : R = H := by omega
    have ht : ((R : Int) != (H : Int)) = false := by simp; omega
    by_cases hlt : D < D2
    · rw [if_pos hlt] at husc
      have hdt : decide ((D : Int) < (D2 : Int)) = true := decide_eq_true (by omega)
      have hdt2 : decide (D < D2) = true := decide_eq_true hlt
      have hsub : IntKind.u64.wrap ((H : Int) - 1) = ((H - 1 : Nat) : Int) := by rw [u64_wrap _ (by omega) (by omega)]; omega
      have hQ1 := cast_shr (H - 1) s
      obtain ⟨Q1, hQ1e⟩ : ∃ Q1, (H - 1) / 2 ^ s = Q1 := ⟨_, rfl⟩
      have hQ1b : Q1 ≤ H - 1 := by rw [← hQ1e]; exact Nat.div_le_self _ _
      rw [hQ1e] at hQ1 husc
      obtain ⟨H1, hH1e⟩ : ∃ H1, H - 1 = H1 := ⟨_, rfl⟩
      rw [hH1e] at hsub hQ1
      have hdd : IntKind.u64.wrap ((D : Int) - (D2 : Int)) = (D : Int) - D2 + 18446744073709551616 := u64_neg _ (by omega) (by omega)
      have hgt : decide ((1 : Int) < (D : Int) - D2 + 18446744073709551616) = true := decide_eq_true (by omega)
      have o2 := or_one Q1 (by omega)
      have HU := Lib.hid husc
      clear husc hV hz hR0 hRe hQe hQ1e hH1e hlt hRH
      go_enter Tryz.func122, Tryz.ntmps122
      go_wp2_with fail
      refine c1.mono ?_
      rintro e1 w1 ⟨rfl, rfl⟩
      go_wp2_with fail
      refine (c2 _).mono ?_
      rintro e2 w2 ⟨rfl, rfl⟩
      go_wp2_with fail
      refine (bool2u_t _).mono ?_
      rintro e3 w3 ⟨rfl, rfl⟩
      go_wp2
      go_quiet ((go_at_call 144; exact Calls.quiet_of_same (bool2u_t _)))
      go_wp2
      go_ret
      exact ⟨ret_int (by (rw [HU.out]) <;> first | assumption | omega | rfl), _, rfl⟩
    · rw [if_neg hlt] at husc
      have hdt : decide ((D : Int) < (D2 : Int)) = false := decide_eq_false (by omega)
      have hdt2 : decide (D < D2) = false := decide_eq_false hlt
      have hsub : IntKind.u64.wrap ((H : Int) - 0) = (H : Int) := by rw [Int.sub_zero]; exact u64_wrap _ (by omega) (by omega)
      have hdd : IntKind.u64.wrap ((D : Int) - (D2 : Int)) = (D : Int) - D2 := u64_wrap _ (by omega) (by omega)
      by_cases hle : D - D2 ≤ 1
      · rw [if_pos hle] at husc
        have hgt : decide ((1 : Int) < (D : Int) - D2) = false := decide_eq_false (by omega)
        have o2 := or_zero Q (by omega)
        have HU := Lib.hid husc
        clear husc hV hz hR0 hRe hQe hlt hRH hle
        go_enter Tryz.func122, Tryz.ntmps122
        go_wp2_with fail
        refine c1.mono ?_
        rintro e1 w1 ⟨rfl, rfl⟩
        go_wp2_with fail
        refine (c2 _).mono ?_
        rintro e2 w2 ⟨rfl, rfl⟩
        go_wp2_with fail
        refine (bool2u_f _).mono ?_
        rintro e3 w3 ⟨rfl, rfl⟩
        go_wp2
        go_quiet ((go_at_call 144; exact Calls.quiet_of_same (bool2u_f _)))
        go_wp2
        go_ret
        exact ⟨ret_int (by (rw [HU.out]) <;> first | assumption | omega | rfl), _, rfl⟩
      · rw [if_neg hle] at husc
        have hgt : decide ((1 : Int) < (D : Int) - D2) = true := decide_eq_true (by omega)
        have HU := Lib.hid husc
        clear husc hV hz hR0 hRe hQe hlt hRH hle
        go_enter Tryz.func122, Tryz.ntmps122
        go_wp2_with fail
        refine c1.mono ?_
        rintro e1 w1 ⟨rfl, rfl⟩
        go_wp2_with fail
        refine (c2 _).mono ?_
        rintro e2 w2 ⟨rfl, rfl⟩
        go_wp2_with fail
        refine (bool2u_f _).mono ?_
        rintro e3 w3 ⟨rfl, rfl⟩
        go_wp2
        go_quiet ((go_at_call 144; exact Calls.quiet_of_same (bool2u_t _)))
        go_wp2
        go_ret
        exact ⟨ret_int (by (rw [HU.out]) <;> first | assumption | omega | rfl), _, rfl⟩
  · rw [if_neg hz] at husc
    have ht : ((R : Int) != (H : Int)) = true := by simp; omega
    have HU := Lib.hid husc
    clear husc hV hz hR0 hRe hQe
    go_enter Tryz.func122, Tryz.ntmps122
    go_wp2_with fail
    refine c1.mono ?_
    rintro e1 w1 ⟨rfl, rfl⟩
    go_wp2
    go_ret
    exact ⟨ret_int (by (rw [HU.out]) <;> first | assumption | omega | rfl), 0, rfl⟩
end Go.Proofs.YtmhbkilidpbenaaGreatDoor
