/- Contracts of math's Abs, IsInf, IsNaN, normalize, ldexp, Ldexp over numbers that are not negative. -/
import Derived.Test.YtmhbkilidpbenaaGreatDoorR
import Derived.Laws.BitsAllLaws
namespace Go.Proofs.YtmhbkilidpbenaaGreatDoor
open Go.RowKit

theorem nosign (r : Nat) (h : r < 9223372036854775808) : bits .andNot .u64 (r : Int) 9223372036854775808 = (r : Int) := by
  have e := u64_andNot_nat r 9223372036854775808 (by omega) (by omega)
  have e2 : (18446744073709551615 - 9223372036854775808 : Nat) = 2 ^ 63 - 1 := by decide
  rw [e2, Nat.and_two_pow_sub_one_eq_mod, Nat.mod_eq_of_lt (by omega)] at e
  exact e
theorem noexp (r : Nat) (h : r < 9223372036854775808) : bits .andNot .u64 (r : Int) 9218868437227405312 = ((r % 4503599627370496 : Nat) : Int) := by
  have e := u64_andNot_nat r 9218868437227405312 (by omega) (by omega)
  have e2 : (18446744073709551615 - 9218868437227405312 : Nat) = 2 ^ 63 ||| (2 ^ 52 - 1) := by decide
  have e3 : r &&& 2 ^ 63 = 0 := by
    apply Nat.eq_of_testBit_eq
    intro i
    rw [Nat.testBit_and, Nat.testBit_two_pow, Nat.zero_testBit]
    by_cases hi : 63 = i
    · subst hi
      rw [Nat.testBit_lt_two_pow (show r < 2 ^ 63 by omega)]
      rfl
    · simp [hi]
  rw [e2, Nat.and_or_distrib_left, e3, Nat.zero_or, Nat.and_two_pow_sub_one_eq_mod] at e
  exact e

set_option maxHeartbeats 1600000 in
set_option maxRecDepth 100000 in
theorem abs_any (r : Nat) (w : World) (h : r ≤ 9218868437227405312) :
    Calls Tryz.prog 41 #[.float .f64 r] w fun e w' => e = .returned (.float .f64 r) ∧ w = w' := by
  have hx := ext_bits 56 (.inl rfl) r w
  have hy := fun n => ext_frombits n w
  have hz := nosign r (by omega)
  go_enter Tryz.func41, Tryz.ntmps41
  go_wp2
  go_ret
  exact ⟨rfl, rfl⟩
set_option maxHeartbeats 1600000 in
set_option maxRecDepth 100000 in
theorem isinf_any (r : Nat) (w : World) (h : r < 9218868437227405312) :
    Calls Tryz.prog 20 #[.float .f64 r, .int .i64 0] w fun e w' => e = .returned (.bool false) ∧ w = w' := by
  have hg : (FloatKind.f64.format.order r 9218868437227405311 == some .gt) = false := by
    rw [f_gt (by omega) (by omega)]; simp; omega
  go_enter Tryz.func20, Tryz.ntmps20
  go_wp2_with (go_at_call 41; refine (abs_any _ _ (by omega)).mono ?_; rintro e w' ⟨rfl, rfl⟩)
  go_ret
  exact ⟨rfl, rfl⟩
set_option maxHeartbeats 1600000 in
set_option maxRecDepth 100000 in
theorem isnan_any (r : Nat) (w : World) (h : r ≤ 9218868437227405312) :
    Calls Tryz.prog 111 #[.float .f64 r] w fun e w' => e = .returned (.bool false) ∧ w = w' := by
  have hg : (FloatKind.f64.format.order r r != some .eq) = false := by
    rw [bne, f_eq h h]; simp
  go_enter Tryz.func111, Tryz.ntmps111
  go_wp2
  go_ret
  exact ⟨rfl, rfl⟩
set_option maxHeartbeats 1600000 in
set_option maxRecDepth 100000 in
theorem normal_any (r : Nat) (w : World) (h0 : 4503599627370496 ≤ r) (h : r ≤ 9218868437227405312) :
    Calls Tryz.prog 143 #[.float .f64 r] w fun e w' => e = .returned (.tuple #[.float .f64 r, .int .i64 0]) ∧ w = w' := by
  have hg : (FloatKind.f64.format.order r 4503599627370496 == some .lt) = false := by
    rw [f_lt h (by omega)]; simp; omega
  go_enter Tryz.func143, Tryz.ntmps143
  go_wp2_with (go_at_call 41; refine (abs_any _ _ (by omega)).mono ?_; rintro e w' ⟨rfl, rfl⟩)
  go_ret2
  exact ⟨rfl, rfl⟩

theorem mul_one (y : Nat) (h0 : 0 < y) (h : y < 9218868437227405312) : floatBits .mul .f64 4607182418800017408 y = some y := by
  show Ieee.double.mul 4607182418800017408 y = some y
  unfold Ieee.Format.mul
  rw [read_pos h, read_pos (by omega)]
  show some (Ieee.double.nearest false (4503599627370496 * mant y) (-52 + expo y)) = some y
  have hx := expo_ge y
  rw [nearest_exact y _ _ 2000 h0 h (by omega) (by omega)]
  rw [show expo y + 2000 = (expo y + 1948) + 52 by omega, show -52 + expo y + 2000 = expo y + 1948 by omega]
  rw [show (expo y + 1948 + 52).toNat = (expo y + 1948).toNat + 52 by omega, Nat.pow_add]
  grind
theorem fl_run (op : BinOp) (x y r : Nat) (h : floatBits op .f64 x y = some r) (w : World) : (binOp op 23 (.float .f64 x) (.float .f64 y)).run Tryz.prog w = .ok (.float .f64 r) w :=
  run_float_arith w op 23 .f64 x y r h

theorem mask11 (q : Nat) (h : q < 2048) : bits .and .i64 (q : Int) 2047 = (q : Int) := by
  have e : bits .and .i64 (q : Int) 2047 = (q : Int) % 2048 := bits_mask .i64 63 (by decide) (fun n h0 h1 => IntWalk.i64_in n (by omega)) 11 (by decide) (q : Int) (by omega) (by omega)
  rw [e]; omega
theorem orexp (f k : Nat) (z : Int) (hf : f < 4503599627370496) (hk : k < 2048) (hz : z = k) : bits .or .u64 (f : Int) (z * 4503599627370496) = ((k * 4503599627370496 + f : Nat) : Int) := by
  subst hz
  have e := u64_or_nat f (k * 4503599627370496) (by omega) (by omega)
  rw [Nat.or_comm, nat_join 52 _ _ (by omega) (by omega)] at e
  rw [← e]
  rfl

set_option maxHeartbeats 3200000 in
set_option maxRecDepth 100000 in
theorem ldexp_mid (q f : Nat) (e : Int) (w : World) (hq0 : 0 < q) (hq1 : q < 2047) (hf : f < 4503599627370496) (he0 : -1074 ≤ e) (he1 : e ≤ 971) (k : Nat) (hk : (k : Int) = e + q) (hk0 : 0 < k) (hk1 : k < 2047) :
    Calls Tryz.prog 115 #[.float .f64 (q * 4503599627370496 + f : Nat), .int .i64 e] w fun ee w' => ee = .returned (.float .f64 (k * 4503599627370496 + f)) ∧ w = w' := by
  obtain ⟨s, hs⟩ : ∃ s, q * 4503599627370496 + f = s := ⟨_, rfl⟩
  rw [hs]
  have hs0 : 4503599627370496 ≤ s := by omega
  have hs1 : s < 9218868437227405312 := by omega
  have g1 : (FloatKind.f64.format.order s 0 == some .eq) = false := by rw [f_eq (by omega) (by omega)]; simp; omega
  have hx := ext_bits 56 (.inl rfl) s w
  have hy := fun n => ext_frombits n w
  have d1 : (s : Int) / 4503599627370496 = (q : Int) := by omega
  have d2 : bits .and .i64 (q : Int) 2047 = (q : Int) := mask11 q (by omega)
  have d3 := noexp s (by omega)
  rw [show s % 4503599627370496 = f by omega] at d3
  obtain ⟨y, hyy⟩ : ∃ y, k * 4503599627370496 + f = y := ⟨_, rfl⟩
  have d4 := orexp f k (e + ((q : Int) - 1023) + 1023) hf (by omega) (by omega)
  have d5 := fl_run .mul _ y _ (mul_one y (by omega) (by omega)) w
  rw [hyy] at d4 ⊢
  go_enter Tryz.func115, Tryz.ntmps115
  go_wp2_with (first | (go_at_call 20; refine (isinf_any _ _ (by omega)).mono ?_; rintro e w' ⟨rfl, rfl⟩) | (go_at_call 111; refine (isnan_any _ _ (by omega)).mono ?_; rintro e w' ⟨rfl, rfl⟩) | (go_at_call 143; refine (normal_any _ _ (by omega) (by omega)).mono ?_; rintro e w' ⟨rfl, rfl⟩))
  go_ret
  exact ⟨rfl, rfl⟩

set_option maxHeartbeats 3200000 in
set_option maxRecDepth 100000 in
theorem ldexp_low (q f : Nat) (e : Int) (w : World) (hq0 : 0 < q) (hq1 : q < 2047) (hf : f < 4503599627370496) (he0 : -1074 ≤ e) (he1 : e ≤ 971) (k r : Nat) (hk : (k : Int) = e + q + 53) (hk0 : 0 < k) (hk1 : k ≤ 53)
    (hr : floatBits .mul .f64 4368491638549381120 (k * 4503599627370496 + f) = some r) (_ : -1075 ≤ e + ((q : Int) - 1023)) :
    Calls Tryz.prog 115 #[.float .f64 (q * 4503599627370496 + f : Nat), .int .i64 e] w fun ee w' => ee = .returned (.float .f64 r) ∧ w = w' := by
  obtain ⟨s, hs⟩ : ∃ s, q * 4503599627370496 + f = s := ⟨_, rfl⟩
  rw [hs]
  have hs0 : 4503599627370496 ≤ s := by omega
  have hs1 : s < 9218868437227405312 := by omega
  have g1 : (FloatKind.f64.format.order s 0 == some .eq) = false := by rw [f_eq (by omega) (by omega)]; simp; omega
  have hx := ext_bits 56 (.inl rfl) s w
  have hy := fun n => ext_frombits n w
  have d1 : (s : Int) / 4503599627370496 = (q : Int) := by omega
  have d2 : bits .and .i64 (q : Int) 2047 = (q : Int) := mask11 q (by omega)
  have d3 := noexp s (by omega)
  rw [show s % 4503599627370496 = f by omega] at d3
  obtain ⟨y, hyy⟩ : ∃ y, k * 4503599627370496 + f = y := ⟨_, rfl⟩
  have d4 := orexp f k (e + ((q : Int) - 1023) + 53 + 1023) hf (by omega) (by omega)
  rw [hyy] at hr d4
  have d5 := fl_run .mul _ y _ hr w
  go_enter Tryz.func115, Tryz.ntmps115
  go_wp2_with (first | (go_at_call 20; refine (isinf_any _ _ (by omega)).mono ?_; rintro e w' ⟨rfl, rfl⟩) | (go_at_call 111; refine (isnan_any _ _ (by omega)).mono ?_; rintro e w' ⟨rfl, rfl⟩) | (go_at_call 143; refine (normal_any _ _ (by omega) (by omega)).mono ?_; rintro e w' ⟨rfl, rfl⟩))
  go_ret
  exact ⟨rfl, rfl⟩

set_option maxHeartbeats 3200000 in
set_option maxRecDepth 100000 in
theorem inf_any (w : World) : Calls Tryz.prog 84 #[.int .i64 1] w fun ee w' => ee = .returned (.float .f64 9218868437227405312) ∧ w = w' := by
  have hy := fun n => ext_frombits n w
  go_enter Tryz.func84, Tryz.ntmps84
  go_wp2
  go_ret
  exact ⟨rfl, rfl⟩

set_option maxHeartbeats 3200000 in
set_option maxRecDepth 100000 in
theorem ldexp_high (q f : Nat) (e : Int) (w : World) (hq0 : 0 < q) (hq1 : q < 2047) (hf : f < 4503599627370496) (he0 : -1074 ≤ e) (he1 : e ≤ 971) (hk1 : 2047 ≤ e + q) :
    Calls Tryz.prog 115 #[.float .f64 (q * 4503599627370496 + f : Nat), .int .i64 e] w fun ee w' => ee = .returned (.float .f64 9218868437227405312) ∧ w = w' := by
  obtain ⟨s, hs⟩ : ∃ s, q * 4503599627370496 + f = s := ⟨_, rfl⟩
  rw [hs]
  have hs0 : 4503599627370496 ≤ s := by omega
  have hs1 : s < 9218868437227405312 := by omega
  have g1 : (FloatKind.f64.format.order s 0 == some .eq) = false := by rw [f_eq (by omega) (by omega)]; simp; omega
  have hx := ext_bits 56 (.inl rfl) s w
  have hy := fun n => ext_frombits n w
  have d1 : (s : Int) / 4503599627370496 = (q : Int) := by omega
  have d2 : bits .and .i64 (q : Int) 2047 = (q : Int) := mask11 q (by omega)
  have d3 := noexp s (by omega)
  rw [show s % 4503599627370496 = f by omega] at d3
  have g2 : (FloatKind.f64.format.order s 0 == some .lt) = false := by rw [f_lt (by omega) (by omega)]; simp
  go_enter Tryz.func115, Tryz.ntmps115
  go_wp2_with (first | (go_at_call 20; refine (isinf_any _ _ (by omega)).mono ?_; rintro e w' ⟨rfl, rfl⟩) | (go_at_call 111; refine (isnan_any _ _ (by omega)).mono ?_; rintro e w' ⟨rfl, rfl⟩) | (go_at_call 143; refine (normal_any _ _ (by omega) (by omega)).mono ?_; rintro e w' ⟨rfl, rfl⟩))
  refine (inf_any _).mono ?_
  rintro e w' ⟨rfl, rfl⟩
  go_wp2
  go_ret
  exact ⟨rfl, rfl⟩

set_option maxHeartbeats 3200000 in
set_option maxRecDepth 100000 in
theorem ldexp_zero (e : Int) (w : World) :
    Calls Tryz.prog 115 #[.float .f64 0, .int .i64 e] w fun ee w' => ee = .returned (.float .f64 0) ∧ w = w' := by
  have g1 : (FloatKind.f64.format.order 0 0 == some .eq) = true := by rw [f_eq (by omega) (by omega)]; simp
  go_enter Tryz.func115, Tryz.ntmps115
  go_wp2
  go_ret
  exact ⟨rfl, rfl⟩

set_option maxHeartbeats 3200000 in
set_option maxRecDepth 100000 in
theorem Ldexp_of (s r : Nat) (e : Int) (w : World) (h : Calls Tryz.prog 115 #[.float .f64 s, .int .i64 e] w fun ee w' => ee = .returned (.float .f64 r) ∧ w = w') :
    Calls Tryz.prog 85 #[.float .f64 s, .int .i64 e] w fun ee w' => ee = .returned (.float .f64 r) ∧ w = w' := by
  go_enter Tryz.func85, Tryz.ntmps85
  go_wp2_with fail
  refine h.mono ?_
  rintro e w' ⟨rfl, rfl⟩
  go_wp2
  go_ret
  exact ⟨rfl, rfl⟩
end Go.Proofs.YtmhbkilidpbenaaGreatDoor
