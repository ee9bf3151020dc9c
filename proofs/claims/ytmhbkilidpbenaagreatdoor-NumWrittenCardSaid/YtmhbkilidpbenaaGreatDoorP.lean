/- Contracts of the reference's Parts, Scaled. -/
import Derived.Test.YtmhbkilidpbenaaGreatDoorH
import Derived.Laws.Externs
import Derived.Laws.FloatArith
namespace Go.Proofs.YtmhbkilidpbenaaGreatDoor
open Go.RowKit

theorem ext_bits (k : Nat) (hk : k = 56 ∨ k = 87) (b : Nat) (w : World) : (callFunc k #[.float .f64 b]).run Tryz.prog w = .ok (.value (.int .u64 b)) w := by
  rcases hk with rfl | rfl
  · rw [run_callFunc_extern (fn := Tryz.f56) (e := Extern.MathFloatBits.float64bits) Tryz.func56 (by kernel_rfl) (by kernel_rfl) (by kernel_rfl) (by kernel_rfl)]
    rfl
  · rw [run_callFunc_extern (fn := Tryz.f87) (e := Extern.MathFloatBits.float64bits) Tryz.func87 (by kernel_rfl) (by kernel_rfl) (by kernel_rfl) (by kernel_rfl)]
    rfl
theorem ext_frombits (n : Int) (w : World) : (callFunc 4 #[.int .u64 n]).run Tryz.prog w = .ok (.value (.float .f64 n.toNat)) w := by
  rw [run_callFunc_extern (fn := Tryz.f4) (e := Extern.MathFloatBits.float64frombits) Tryz.func4 (by kernel_rfl) (by kernel_rfl) (by kernel_rfl) (by kernel_rfl)]
  rfl

theorem ret_pair {k k' : IntKind} {a b c d : Int} (h : a = c) (h' : b = d) : Ending.returned (.tuple #[.int k a, .int k' b]) = .returned (.tuple #[.int k c, .int k' d]) := by rw [h, h']
/-- Of a float's bits: the whole number before the power of two, and the power's exponent. -/
def mant (r : Nat) : Nat := if r < 4503599627370496 then r else 4503599627370496 + r % 4503599627370496
def expo (r : Nat) : Int := if r < 4503599627370496 then -1074 else (r / 4503599627370496 : Nat) - 1075
theorem mant_lt (r : Nat) : mant r < 9007199254740992 := by unfold mant; split <;> omega
theorem mant_pos {r : Nat} (h : 0 < r) : 0 < mant r := by unfold mant; split <;> omega
theorem expo_ge (r : Nat) : -1074 ≤ expo r := by unfold expo; split <;> omega
theorem expo_le {r : Nat} (h : r < 9218868437227405312) : expo r ≤ 971 := by unfold expo; split <;> omega

set_option maxHeartbeats 1600000 in
set_option maxRecDepth 100000 in
theorem parts_any (r : Nat) (w : World) (h : r < 9218868437227405312) :
    Calls Tryz.prog 60 #[.float .f64 r] w fun e w' => e = .returned (.tuple #[.int .u64 (mant r), .int .i64 (expo r)]) ∧ w = w' := by
  have hx := ext_bits 56 (.inl rfl) r w
  obtain ⟨q, hq⟩ : ∃ q, r / 4503599627370496 = q := ⟨_, rfl⟩
  obtain ⟨m, hm⟩ : ∃ m, r % 4503599627370496 = m := ⟨_, rfl⟩
  have hqi : (r : Int) / 4503599627370496 = (q : Int) := by omega
  have hmi : (r : Int) % 4503599627370496 = (m : Int) := by omega
  have hq2 : q < 2048 := by omega
  have hm2 : m < 4503599627370496 := by omega
  have hq3 : (q : Int) % 2048 = (q : Int) := by omega
  by_cases h1 : r < 4503599627370496
  · have e1 : mant r = m := by unfold mant; rw [if_pos h1]; omega
    have e2 : expo r = -1074 := by unfold expo; rw [if_pos h1]
    rw [e1, e2]
    have hq0 : q = 0 := by omega
    subst hq0
    clear e1 e2 hq hm h1 h hq3
    go_enter Tryz.func60, Tryz.ntmps60
    go_wp2
    go_ret2
    exact ⟨ret_pair (by omega) (by omega), rfl⟩
  · have e1 : mant r = m + 4503599627370496 := by unfold mant; rw [if_neg h1]; omega
    have e2 : expo r = (q : Int) - 1075 := by unfold expo; rw [if_neg h1]; omega
    rw [e1, e2]
    have hq0 : 0 < q := by omega
    clear e1 e2 hq hm h1 h
    go_enter Tryz.func60, Tryz.ntmps60
    go_wp2
    go_ret2
    exact ⟨ret_pair (by omega) (by omega), rfl⟩

/-- The number times 10 to the k, as a ratio. -/
def scP (r : Nat) (k : Int) : Nat := mant r * 2 ^ (expo r).toNat * 10 ^ k.toNat
def scQ (r : Nat) (k : Int) : Nat := 2 ^ (-expo r).toNat * 10 ^ (-k).toNat
theorem pw_le_of {m n : Nat} (h : m ≤ n) {x : Nat} (hx : (x : Int) < pw m) : (x : Int) < pw n := Int.lt_of_lt_of_le hx (pw_le h)
theorem u64_pw {x : Nat} (h : x < 18446744073709551616) : (x : Int) < pw 4 := by
  show (x : Int) < 18446744073709551616
  omega
theorem scP_lt (r : Nat) (k : Int) : (scP r k : Int) < pw (4 + ((expo r).toNat + 1) + (k.toNat + 1)) := by
  unfold scP
  exact mul_lt_pw (mul_lt_pw (u64_pw (by have := mant_lt r; omega)) (pow_lt_pw 2 _ (by decide))) (pow_lt_pw 10 _ (by decide))
theorem scQ_lt (r : Nat) (k : Int) : (scQ r k : Int) < pw (((-expo r).toNat + 1) + ((-k).toNat + 1)) := by
  unfold scQ
  exact mul_lt_pw (pow_lt_pw 2 _ (by decide)) (pow_lt_pw 10 _ (by decide))

set_option maxHeartbeats 6400000 in
set_option maxRecDepth 100000 in
theorem scaled_any (r : Nat) (k : Int) (w : World) (h : r < 9218868437227405312) (hk0 : -100000000 ≤ k) (hk1 : k ≤ 100000000) :
    Calls Tryz.prog 36 #[.float .f64 r, .int .i64 k] w fun e w' => ∃ v u, e = .returned (.tuple #[v, u]) ∧ IsN w' v (scP r k) ∧ IsN w' u (scQ r k) ∧ Below w.heap.size w w' := by
  have hm := mant_lt r
  have hx0 := expo_ge r
  have hx1 := expo_le h
  have cP := parts_any r w h
  have HP : Hid (∀ a b, a * 2 ^ (expo r).toNat = b → b * 10 ^ k.toNat = mant r * 2 ^ (expo r).toNat * 10 ^ k.toNat → True) := fun _ _ _ _ => trivial
  unfold scP scQ
  obtain ⟨m, hmm⟩ : ∃ m, mant r = m := ⟨_, rfl⟩
  obtain ⟨e, he⟩ : ∃ e, expo r = e := ⟨_, rfl⟩
  rw [hmm] at hm cP
  rw [he] at hx0 hx1 cP
  rw [hmm, he]
  clear HP hmm he
  obtain ⟨M4, hM4, hm4⟩ : ∃ M4, M4 ≤ 4 ∧ (m : Int) < pw M4 := ⟨4, by omega, u64_pw (by omega)⟩
  obtain ⟨A, hA⟩ : ∃ A, m * 2 ^ e.toNat = A := ⟨_, rfl⟩
  obtain ⟨B, hB⟩ : ∃ B, 2 ^ (-e).toNat = B := ⟨_, rfl⟩
  obtain ⟨C, hC⟩ : ∃ C, A * 10 ^ k.toNat = C := ⟨_, rfl⟩
  obtain ⟨D, hD⟩ : ∃ D, B * 10 ^ (-k).toNat = D := ⟨_, rfl⟩
  rw [hA, hB, hC, hD]
  have HA := Lib.hid hA
  have HB := Lib.hid hB
  have HC := Lib.hid hC
  have HD := Lib.hid hD
  clear hA hB hC hD
  go_enter Tryz.func36, Tryz.ntmps36
  go_wp2_with fail
  refine cP.mono ?_
  rintro e1 w1 ⟨rfl, rfl⟩
  go_wp2_with fail
  refine (nat_any m _ (by omega)).mono ?_
  rintro e1 w1 ⟨v1, rfl, hv1, hb1⟩
  have n1 : Calls Tryz.prog 14 #[.int .u64 1] w1 fun e w' => ∃ v, e = .returned v ∧ IsN w' v 1 ∧ Below w1.heap.size w1 w' := nat_any 1 w1 (by omega)
  go_wp2_with fail
  refine n1.mono ?_
  rintro e2 w2 ⟨v2, rfl, hv2, hb2⟩
  clear n1
  have hbl2 := hb1.trans (hb2.mono hb1.size)
  have hv12 := hv1.below hb2
  clear hb1 hv1 hb2 cP hm
  have HM4 := Lib.hid hm4
  have hAlt : (A : Int) < pw (M4 + (e.toNat + 1)) := by rw [← HA.out]; exact mul_lt_pw hm4 (pow_lt_pw 2 _ (by decide))
  have hBlt : (B : Int) < pw ((-e).toNat + 1) := by rw [← HB.out]; exact pow_lt_pw 2 _ (by decide)
  have HAlt := Lib.hid hAlt
  have HBlt := Lib.hid hBlt
  clear hm4 hAlt hBlt
  by_cases hee : 0 ≤ e
  · have hB1 : B = 1 := by have h1 := HB.out; rw [show (-e).toNat = 0 by omega, Nat.pow_zero] at h1; exact h1.symm
    have cW : Calls Tryz.prog 61 #[.int .u64 2, .int .i64 (e)] w2 fun ee w' => ∃ v, ee = .returned v ∧ IsN w' v (2 ^ (e).toNat) ∧ Below w2.heap.size w2 w' := power_any 2 (e) w2 (by omega) (by omega) (by omega)
    go_wp2_with fail
    refine cW.mono ?_
    rintro e3 w3 ⟨vw3, rfl, hvw3, hbw3⟩
    clear cW
    have hv13 := hv12.below hbw3
    have hv23 := hv2.below hbw3
    have hbl3 := hbl2.trans (hbw3.mono hbl2.size)
    go_wp2_with fail
    refine (mul_any _ _ m (2 ^ e.toNat) M4 (e.toNat + 1) w3 HM4.out (pow_lt_pw 2 _ (by decide)) (by omega) (by omega) hv13 hvw3).mono ?_
    rintro e4 w4 ⟨v4, rfl, hv4, hb4⟩
    have hv24 := hv23.below hb4
    have hblc := hbl3.trans (hb4.mono hbl3.size)
    rw [HA.out] at hv4
    rw [← hB1] at hv24
    clear hv13 hv23 hbl3 hb4 hv12 hv2 hbl2 hbw3 hvw3
    by_cases hk : 0 ≤ k
    · have hD0 : D = B := by have h1 := HD.out; rw [show (-k).toNat = 0 by omega, Nat.pow_zero, Nat.mul_one] at h1; exact h1.symm
      have cW : Calls Tryz.prog 61 #[.int .u64 10, .int .i64 (k)] w4 fun ee w' => ∃ v, ee = .returned v ∧ IsN w' v (10 ^ (k).toNat) ∧ Below w4.heap.size w4 w' := power_any 10 (k) w4 (by omega) (by omega) (by omega)
      go_wp2_with fail
      refine cW.mono ?_
      rintro e3 w7 ⟨vw7, rfl, hvw7, hbw7⟩
      clear cW
      have hp7 := hv4.below hbw7
      have hq7 := hv24.below hbw7
      have hbl7 := hblc.trans (hbw7.mono hblc.size)
      go_wp2_with fail
      refine (mul_any _ _ A (10 ^ k.toNat) (M4 + (e.toNat + 1)) (k.toNat + 1) w7 HAlt.out (pow_lt_pw 10 _ (by decide)) (by omega) (by omega) hp7 hvw7).mono ?_
      rintro e4 w8 ⟨v8, rfl, hv8, hb8⟩
      have hq8 := hq7.below hb8
      have hbl8 := hbl7.trans (hb8.mono hbl7.size)
      rw [HC.out] at hv8
      go_wp2
      go_ret2
      rw [hD0]
      exact ⟨_, _, rfl, hv8, hq8, hbl8⟩
    · obtain ⟨f, hf⟩ : ∃ f : Int, -k = f := ⟨_, rfl⟩
      have hC0 : C = A := by have h1 := HC.out; rw [show k.toNat = 0 by omega, Nat.pow_zero, Nat.mul_one] at h1; exact h1.symm
      have hwk : IntKind.i64.wrap (0 - k) = (f : Int) := by rw [← hf]; rw [show 0 - k = -k by omega]; exact IntWalk.i64_in _ (by omega)
      have cW : Calls Tryz.prog 61 #[.int .u64 10, .int .i64 (f)] w4 fun ee w' => ∃ v, ee = .returned v ∧ IsN w' v (10 ^ (-k).toNat) ∧ Below w4.heap.size w4 w' := hf ▸ power_any 10 (-k) w4 (by omega) (by omega) (by omega)
      go_wp2_with fail
      refine cW.mono ?_
      rintro e3 w7 ⟨vw7, rfl, hvw7, hbw7⟩
      clear cW
      have hp7 := hv4.below hbw7
      have hq7 := hv24.below hbw7
      have hbl7 := hblc.trans (hbw7.mono hblc.size)
      go_wp2_with fail
      refine (mul_any _ _ B (10 ^ (-k).toNat) ((-e).toNat + 1) ((-k).toNat + 1) w7 HBlt.out (pow_lt_pw 10 _ (by decide)) (by omega) (by omega) hq7 hvw7).mono ?_
      rintro e4 w8 ⟨v8, rfl, hv8, hb8⟩
      have hp8 := hp7.below hb8
      have hbl8 := hbl7.trans (hb8.mono hbl7.size)
      rw [HD.out] at hv8
      go_wp2
      go_ret2
      rw [hC0]
      exact ⟨_, _, rfl, hp8, hv8, hbl8⟩
  · have hA1 : A = m := by have h1 := HA.out; rw [show e.toNat = 0 by omega, Nat.pow_zero, Nat.mul_one] at h1; exact h1.symm
    obtain ⟨g, hg⟩ : ∃ g : Int, -e = g := ⟨_, rfl⟩
    have hwe : IntKind.i64.wrap (0 - e) = (g : Int) := by rw [← hg]; rw [show 0 - e = -e by omega]; exact IntWalk.i64_in _ (by omega)
    have cW : Calls Tryz.prog 61 #[.int .u64 2, .int .i64 (g)] w2 fun ee w' => ∃ v, ee = .returned v ∧ IsN w' v (2 ^ (-e).toNat) ∧ Below w2.heap.size w2 w' := hg ▸ power_any 2 (-e) w2 (by omega) (by omega) (by omega)
    go_wp2_with fail
    refine cW.mono ?_
    rintro e3 w4 ⟨vw4, rfl, hvw4, hbw4⟩
    clear cW
    have hv14 := hv12.below hbw4
    have hblc := hbl2.trans (hbw4.mono hbl2.size)
    rw [HB.out] at hvw4
    rw [← hA1] at hv14
    clear hv12 hv2 hbl2 hbw4
    by_cases hk : 0 ≤ k
    · have hD0 : D = B := by have h1 := HD.out; rw [show (-k).toNat = 0 by omega, Nat.pow_zero, Nat.mul_one] at h1; exact h1.symm
      have cW : Calls Tryz.prog 61 #[.int .u64 10, .int .i64 (k)] w4 fun ee w' => ∃ v, ee = .returned v ∧ IsN w' v (10 ^ (k).toNat) ∧ Below w4.heap.size w4 w' := power_any 10 (k) w4 (by omega) (by omega) (by omega)
      go_wp2_with fail
      refine cW.mono ?_
      rintro e3 w7 ⟨vw7, rfl, hvw7, hbw7⟩
      clear cW
      have hp7 := hv14.below hbw7
      have hq7 := hvw4.below hbw7
      have hbl7 := hblc.trans (hbw7.mono hblc.size)
      go_wp2_with fail
      refine (mul_any _ _ A (10 ^ k.toNat) (M4 + (e.toNat + 1)) (k.toNat + 1) w7 HAlt.out (pow_lt_pw 10 _ (by decide)) (by omega) (by omega) hp7 hvw7).mono ?_
      rintro e4 w8 ⟨v8, rfl, hv8, hb8⟩
      have hq8 := hq7.below hb8
      have hbl8 := hbl7.trans (hb8.mono hbl7.size)
      rw [HC.out] at hv8
      go_wp2
      go_ret2
      rw [hD0]
      exact ⟨_, _, rfl, hv8, hq8, hbl8⟩
    · obtain ⟨f, hf⟩ : ∃ f : Int, -k = f := ⟨_, rfl⟩
      have hC0 : C = A := by have h1 := HC.out; rw [show k.toNat = 0 by omega, Nat.pow_zero, Nat.mul_one] at h1; exact h1.symm
      have hwk : IntKind.i64.wrap (0 - k) = (f : Int) := by rw [← hf]; rw [show 0 - k = -k by omega]; exact IntWalk.i64_in _ (by omega)
      have cW : Calls Tryz.prog 61 #[.int .u64 10, .int .i64 (f)] w4 fun ee w' => ∃ v, ee = .returned v ∧ IsN w' v (10 ^ (-k).toNat) ∧ Below w4.heap.size w4 w' := hf ▸ power_any 10 (-k) w4 (by omega) (by omega) (by omega)
      go_wp2_with fail
      refine cW.mono ?_
      rintro e3 w7 ⟨vw7, rfl, hvw7, hbw7⟩
      clear cW
      have hp7 := hv14.below hbw7
      have hq7 := hvw4.below hbw7
      have hbl7 := hblc.trans (hbw7.mono hblc.size)
      go_wp2_with fail
      refine (mul_any _ _ B (10 ^ (-k).toNat) ((-e).toNat + 1) ((-k).toNat + 1) w7 HBlt.out (pow_lt_pw 10 _ (by decide)) (by omega) (by omega) hq7 hvw7).mono ?_
      rintro e4 w8 ⟨v8, rfl, hv8, hb8⟩
      have hp8 := hp7.below hb8
      have hbl8 := hbl7.trans (hb8.mono hbl7.size)
      rw [HD.out] at hv8
      go_wp2
      go_ret2
      rw [hC0]
      exact ⟨_, _, rfl, hp8, hv8, hbl8⟩
end Go.Proofs.YtmhbkilidpbenaaGreatDoor
