/- Contracts of the small functions of reading a number: pack64, unmin. Each lemma's conditions stand in its own statement. The plain law of the reader's rounding: it gives fewer than 54 bits. Each lemma's conditions stand in its own statement. -/
import Derived.Test.YtbcolebomgcphaaGreatFmtXb
import Derived.Test.YtbcolebomgcphaaGreatFmtRh
namespace Go.Proofs.YtbcolebomgcphaaGreatFmt
open Go.RowKit

theorem ext_from (k : Nat) (hk : k = 4 ∨ k = 195) (n : Int) (w : World) : (callFunc k #[.int .u64 n]).run Tryz.prog w = .ok (.value (.float .f64 n.toNat)) w := by
  rcases hk with rfl | rfl
  · rw [run_callFunc_extern (fn := Tryz.f4) (e := Extern.MathFloatBits.float64frombits) Tryz.func4 (by kernel_rfl) (by kernel_rfl) (by kernel_rfl) (by kernel_rfl)]
    rfl
  · rw [run_callFunc_extern (fn := Tryz.f195) (e := Extern.MathFloatBits.float64frombits) Tryz.func195 (by kernel_rfl) (by kernel_rfl) (by kernel_rfl) (by kernel_rfl)]
    rfl
theorem low_and (f k : Nat) (h : f < 2 ^ k) : f &&& 2 ^ k = 0 := by
  apply Nat.eq_of_testBit_eq
  intro i
  rw [Nat.testBit_and, Nat.testBit_two_pow, Nat.zero_testBit]
  by_cases hi : k = i
  · subst hi
    rw [Nat.testBit_lt_two_pow h]
    rfl
  · simp [hi]
theorem and52 (m : Nat) (h : m < 9007199254740992) : bits .and .u64 (m : Int) 4503599627370496 = ((m / 4503599627370496 * 4503599627370496 : Nat) : Int) := by
  have e := u64_and_nat m 4503599627370496 (by omega) (by omega)
  have e2 : m &&& 4503599627370496 = m / 4503599627370496 * 4503599627370496 := by
    rcases Nat.lt_or_ge m 4503599627370496 with g | g
    · rw [show m / 4503599627370496 * 4503599627370496 = 0 by omega]
      exact low_and m 52 g
    · obtain ⟨f, rfl⟩ : ∃ f, m = 4503599627370496 + f := ⟨m - 4503599627370496, by omega⟩
      have h1 := nat_join52 4503599627370496 f (by decide) (by omega)
      have h2 := low_and f 52 (by omega)
      rw [show (2 : Nat) ^ 52 = 4503599627370496 from rfl] at h2
      rw [show (4503599627370496 + f) / 4503599627370496 * 4503599627370496 = 4503599627370496 by omega, ← h1, Nat.and_or_distrib_right, h2, Nat.and_self, Nat.or_zero]
  rw [e2] at e
  exact e
theorem not52 (m : Nat) (h : m < 9007199254740992) : bits .andNot .u64 (m : Int) 4503599627370496 = ((m % 4503599627370496 : Nat) : Int) := by
  have e := u64_andNot_nat m 4503599627370496 (by omega) (by omega)
  have e2 : (18446744073709551615 - 4503599627370496 : Nat) = 18437736874454810624 ||| (2 ^ 52 - 1) := by decide
  have e3 : m &&& 18437736874454810624 = 0 := by
    apply Nat.eq_of_testBit_eq
    intro i
    rw [Nat.testBit_and, Nat.zero_testBit]
    rcases Nat.lt_or_ge i 53 with g | g
    · have : (18437736874454810624 : Nat).testBit i = false := by
        have hm : (18437736874454810624 : Nat) = 2047 * 2 ^ 53 := by decide
        rw [hm, Nat.testBit_mul_two_pow]
        simp
        omega
      rw [this, Bool.and_false]
    · rw [Nat.testBit_lt_two_pow (Nat.lt_of_lt_of_le h (Nat.pow_le_pow_right (n := 2) (by decide) g)), Bool.false_and]
  rw [e2, Nat.and_or_distrib_left, e3, Nat.zero_or, Nat.and_two_pow_sub_one_eq_mod] at e
  exact e
theorem or52n (f x : Nat) (hf : f < 4503599627370496) (hx : x < 4096) : bits .or .u64 (f : Int) ((x * 4503599627370496 : Nat) : Int) = ((x * 4503599627370496 + f : Nat) : Int) := by
  have e := u64_or_nat f (x * 4503599627370496) (by omega) (by omega)
  rw [nat_join52' (x * 4503599627370496) f (Nat.mul_mod_left _ _) hf] at e
  exact e
/-- What pack64 answers: the word, or infinity and an error. -/
def PkIs (w : World) (m : Nat) (e : Int) (en : Ending) (w' : World) : Prop :=
  en = .returned (.tuple #[.float .f64 (if 4503599627370496 ≤ m ∧ 972 ≤ e then 9218868437227405312 else rungOf m e), if 4503599627370496 ≤ m ∧ 972 ≤ e then .iface 119 (.int .i64 1) else .nilIface]) ∧ w' = w
set_option maxRecDepth 100000 in
theorem pack_small (m : Nat) (w : World) (hm : m < 4503599627370496) : Calls Tryz.prog 222 #[.int .u64 m, .int .i64 (-1074)] w (PkIs w m (-1074)) := by
  have ha := and52 m (by omega)
  rw [show m / 4503599627370496 * 4503599627370496 = 0 by omega] at ha
  have hx := fun n => ext_from 195 (.inr rfl) n w
  have hr : PkIs w m (-1074) (.returned (.tuple #[.float .f64 m, .nilIface])) w := by
    unfold PkIs
    rw [if_neg (by omega), if_neg (by omega)]
    refine ⟨?_, rfl⟩
    unfold rungOf
    rw [show (-1074 + 1074 : Int).toNat = 0 from rfl, Nat.zero_mul, Nat.zero_add]
  have HR := Lib.hid hr
  clear hr hm
  go_enter Tryz.func222, Tryz.ntmps222
  go_wp2
  go_ret2
  exact HR.out
set_option maxRecDepth 100000 in
theorem pack_inf (m : Nat) (e : Int) (w : World) (hm0 : 4503599627370496 ≤ m) (hm : m < 9007199254740992) (he : 972 ≤ e) : Calls Tryz.prog 222 #[.int .u64 m, .int .i64 e] w (PkIs w m e) := by
  have ha := and52 m hm
  rw [show m / 4503599627370496 * 4503599627370496 = 4503599627370496 by omega] at ha
  have hb : bits .and .u64 (m : Int) 9223372036854775808 = 0 := by
    have e1 := u64_and_nat m 9223372036854775808 (by omega) (by omega)
    have e2 := low_and m 63 (by omega)
    rw [show (2 : Nat) ^ 63 = 9223372036854775808 from rfl] at e2
    rw [e2] at e1
    exact e1
  have hx := fun n => ext_from 195 (.inr rfl) n w
  have hr : PkIs w m e (.returned (.tuple #[.float .f64 9218868437227405312, .iface 119 (.int .i64 1)])) w := by
    unfold PkIs
    rw [if_pos ⟨hm0, he⟩, if_pos ⟨hm0, he⟩]
    exact ⟨rfl, rfl⟩
  have HR := Lib.hid hr
  clear hr hm hm0
  go_enter Tryz.func222, Tryz.ntmps222
  go_wp2
  go_ret2
  exact HR.out
set_option maxRecDepth 100000 in
theorem pack_norm (m : Nat) (e : Int) (w : World) (hm0 : 4503599627370496 ≤ m) (hm : m < 9007199254740992) (h0 : -1074 ≤ e) (h1 : e < 972) : Calls Tryz.prog 222 #[.int .u64 m, .int .i64 e] w (PkIs w m e) := by
  have ha := and52 m hm
  rw [show m / 4503599627370496 * 4503599627370496 = 4503599627370496 by omega] at ha
  have hn := not52 m hm
  obtain ⟨f, hf⟩ : ∃ f, m % 4503599627370496 = f := ⟨_, rfl⟩
  obtain ⟨x, hxx⟩ : ∃ x : Nat, 1075 + e = x := ⟨(1075 + e).toNat, by omega⟩
  rw [hf] at hn
  obtain ⟨W, hW⟩ : ∃ W, x * 4503599627370496 + f = W := ⟨_, rfl⟩
  have hor : bits .or .u64 (f : Int) ((x : Int) * 4503599627370496) = (W : Int) := by
    rw [← hW]
    have := or52n f x (by omega) (by omega)
    rwa [Int.natCast_mul] at this
  have hc : IntKind.u64.wrap (x : Int) = (x : Int) := u64_wrap _ (by omega) (by omega)
  have hx := fun n => ext_from 195 (.inr rfl) n w
  have hr : PkIs w m e (.returned (.tuple #[.float .f64 W, .nilIface])) w := by
    unfold PkIs
    rw [if_neg (by omega), if_neg (by omega)]
    refine ⟨?_, rfl⟩
    have : W = rungOf m e := by rw [← hW]; unfold rungOf; omega
    rw [this]
  have HR := Lib.hid hr
  clear hr hm hm0 hf hW
  go_enter Tryz.func222, Tryz.ntmps222
  go_wp2
  go_ret2
  exact HR.out
theorem pack_any (m : Nat) (e : Int) (w : World) (hm : m < 9007199254740992) (h0 : -1074 ≤ e) (h1 : m < 4503599627370496 → e = -1074) : Calls Tryz.prog 222 #[.int .u64 m, .int .i64 e] w (PkIs w m e) := by
  rcases Nat.lt_or_ge m 4503599627370496 with g | g
  · rw [h1 g]
    exact pack_small m w g
  · rcases Int.lt_or_le e 972 with k | k
    · exact pack_norm m e w g hm h0 k
    · exact pack_inf m e w g hm k
set_option maxRecDepth 100000 in
theorem unmin_53 (w : World) : Calls Tryz.prog 163 #[.int .u64 9007199254740992] w fun e w' => e = .returned (.int .u64 36028797018963966) ∧ w' = w := by
  go_enter Tryz.func163, Tryz.ntmps163
  go_wp2
  go_ret
  exact ⟨rfl, rfl⟩
end Go.Proofs.YtbcolebomgcphaaGreatFmt

namespace Go.Proofs.YtbcolebomgcphaaGreatFmt

def upB (p : Int) : Bool := Nat.ble (256 * 962 * rN (-l2 p - 9) p) (961 * rM (-l2 p - 9) p)
def upL (k : Int) : Nat → Bool
  | 0 => true
  | n + 1 => upB (k + n) && upL k n
theorem upL_get : ∀ (n : Nat) (k p : Int), upL k n = true → k ≤ p → p < k + n → upB p = true := by
  intro n
  induction n with
  | zero => intro k p _ h1 h2; omega
  | succ n ih =>
    intro k p h h1 h2
    rw [upL, Bool.and_eq_true] at h
    rcases Int.lt_or_le p (k + n) with g | g
    · exact ih k p h.2 h1 g
    · rw [show p = k + n by omega]; exact h.1
theorem up_0 : upL (-345) 164 = true := by decide +kernel
theorem up_1 : upL (-181) 164 = true := by decide +kernel
theorem up_2 : upL (-17) 164 = true := by decide +kernel
theorem up_3 : upL 147 164 = true := by decide +kernel
theorem up_all (p : Int) (h0 : -345 ≤ p) (h1 : p ≤ 310) : 256 * 962 * rN (-l2 p - 9) p ≤ 961 * rM (-l2 p - 9) p := by
  have h : upB p = true := by
    rcases Int.lt_or_le p (-181) with g | g
    · exact upL_get 164 _ p up_0 (by omega) (by omega)
    rcases Int.lt_or_le p (-17) with g | g
    · exact upL_get 164 _ p up_1 (by omega) (by omega)
    rcases Int.lt_or_le p 147 with g | g
    · exact upL_get 164 _ p up_2 (by omega) (by omega)
    exact upL_get 164 _ p up_3 (by omega) (by omega)
  simpa only [upB, Nat.ble_eq] using h
theorem sc_up {d b : Nat} {p : Int} (h0 : -345 ≤ p) (h1 : p ≤ 310) (hb : b ≤ 64) (hd : d < 2 ^ b) :
    d * rN (55 - b - l2 p) p * 962 ≤ 72057594037927936 * 961 * rM (55 - b - l2 p) p := by
  have g2 := up_all p h0 h1
  have hr := rNM (-l2 p - 9) p (64 - b)
  rw [show (-l2 p - 9 + ((64 - b : Nat) : Int)) = 55 - b - l2 p by omega] at hr
  have p0 := rM_pos (-l2 p - 9) p
  have x1 : d * 2 ^ (64 - b) ≤ 18446744073709551616 := by
    have h := (Nat.mul_lt_mul_right (a := 2 ^ (64 - b)) (Nat.two_pow_pos _)).2 hd
    rw [← Nat.pow_add, show b + (64 - b) = 64 by omega] at h
    exact Nat.le_of_lt h
  generalize rN (-l2 p - 9) p = n0 at *
  generalize rM (-l2 p - 9) p = m0 at *
  generalize rN (55 - b - l2 p) p = n1 at *
  generalize rM (55 - b - l2 p) p = m1 at *
  obtain ⟨x, hx⟩ : ∃ x, d * 2 ^ (64 - b) = x := ⟨_, rfl⟩
  rw [hx] at x1
  have e : d * n1 * m0 = x * n0 * m1 := by rw [← hx, Nat.mul_assoc, ← hr]; grind
  refine Nat.le_of_mul_le_mul_right (c := m0) ?_ p0
  have e0 : d * n1 * 962 * m0 = x * n0 * m1 * 962 := by rw [← e]; grind
  rw [e0]
  have k1 : x * (n0 * m1 * 962) ≤ 18446744073709551616 * (n0 * m1 * 962) := Nat.mul_le_mul_right _ x1
  have k2 : 256 * 962 * n0 * (72057594037927936 * m1) ≤ 961 * m0 * (72057594037927936 * m1) := Nat.mul_le_mul_right _ g2
  have e2 : 256 * 962 * n0 * (72057594037927936 * m1) = 18446744073709551616 * (n0 * m1 * 962) := by grind
  have e3 : x * n0 * m1 * 962 = x * (n0 * m1 * 962) := by grind
  have e4 : 961 * m0 * (72057594037927936 * m1) = 72057594037927936 * 961 * m1 * m0 := by grind
  omega
/-- The number and its exponent behind the rounding. -/
def rdM (u : Nat) : Nat := if 36028797018963966 ≤ u then rndOf (halfU u) else rndOf u
def rdEx (u : Nat) (E : Int) : Int := if 36028797018963966 ≤ u then E - 1 else E
theorem rdW_eq (u : Nat) (E : Int) : rdW u E = rungOf (rdM u) (-(rdEx u E)) := by
  unfold rdW rdM rdEx
  split <;> rfl
theorem unr_le (A M : Nat) : unr A M ≤ A / M + 1 := by
  unfold unr
  split <;> omega
theorem rdM_lt {A M : Nat} (hM : 0 < M) (h : A * 962 ≤ 72057594037927936 * 961 * M) : rdM (unr A M) < 9007199254740992 := by
  have h1 : A / M * 962 ≤ 72057594037927936 * 961 := by
    refine Nat.le_of_mul_le_mul_right (c := M) ?_ hM
    have := Nat.div_mul_le_self A M
    have e : A / M * 962 * M = A / M * M * 962 := by grind
    rw [e]
    exact Nat.le_trans (Nat.mul_le_mul_right _ this) h
  have h2 := unr_le A M
  unfold rdM halfU rndOf
  generalize unr A M = u at *
  generalize A / M = q at *
  split
  · split <;> omega
  · omega
theorem rdM_norm {A M : Nat} {E : Int} (hM : 0 < M) (h52 : 18014398509481984 * M ≤ A ∨ E = 1074) (hm : rdM (unr A M) < 4503599627370496) : rdEx (unr A M) E = 1074 := by
  have hfl := unr_floor A M
  have hlo : 18014398509481984 * M ≤ A → 18014398509481984 ≤ unr A M := by
    intro h
    have : 18014398509481984 ≤ A / M := (Nat.le_div_iff_mul_le hM).2 h
    unfold unr
    split <;> omega
  unfold rdM at hm
  unfold rdEx
  generalize unr A M = u at *
  split
  · rename_i g
    rw [if_pos g] at hm
    unfold halfU rndOf at hm
    split at hm <;> omega
  · rename_i g
    rw [if_neg g] at hm
    rcases h52 with h | h
    · have := hlo h
      unfold rndOf at hm
      omega
    · exact h
end Go.Proofs.YtbcolebomgcphaaGreatFmt
