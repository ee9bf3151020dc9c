/- The plain law of binary64 words that are not negative: their order, and that a number which the format has is written as itself. -/
import Derived.Test.YtmhbkilidpbenaaGreatDoorP
namespace Go.Proofs.YtmhbkilidpbenaaGreatDoor
open Ieee

/-- What a word stands for, in units of 2 to the -1074. -/
def unt (r : Nat) : Nat := mant r * 2 ^ (expo r + 1074).toNat
theorem read_pos {r : Nat} (h : r < 9218868437227405312) : double.read r = .number false (mant r) (expo r) := by
  unfold Format.read mant expo
  have e1 : double.signWeight = 9223372036854775808 := by decide
  have e2 : double.binade = 4503599627370496 := by decide
  have e3 : double.infRung = 9218868437227405312 := by decide
  have e4 : double.leastPlace = -1074 := by decide
  simp only [e1, e2, e3, e4]
  rw [Nat.mod_eq_of_lt (by omega : r < 9223372036854775808), Nat.div_eq_of_lt (by omega : r < 9223372036854775808)]
  split
  · rfl
  · have e5 : (-1074 : Int) + ((r / 4503599627370496 - 1 : Nat) : Int) = ((r / 4503599627370496 : Nat) : Int) - 1075 := by omega
    rw [e5]
    rfl
theorem unt_succ (r : Nat) : unt r < unt (r + 1) := by
  unfold unt mant expo
  by_cases h1 : r + 1 < 4503599627370496
  · rw [if_pos h1, if_pos h1, if_pos (by omega), if_pos (by omega)]
    simp
  · by_cases h2 : r < 4503599627370496
    · have : r = 4503599627370495 := by omega
      subst this
      decide
    · rw [if_neg h1, if_neg h1, if_neg h2, if_neg h2]
      obtain ⟨q, hq⟩ : ∃ q, r / 4503599627370496 = q := ⟨_, rfl⟩
      obtain ⟨m, hm⟩ : ∃ m, r % 4503599627370496 = m := ⟨_, rfl⟩
      by_cases h3 : m = 4503599627370495
      · have e1 : (r + 1) / 4503599627370496 = q + 1 := by omega
        have e2 : (r + 1) % 4503599627370496 = 0 := by omega
        rw [e1, e2, hq, hm, show (((q + 1 : Nat) : Int) - 1075 + 1074).toNat = ((q : Int) - 1075 + 1074).toNat + 1 by omega, Nat.pow_succ]
        have : 0 < 2 ^ ((q : Int) - 1075 + 1074).toNat := Nat.two_pow_pos _
        generalize 2 ^ ((q : Int) - 1075 + 1074).toNat = z at *
        subst h3
        omega
      · have e1 : (r + 1) / 4503599627370496 = q := by omega
        have e2 : (r + 1) % 4503599627370496 = m + 1 := by omega
        rw [e1, e2, hq, hm]
        exact (Nat.mul_lt_mul_right (Nat.two_pow_pos _)).2 (by omega)
theorem unt_lt {a b : Nat} (h : a < b) : unt a < unt b := by
  induction b with
  | zero => omega
  | succ b ih =>
    rcases Nat.lt_or_ge a b with h1 | h1
    · exact Nat.lt_trans (ih h1) (unt_succ b)
    · have : a = b := by omega
      subst this
      exact unt_succ a
theorem unt_le {a b : Nat} (h : a ≤ b) : unt a ≤ unt b := by
  rcases Nat.lt_or_ge a b with h1 | h1
  · exact Nat.le_of_lt (unt_lt h1)
  · have : a = b := by omega
    subst this; exact Nat.le_refl _
theorem unt_lt_iff {a b : Nat} : unt a < unt b ↔ a < b := by
  constructor
  · intro h
    rcases Nat.lt_or_ge a b with h1 | h1
    · exact h1
    · have := unt_le h1; omega
  · exact unt_lt
theorem unt_inj {a b : Nat} (h : unt a = unt b) : a = b := by
  rcases Nat.lt_trichotomy a b with h1 | h1 | h1
  · have := unt_lt h1; omega
  · exact h1
  · have := unt_lt h1; omega
theorem compare_mul (a b c : Nat) (hc : 0 < c) : compare ((a * c : Nat) : Int) ((b * c : Nat) : Int) = compare (a : Int) (b : Int) := by
  rcases Nat.lt_trichotomy a b with h | h | h
  · have := (Nat.mul_lt_mul_right (a := c) hc).2 h
    rw [Int.compare_eq_lt.2 (by omega), Int.compare_eq_lt.2 (by omega)]
  · subst h; rw [Int.compare_eq_eq.2 rfl, Int.compare_eq_eq.2 rfl]
  · have := (Nat.mul_lt_mul_right (a := c) hc).2 h
    rw [Int.compare_eq_gt.2 (by omega), Int.compare_eq_gt.2 (by omega)]
theorem order_pos {a b : Nat} (ha : a < 9218868437227405312) (hb : b < 9218868437227405312) : double.order a b = some (compare (unt a : Int) (unt b : Int)) := by
  unfold Format.order
  rw [read_pos ha, read_pos hb]
  unfold Datum.order unt signed
  simp only [Bool.false_eq_true, if_false, Nat.shiftLeft_eq]
  obtain ⟨i, hi⟩ : ∃ i, min (expo a) (expo b) = i := ⟨_, rfl⟩
  have h1 := expo_ge a
  have h2 := expo_ge b
  rw [hi]
  have e1 : (expo a + 1074).toNat = (expo a - i).toNat + (i + 1074).toNat := by omega
  have e2 : (expo b + 1074).toNat = (expo b - i).toNat + (i + 1074).toNat := by omega
  rw [e1, e2, Nat.pow_add, Nat.pow_add, ← Nat.mul_assoc, ← Nat.mul_assoc, compare_mul _ _ _ (Nat.two_pow_pos _)]

theorem log2_mul_pow (m k : Nat) (h : 0 < m) : (m * 2 ^ k).log2 = m.log2 + k := by
  induction k with
  | zero => simp
  | succ k ih =>
    have h0 : 0 < m * 2 ^ k := Nat.mul_pos h (Nat.two_pow_pos _)
    rw [Nat.pow_succ, ← Nat.mul_assoc, Nat.log2_def, if_pos (by omega), Nat.mul_div_cancel _ (by decide), ih]
    omega
theorem cut_none (mag : Nat) : Toward.even.cut false mag 0 = mag := by
  unfold Toward.cut
  simp [Nat.mod_one]
theorem cut_exact (M d : Nat) (h : 0 < M) : Toward.even.cut false (M * 2 ^ d) d = M := by
  unfold Toward.cut
  rw [log2_mul_pow M d h, Nat.min_eq_left (by omega), Nat.one_shiftLeft]
  have h2 : 0 < 2 ^ d := Nat.two_pow_pos d
  dsimp only
  rw [Nat.mul_div_cancel _ h2, Nat.mul_mod_left]
  have e1 : decide (2 ^ d < 2 * 0) = false := by simp
  have e2 : (2 ^ d == 2 * 0) = false := by simp
  rw [e1, e2]
  rfl
/-- A number that the format has is written as itself. -/
theorem nearest_exact (r mag : Nat) (place B : Int) (hr0 : 0 < r) (hr : r < 9218868437227405312) (hB0 : 1074 ≤ B) (hB : -B ≤ place)
    (h : mag * 2 ^ (place + B).toNat = mant r * 2 ^ (expo r + B).toNat) : double.nearest false mag place = r := by
  have hM := mant_pos hr0
  have hx := expo_ge r
  have hm0 : 0 < mag := by
    rcases Nat.eq_zero_or_pos mag with h0 | h0
    · subst h0
      rw [Nat.zero_mul] at h
      have := Nat.mul_pos hM (Nat.two_pow_pos (expo r + B).toNat)
      omega
    · exact h0
  have hl := congrArg Nat.log2 h
  rw [log2_mul_pow _ _ hm0, log2_mul_pow _ _ hM] at hl
  unfold Format.nearest
  have e3 : double.infRung = 9218868437227405312 := by decide
  have e4 : double.leastPlace = -1074 := by decide
  have e2 : double.binade = 4503599627370496 := by decide
  have e5 : double.fractionBits = 52 := rfl
  have e6 : ∀ k, double.word false k = k := fun k => rfl
  rw [if_neg (by omega)]
  simp only [e2, e3, e4, e5, e6]
  have hlast : max (place + (mag.log2 : Int) - 52) (-1074) = expo r := by
    have hlog : ((mant r).log2 : Int) = 52 ∨ (expo r = -1074 ∧ (mant r).log2 < 52) := by
      unfold mant expo
      split
      · right
        refine ⟨rfl, (Nat.log2_lt (by omega)).2 (by omega)⟩
      · left
        have h1 : 52 ≤ (4503599627370496 + r % 4503599627370496).log2 := (Nat.le_log2 (by omega)).2 (by omega)
        have h2 : (4503599627370496 + r % 4503599627370496).log2 < 53 := (Nat.log2_lt (by omega)).2 (by omega)
        omega
    omega
  rw [show ((52 : Nat) : Int) = 52 from rfl, hlast]
  have hrr : (expo r + 1074).toNat * 4503599627370496 + mant r = r := by
    unfold mant expo
    split <;> omega
  have hk : Toward.even.cut false (mag <<< (place - expo r).toNat) (expo r - place).toNat = mant r := by
    rw [Nat.shiftLeft_eq]
    rcases Int.le_total (expo r) place with h1 | h1
    · rw [show (expo r - place).toNat = 0 by omega, cut_none]
      have e : (place + B).toNat = (place - expo r).toNat + (expo r + B).toNat := by omega
      rw [e, Nat.pow_add, ← Nat.mul_assoc] at h
      exact Nat.eq_of_mul_eq_mul_right (Nat.two_pow_pos _) h
    · rw [show (place - expo r).toNat = 0 by omega, Nat.pow_zero, Nat.mul_one]
      have e : (expo r + B).toNat = (expo r - place).toNat + (place + B).toNat := by omega
      rw [e, Nat.pow_add, ← Nat.mul_assoc] at h
      rw [Nat.eq_of_mul_eq_mul_right (Nat.two_pow_pos _) h]
      exact cut_exact _ _ hM
  rw [hk, show expo r - -1074 = expo r + 1074 by omega, hrr]
  omega

theorem read_inf : double.read 9218868437227405312 = .infinity false := by decide
theorem compare_unt (a b : Nat) : compare (unt a : Int) (unt b : Int) = compare a b := by
  rcases Nat.lt_trichotomy a b with h | h | h
  · have := unt_lt h
    rw [Int.compare_eq_lt.2 (by omega), Nat.compare_eq_lt.2 h]
  · subst h; rw [Int.compare_eq_eq.2 rfl, Nat.compare_eq_eq.2 rfl]
  · have := unt_lt h
    rw [Int.compare_eq_gt.2 (by omega), Nat.compare_eq_gt.2 h]
theorem order_any {a b : Nat} (ha : a ≤ 9218868437227405312) (hb : b ≤ 9218868437227405312) : double.order a b = some (compare a b) := by
  rcases Nat.lt_or_ge a 9218868437227405312 with h1 | h1
  · rcases Nat.lt_or_ge b 9218868437227405312 with h2 | h2
    · rw [order_pos h1 h2, compare_unt]
    · have : b = 9218868437227405312 := by omega
      subst this
      unfold Format.order
      rw [read_pos h1, read_inf, Nat.compare_eq_lt.2 h1]
      rfl
  · have : a = 9218868437227405312 := by omega
    subst this
    rcases Nat.lt_or_ge b 9218868437227405312 with h2 | h2
    · unfold Format.order
      rw [read_pos h2, read_inf, Nat.compare_eq_gt.2 h2]
      rfl
    · have : b = 9218868437227405312 := by omega
      subst this
      decide
end Go.Proofs.YtmhbkilidpbenaaGreatDoor
namespace Go.Proofs.YtmhbkilidpbenaaGreatDoor
theorem f_lt {a b : Nat} (ha : a ≤ 9218868437227405312) (hb : b ≤ 9218868437227405312) : (FloatKind.f64.format.order a b == some .lt) = decide (a < b) := by
  rw [show FloatKind.f64.format = Ieee.double from rfl, order_any ha hb]
  rcases Nat.lt_trichotomy a b with h | h | h
  · rw [Nat.compare_eq_lt.2 h]; simp [h]
  · rw [Nat.compare_eq_eq.2 h]; simp [h]
  · rw [Nat.compare_eq_gt.2 h]; simp; omega
theorem f_eq {a b : Nat} (ha : a ≤ 9218868437227405312) (hb : b ≤ 9218868437227405312) : (FloatKind.f64.format.order a b == some .eq) = decide (a = b) := by
  rw [show FloatKind.f64.format = Ieee.double from rfl, order_any ha hb]
  rcases Nat.lt_trichotomy a b with h | h | h
  · rw [Nat.compare_eq_lt.2 h]; simp; omega
  · rw [Nat.compare_eq_eq.2 h]; simp [h]
  · rw [Nat.compare_eq_gt.2 h]; simp; omega
theorem f_gt {a b : Nat} (ha : a ≤ 9218868437227405312) (hb : b ≤ 9218868437227405312) : (FloatKind.f64.format.order a b == some .gt) = decide (b < a) := by
  rw [show FloatKind.f64.format = Ieee.double from rfl, order_any ha hb]
  rcases Nat.lt_trichotomy a b with h | h | h
  · rw [Nat.compare_eq_lt.2 h]; simp; omega
  · rw [Nat.compare_eq_eq.2 h]; simp [h]
  · rw [Nat.compare_eq_gt.2 h]; simp; omega
end Go.Proofs.YtmhbkilidpbenaaGreatDoor
