/- The plain law of the order of all words, and of whole numbers as words; contracts of odd and of the reference's Odd. Each lemma's conditions stand in its own statement. -/
import Derived.Test.YtmhbkilidpbenaaGreatDoorXj
namespace Go.Proofs.YtmhbkilidpbenaaGreatDoor
open Ieee

/-- A word's sign and size. -/
def sval (b : Nat) : Int := if b / 9223372036854775808 % 2 = 1 then -(unt (b % 9223372036854775808) : Int) else unt (b % 9223372036854775808)
theorem signed_val (s : Bool) (m : Nat) (k : Nat) : signed s m k = if s then -((m * 2 ^ k : Nat) : Int) else ((m * 2 ^ k : Nat) : Int) := by
  unfold signed
  rw [Nat.shiftLeft_eq]
theorem compare_scale (x y : Int) (z : Nat) (hz : 0 < z) : compare (x * z) (y * z) = compare x y := by
  have hz' : (0 : Int) < z := by omega
  rcases Int.lt_trichotomy x y with h | h | h
  · have := Int.mul_lt_mul_of_pos_right h hz'
    rw [Int.compare_eq_lt.2 h, Int.compare_eq_lt.2 this]
  · subst h; rw [Int.compare_eq_eq.2 rfl, Int.compare_eq_eq.2 rfl]
  · have := Int.mul_lt_mul_of_pos_right h hz'
    rw [Int.compare_eq_gt.2 h, Int.compare_eq_gt.2 this]
theorem order_fin {a b : Nat} (ha : a % 9223372036854775808 < 9218868437227405312) (hb : b % 9223372036854775808 < 9218868437227405312) : double.order a b = some (compare (sval a) (sval b)) := by
  unfold Format.order
  rw [read_num ha, read_num hb]
  unfold Datum.order
  dsimp only
  obtain ⟨i, hi⟩ : ∃ i, min (expo (a % 9223372036854775808)) (expo (b % 9223372036854775808)) = i := ⟨_, rfl⟩
  have h1 := expo_ge (a % 9223372036854775808)
  have h2 := expo_ge (b % 9223372036854775808)
  rw [hi, signed_val, signed_val]
  have sc : ∀ c : Nat, -1074 ≤ expo (c % 9223372036854775808) → i ≤ expo (c % 9223372036854775808) → sval c = (if (c / 9223372036854775808 % 2 == 1) = true then -((mant (c % 9223372036854775808) * 2 ^ (expo (c % 9223372036854775808) - i).toNat : Nat) : Int) else ((mant (c % 9223372036854775808) * 2 ^ (expo (c % 9223372036854775808) - i).toNat : Nat) : Int)) * ((2 ^ (i + 1074).toNat : Nat) : Int) := by
    intro c hc hic
    have e : unt (c % 9223372036854775808) = mant (c % 9223372036854775808) * 2 ^ (expo (c % 9223372036854775808) - i).toNat * 2 ^ (i + 1074).toNat := by
      unfold unt
      rw [Nat.mul_assoc, ← Nat.pow_add]
      congr 2
      omega
    unfold sval
    rw [e, Int.natCast_mul]
    by_cases g : c / 9223372036854775808 % 2 = 1
    · rw [if_pos g, if_pos (by rw [g]; rfl), Int.neg_mul]
    · rw [if_neg g, if_neg (by simpa using g)]
  rw [sc a h1 (by omega), sc b h2 (by omega), compare_scale _ _ _ (Nat.two_pow_pos _)]
theorem sval_pos {r : Nat} (h : r < 9223372036854775808) : sval r = unt r := by
  unfold sval
  rw [Nat.mod_eq_of_lt h, Nat.div_eq_of_lt h, if_neg (by decide)]
theorem sval_neg {r : Nat} (h : r < 9223372036854775808) : sval (9223372036854775808 + r) = -(unt r : Int) := by
  unfold sval
  rw [Nat.add_mod_left, Nat.mod_eq_of_lt h, show (9223372036854775808 + r) / 9223372036854775808 = 1 by omega, if_pos (by decide)]
theorem unt_pos {r : Nat} (h : 0 < r) : 0 < unt r := Nat.mul_pos (mant_pos h) (Nat.two_pow_pos _)
theorem unt_zero : unt 0 = 0 := by decide
theorem neg_mod {r : Nat} (h : r < 9223372036854775808) : (9223372036854775808 + r) % 9223372036854775808 = r := by omega
/-- A number below 0 against what isn't. -/
theorem neg_order {r c : Nat} (h0 : 0 < r) (hr : r < 9218868437227405312) (hc : c < 9218868437227405312) : FloatKind.f64.format.order (9223372036854775808 + r) c = some .lt := by
  show double.order _ _ = _
  rw [order_fin (by rw [neg_mod (by omega)]; exact hr) (by rw [Nat.mod_eq_of_lt (by omega)]; exact hc), sval_neg (by omega), sval_pos (by omega)]
  have := unt_pos h0
  rw [Int.compare_eq_lt.2 (by omega)]
theorem neg_order2 {r c : Nat} (hr : r < 9218868437227405312) (hc : c < 9218868437227405312) : FloatKind.f64.format.order (9223372036854775808 + r) (9223372036854775808 + c) = some (compare c r) := by
  show double.order _ _ = _
  rw [order_fin (by rw [neg_mod (by omega)]; exact hr) (by rw [neg_mod (by omega)]; exact hc), sval_neg (by omega), sval_neg (by omega), ← compare_unt]
  congr 1
  rcases Nat.lt_trichotomy (unt c) (unt r) with h | h | h
  · rw [Int.compare_eq_lt.2 (by omega), Int.compare_eq_lt.2 (by omega)]
  · rw [Int.compare_eq_eq.2 (by omega), Int.compare_eq_eq.2 (by omega)]
  · rw [Int.compare_eq_gt.2 (by omega), Int.compare_eq_gt.2 (by omega)]
/-- What isn't below 0 against what is (or is -0). -/
theorem pos_order {r c : Nat} (hr : r < 9218868437227405312) (h0 : 0 < c) (hc : c < 9218868437227405312) : FloatKind.f64.format.order r (9223372036854775808 + c) = some .gt := by
  show double.order _ _ = _
  rw [order_fin (by rw [Nat.mod_eq_of_lt (by omega)]; exact hr) (by rw [neg_mod (by omega)]; exact hc), sval_neg (by omega), sval_pos (by omega)]
  have := unt_pos h0
  rw [Int.compare_eq_gt.2 (by omega)]
/-- No number at all. -/
theorem nan_order {b : Nat} (h : 9218868437227405312 < b % 9223372036854775808) (c : Nat) : FloatKind.f64.format.order b c = none := by
  show double.order _ _ = _
  unfold Format.order
  have hr : double.read b = .nan (b / 9223372036854775808 % 2 == 1) (b % 9223372036854775808 - 9218868437227405312) := by
    unfold Format.read
    have e1 : double.signWeight = 9223372036854775808 := by decide
    have e2 : double.binade = 4503599627370496 := by decide
    have e3 : double.infRung = 9218868437227405312 := by decide
    simp only [e1, e2, e3]
    rw [if_neg (by omega), if_neg (by omega), if_neg (by omega)]
  rw [hr]
  rfl
end Go.Proofs.YtmhbkilidpbenaaGreatDoor
