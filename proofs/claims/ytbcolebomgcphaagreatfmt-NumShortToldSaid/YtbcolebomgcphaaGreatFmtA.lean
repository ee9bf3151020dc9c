/- The reference's whole numbers in memory, and contracts of cut, Nat, Cmp, bits. Each lemma's conditions stand in its own statement. Contracts of the reference's Mul, Power. Contracts of the reference's Small, Digits. Contracts of the reference's Parts, Scaled. The plain law of binary64 words that are not negative: their order, and that a number which the format has is written as itself. Contracts of math's Abs, IsInf, IsNaN, normalize, ldexp, Ldexp over numbers that are not negative. A whole number as a binary64 word, its Ldexp; what rounding to the nearest word means by midpoints. -/
import Derived.Test.YtbcolebomgcphaaGreatFmtN
import Derived.Test.YtbcolebomgcphaaGreatFmtShelf
import Derived.Test.YtbcolebomgcphaaGreatFmtProg
import Derived.WalkKit
import Derived.WalkSpells
import Derived.WalkLawsBesides
import Derived.Outline
import Derived.BigQuiet
import Derived.Deep.QuietTactic
import Derived.IntWalk
import Derived.Deep.RegionLaw
import Derived.BigRegion
import Derived.Laws.ShiftsVarLaws
import Derived.Laws.Externs
import Derived.Laws.FloatArith
import Derived.Laws.BitsAllLaws
namespace Go.Proofs.YtbcolebomgcphaaGreatFmt
open Go.RowKit

theorem ret_int {k : IntKind} {a b : Int} (h : a = b) : Ending.returned (.int k a) = .returned (.int k b) := by rw [h]
theorem byte_info : (Tryz.prog.info? 5).map (fun i => (i.zero, i.size, i.bytes)) = some (some (.int .u8 0), 1, 1) := by kernel_rfl

/-- The slice value 'slice A n c' holds these digits, below block B. -/
def Rd (w : World) (B : Nat) (A : Option Addr) (n : Nat) (us : List Int) : Prop :=
  us.length = n ∧ (0 < n → ∃ b off, A = some ⟨b, off, none⟩ ∧ b < B ∧ ∀ k, k < n → w.cell? ⟨b, off + k, none⟩ = some (.int .u32 (us.getD k 0)))
theorem Rd.below {w w' : World} {B : Nat} {A : Option Addr} {n : Nat} {us : List Int} (h : Rd w B A n us) (hb : Below B w w') : Rd w' B A n us :=
  ⟨h.1, fun h0 => by
    obtain ⟨b, off, e, hlt, hc⟩ := h.2 h0
    exact ⟨b, off, e, hlt, fun k hk => by rw [hb.cell (p := ⟨b, off + k, none⟩) hlt]; exact hc k hk⟩⟩
theorem Rd.more {w : World} {B B' : Nat} {A : Option Addr} {n : Nat} {us : List Int} (h : Rd w B A n us) (hB : B ≤ B') : Rd w B' A n us :=
  ⟨h.1, fun h0 => by
    obtain ⟨b, off, e, hlt, hc⟩ := h.2 h0
    exact ⟨b, off, e, by omega, hc⟩⟩
theorem getD_take {us : List Int} {i k : Nat} (h : i < k) : (us.take k).getD i 0 = us.getD i 0 := by
  simp [List.getD, h]
theorem Rd.take {w : World} {B : Nat} {A : Option Addr} {n k : Nat} {us : List Int} (h : Rd w B A n us) (hk : k ≤ n) : Rd w B A k (us.take k) :=
  ⟨by rw [List.length_take, h.1]; omega, fun h0 => by
    obtain ⟨b, off, e, hlt, hc⟩ := h.2 (by omega)
    exact ⟨b, off, e, hlt, fun i hi => by rw [getD_take hi]; exact hc i (by omega)⟩⟩
theorem own_rd {w : World} {B : Nat} {e : TypeId} {v : Value} {n : Nat} {us : List Int} (h : w.ownsRow B e 1 v n (us.map (Value.int .u32))) :
    ∃ A c, v = .slice A n c ∧ n ≤ c ∧ Rd w w.heap.size A n us := by
  have hl : us.length = n := by have := h.1; simpa using this
  rcases h.2 with ⟨rfl, rfl⟩ | ⟨g, cap, cur, rfl, _, hh, hnc, _⟩
  · exact ⟨none, 0, rfl, Nat.le_refl _, hl, fun h0 => absurd h0 (by omega)⟩
  · refine ⟨_, _, rfl, hnc, hl, fun _ => ⟨g, 0, rfl, (Array.getElem?_eq_some_iff.1 hh).1, fun k hk => ?_⟩⟩
    have hc := h.cells (g := g) rfl k (.int .u32 (us.getD k 0)) (by simp [List.getElem?_eq_getElem (show k < us.length by omega)])
    have hadd : (⟨g, 0, none⟩ : Addr).add k = ⟨g, 0 + k, none⟩ := by unfold Addr.add; split <;> simp_all
    rwa [hadd] at hc

/-- The value v is the whole number x. -/
def IsN (w : World) (v : Value) (x : Nat) : Prop :=
  ∃ A n c us, v = .slice A n c ∧ n ≤ c ∧ Rd w w.heap.size A n us ∧ Canon us ∧ val us = (x : Int)
theorem IsN.below {w w' : World} {v : Value} {x : Nat} (h : IsN w v x) (hb : Below w.heap.size w w') : IsN w' v x := by
  obtain ⟨A, n, c, us, rfl, hc, hr, hn, hv⟩ := h
  exact ⟨A, n, c, us, rfl, hc, (hr.below hb).more hb.size, hn, hv⟩
theorem IsN.zero (w : World) (c : Nat) (A : Option Addr) : IsN w (.slice A 0 c) 0 := ⟨A, 0, c, [], rfl, Nat.zero_le _, ⟨rfl, fun h => absurd h (by omega)⟩, Canon.nil, rfl⟩

theorem IsN.grown {w w' : World} {v : Value} {x : Nat} {row : Option Nat} (h : IsN w v x) (hg : w.grownBy w' row) (hr : ∀ g, v.ownBlock = some g → some g ≠ row) : IsN w' v x := by
  obtain ⟨A, n, c, us, rfl, hc, hr', hn, hv⟩ := h
  refine ⟨A, n, c, us, rfl, hc, ⟨hr'.1, fun h0 => ?_⟩, hn, hv⟩
  obtain ⟨b, off, rfl, hlt, hcell⟩ := hr'.2 h0
  exact ⟨b, off, rfl, Nat.lt_of_lt_of_le hlt hg.size, fun k hk => hg.cell (hcell k hk) (hr b rfl)⟩
theorem IsN.alloc {w : World} {v : Value} {x : Nat} (h : IsN w v x) (o : Obj) : IsN (w.alloc o) v x := h.below ((Below.refl _ _).alloc (Nat.le_refl _) _)
theorem IsN.mk {wr : World} {v : Value} {m x : Nat} {us : List Int} {B : Nat} (hown : wr.ownsRow B 78 1 v m (us.map (Value.int .u32))) (hc : Canon us) (hv : val us = (x : Int)) : IsN wr v x := by
  obtain ⟨A, c, rfl, hnc, hr⟩ := own_rd hown
  exact ⟨A, m, c, us, rfl, hnc, hr, hc, hv⟩
end Go.Proofs.YtbcolebomgcphaaGreatFmt

namespace Go.Proofs.YtbcolebomgcphaaGreatFmt
open Go.RowKit

def cellsU (k : IntKind) (l : List Int) : Array Value := (l.map (Value.int k)).toArray
end Go.Proofs.YtbcolebomgcphaaGreatFmt

namespace Go.Proofs.YtbcolebomgcphaaGreatFmt
open Go.RowKit

/-- The digits of a whole number to the base ten, the lowest first. -/
def leD : Nat → List Int
  | 0 => []
  | n + 1 => ((((n + 1) % 10 : Nat) : Int)) :: leD ((n + 1) / 10)
decreasing_by omega
/-- Digits as bytes. -/
def asc (l : List Int) : List Int := l.map (· + 48)
theorem asc_append (a b : List Int) : asc (a ++ b) = asc a ++ asc b := List.map_append
/-- How a whole number is written to the base ten. -/
def decZ (x : Nat) : List Int := if x = 0 then [48] else asc (leD x).reverse
theorem leD_pos {x : Nat} (h : 0 < x) : leD x = ((x % 10 : Nat) : Int) :: leD (x / 10) := by
  obtain ⟨n, rfl⟩ : ∃ n, x = n + 1 := ⟨x - 1, by omega⟩
  rw [leD]
theorem leD_zero : leD 0 = [] := by rw [leD]
theorem leD_len (x k : Nat) (h : x < 10 ^ k) : (leD x).length ≤ k := by
  induction k generalizing x with
  | zero => have : x = 0 := by simpa using h
            subst this; simp [leD_zero]
  | succ k ih =>
    rcases Nat.eq_zero_or_pos x with h0 | h0
    · subst h0; simp [leD_zero]
    · rw [leD_pos h0, List.length_cons]
      have := ih (x / 10) (by rw [Nat.pow_succ] at h; omega)
      omega
theorem leD_digit (x : Nat) : ∀ d ∈ leD x, 0 ≤ d ∧ d < 10 := by
  induction x using Nat.strongRecOn with
  | _ x ih =>
    rcases Nat.eq_zero_or_pos x with h | h
    · subst h; intro d hd; rw [leD_zero] at hd; cases hd
    · intro d hd
      rw [leD_pos h] at hd
      rcases List.mem_cons.1 hd with rfl | hd
      · omega
      · exact ih (x / 10) (by omega) d hd
end Go.Proofs.YtbcolebomgcphaaGreatFmt

namespace Go.Proofs.YtbcolebomgcphaaGreatFmt
open Go.RowKit

theorem ext_bits (k : Nat) (hk : k = 82 ∨ k = 113) (b : Nat) (w : World) : (callFunc k #[.float .f64 b]).run Tryz.prog w = .ok (.value (.int .u64 b)) w := by
  rcases hk with rfl | rfl
  · rw [run_callFunc_extern (fn := Tryz.f82) (e := Extern.MathFloatBits.float64bits) Tryz.func82 (by kernel_rfl) (by kernel_rfl) (by kernel_rfl) (by kernel_rfl)]
    rfl
  · rw [run_callFunc_extern (fn := Tryz.f113) (e := Extern.MathFloatBits.float64bits) Tryz.func113 (by kernel_rfl) (by kernel_rfl) (by kernel_rfl) (by kernel_rfl)]
    rfl
theorem ret_pair {k k' : IntKind} {a b c d : Int} (h : a = c) (h' : b = d) : Ending.returned (.tuple #[.int k a, .int k' b]) = .returned (.tuple #[.int k c, .int k' d]) := by rw [h, h']
/-- Of a float's bits: the whole number before the power of two, and the power's exponent. -/
def mant (r : Nat) : Nat := if r < 4503599627370496 then r else 4503599627370496 + r % 4503599627370496
def expo (r : Nat) : Int := if r < 4503599627370496 then -1074 else (r / 4503599627370496 : Nat) - 1075
theorem mant_lt (r : Nat) : mant r < 9007199254740992 := by unfold mant; split <;> omega
theorem mant_pos {r : Nat} (h : 0 < r) : 0 < mant r := by unfold mant; split <;> omega
theorem expo_ge (r : Nat) : -1074 ≤ expo r := by unfold expo; split <;> omega
theorem expo_le {r : Nat} (h : r < 9218868437227405312) : expo r ≤ 971 := by unfold expo; split <;> omega

end Go.Proofs.YtbcolebomgcphaaGreatFmt

namespace Go.Proofs.YtbcolebomgcphaaGreatFmt
open Ieee

/-- What a word stands for, in units of 2 to the -1074. -/
def unt (r : Nat) : Nat := mant r * 2 ^ (expo r + 1074).toNat
theorem read_pos {r : Nat} (h : r < 9218868437227405312) : double.read r = .number false (mant r) (expo r) := by
  unfold Format.read mant expo
  have e1 : double.signWeight = 9223372036854775808 := by decide
  have e2 : double.binade = 4503599627370496 := by decide
  have e3 : double.infRung = 9218868437227405312 := by decide
  have e4 : double.leastPlace = -1074 := by decide
  simp only [e1, e2, e3, e4]
  rw [Nat.mod_eq_of_lt (by omega : r < 9223372036854775808), Nat.div_eq_of_lt (by omega : r < 9223372036854775808)]
  split
  · rfl
  · have e5 : (-1074 : Int) + ((r / 4503599627370496 - 1 : Nat) : Int) = ((r / 4503599627370496 : Nat) : Int) - 1075 := by omega
    rw [e5]
    rfl
theorem unt_succ (r : Nat) : unt r < unt (r + 1) := by
  unfold unt mant expo
  by_cases h1 : r + 1 < 4503599627370496
  · rw [if_pos h1, if_pos h1, if_pos (by omega), if_pos (by omega)]
    simp
  · by_cases h2 : r < 4503599627370496
    · have : r = 4503599627370495 := by omega
      subst this
      decide
    · rw [if_neg h1, if_neg h1, if_neg h2, if_neg h2]
      obtain ⟨q, hq⟩ : ∃ q, r / 4503599627370496 = q := ⟨_, rfl⟩
      obtain ⟨m, hm⟩ : ∃ m, r % 4503599627370496 = m := ⟨_, rfl⟩
      by_cases h3 : m = 4503599627370495
      · have e1 : (r + 1) / 4503599627370496 = q + 1 := by omega
        have e2 : (r + 1) % 4503599627370496 = 0 := by omega
        rw [e1, e2, hq, hm, show (((q + 1 : Nat) : Int) - 1075 + 1074).toNat = ((q : Int) - 1075 + 1074).toNat + 1 by omega, Nat.pow_succ]
        have : 0 < 2 ^ ((q : Int) - 1075 + 1074).toNat := Nat.two_pow_pos _
        generalize 2 ^ ((q : Int) - 1075 + 1074).toNat = z at *
        subst h3
        omega
      · have e1 : (r + 1) / 4503599627370496 = q := by omega
        have e2 : (r + 1) % 4503599627370496 = m + 1 := by omega
        rw [e1, e2, hq, hm]
        exact (Nat.mul_lt_mul_right (Nat.two_pow_pos _)).2 (by omega)
theorem unt_lt {a b : Nat} (h : a < b) : unt a < unt b := by
  induction b with
  | zero => omega
  | succ b ih =>
    rcases Nat.lt_or_ge a b with h1 | h1
    · exact Nat.lt_trans (ih h1) (unt_succ b)
    · have : a = b := by omega
      subst this
      exact unt_succ a
theorem unt_le {a b : Nat} (h : a ≤ b) : unt a ≤ unt b := by
  rcases Nat.lt_or_ge a b with h1 | h1
  · exact Nat.le_of_lt (unt_lt h1)
  · have : a = b := by omega
    subst this; exact Nat.le_refl _
theorem compare_mul (a b c : Nat) (hc : 0 < c) : compare ((a * c : Nat) : Int) ((b * c : Nat) : Int) = compare (a : Int) (b : Int) := by
  rcases Nat.lt_trichotomy a b with h | h | h
  · have := (Nat.mul_lt_mul_right (a := c) hc).2 h
    rw [Int.compare_eq_lt.2 (by omega), Int.compare_eq_lt.2 (by omega)]
  · subst h; rw [Int.compare_eq_eq.2 rfl, Int.compare_eq_eq.2 rfl]
  · have := (Nat.mul_lt_mul_right (a := c) hc).2 h
    rw [Int.compare_eq_gt.2 (by omega), Int.compare_eq_gt.2 (by omega)]
theorem order_pos {a b : Nat} (ha : a < 9218868437227405312) (hb : b < 9218868437227405312) : double.order a b = some (compare (unt a : Int) (unt b : Int)) := by
  unfold Format.order
  rw [read_pos ha, read_pos hb]
  unfold Datum.order unt signed
  simp only [Bool.false_eq_true, if_false, Nat.shiftLeft_eq]
  obtain ⟨i, hi⟩ : ∃ i, min (expo a) (expo b) = i := ⟨_, rfl⟩
  have h1 := expo_ge a
  have h2 := expo_ge b
  rw [hi]
  have e1 : (expo a + 1074).toNat = (expo a - i).toNat + (i + 1074).toNat := by omega
  have e2 : (expo b + 1074).toNat = (expo b - i).toNat + (i + 1074).toNat := by omega
  rw [e1, e2, Nat.pow_add, Nat.pow_add, ← Nat.mul_assoc, ← Nat.mul_assoc, compare_mul _ _ _ (Nat.two_pow_pos _)]

theorem log2_mul_pow (m k : Nat) (h : 0 < m) : (m * 2 ^ k).log2 = m.log2 + k := by
  induction k with
  | zero => simp
  | succ k ih =>
    have h0 : 0 < m * 2 ^ k := Nat.mul_pos h (Nat.two_pow_pos _)
    rw [Nat.pow_succ, ← Nat.mul_assoc, Nat.log2_def, if_pos (by omega), Nat.mul_div_cancel _ (by decide), ih]
    omega
theorem cut_none (mag : Nat) : Toward.even.cut false mag 0 = mag := by
  unfold Toward.cut
  simp [Nat.mod_one]
theorem cut_exact (M d : Nat) (h : 0 < M) : Toward.even.cut false (M * 2 ^ d) d = M := by
  unfold Toward.cut
  rw [log2_mul_pow M d h, Nat.min_eq_left (by omega), Nat.one_shiftLeft]
  have h2 : 0 < 2 ^ d := Nat.two_pow_pos d
  dsimp only
  rw [Nat.mul_div_cancel _ h2, Nat.mul_mod_left]
  have e1 : decide (2 ^ d < 2 * 0) = false := by simp
  have e2 : (2 ^ d == 2 * 0) = false := by simp
  rw [e1, e2]
  rfl
/-- A number that the format has is written as itself. -/
theorem nearest_exact (r mag : Nat) (place B : Int) (hr0 : 0 < r) (hr : r < 9218868437227405312) (hB0 : 1074 ≤ B) (hB : -B ≤ place)
    (h : mag * 2 ^ (place + B).toNat = mant r * 2 ^ (expo r + B).toNat) : double.nearest false mag place = r := by
  have hM := mant_pos hr0
  have hx := expo_ge r
  have hm0 : 0 < mag := by
    rcases Nat.eq_zero_or_pos mag with h0 | h0
    · subst h0
      rw [Nat.zero_mul] at h
      have := Nat.mul_pos hM (Nat.two_pow_pos (expo r + B).toNat)
      omega
    · exact h0
  have hl := congrArg Nat.log2 h
  rw [log2_mul_pow _ _ hm0, log2_mul_pow _ _ hM] at hl
  unfold Format.nearest
  have e3 : double.infRung = 9218868437227405312 := by decide
  have e4 : double.leastPlace = -1074 := by decide
  have e2 : double.binade = 4503599627370496 := by decide
  have e5 : double.fractionBits = 52 := rfl
  have e6 : ∀ k, double.word false k = k := fun k => rfl
  rw [if_neg (by omega)]
  simp only [e2, e3, e4, e5, e6]
  have hlast : max (place + (mag.log2 : Int) - 52) (-1074) = expo r := by
    have hlog : ((mant r).log2 : Int) = 52 ∨ (expo r = -1074 ∧ (mant r).log2 < 52) := by
      unfold mant expo
      split
      · right
        refine ⟨rfl, (Nat.log2_lt (by omega)).2 (by omega)⟩
      · left
        have h1 : 52 ≤ (4503599627370496 + r % 4503599627370496).log2 := (Nat.le_log2 (by omega)).2 (by omega)
        have h2 : (4503599627370496 + r % 4503599627370496).log2 < 53 := (Nat.log2_lt (by omega)).2 (by omega)
        omega
    omega
  rw [show ((52 : Nat) : Int) = 52 from rfl, hlast]
  have hrr : (expo r + 1074).toNat * 4503599627370496 + mant r = r := by
    unfold mant expo
    split <;> omega
  have hk : Toward.even.cut false (mag <<< (place - expo r).toNat) (expo r - place).toNat = mant r := by
    rw [Nat.shiftLeft_eq]
    rcases Int.le_total (expo r) place with h1 | h1
    · rw [show (expo r - place).toNat = 0 by omega, cut_none]
      have e : (place + B).toNat = (place - expo r).toNat + (expo r + B).toNat := by omega
      rw [e, Nat.pow_add, ← Nat.mul_assoc] at h
      exact Nat.eq_of_mul_eq_mul_right (Nat.two_pow_pos _) h
    · rw [show (place - expo r).toNat = 0 by omega, Nat.pow_zero, Nat.mul_one]
      have e : (expo r + B).toNat = (expo r - place).toNat + (place + B).toNat := by omega
      rw [e, Nat.pow_add, ← Nat.mul_assoc] at h
      rw [Nat.eq_of_mul_eq_mul_right (Nat.two_pow_pos _) h]
      exact cut_exact _ _ hM
  rw [hk, show expo r - -1074 = expo r + 1074 by omega, hrr]
  omega

theorem read_inf : double.read 9218868437227405312 = .infinity false := by decide
theorem compare_unt (a b : Nat) : compare (unt a : Int) (unt b : Int) = compare a b := by
  rcases Nat.lt_trichotomy a b with h | h | h
  · have := unt_lt h
    rw [Int.compare_eq_lt.2 (by omega), Nat.compare_eq_lt.2 h]
  · subst h; rw [Int.compare_eq_eq.2 rfl, Nat.compare_eq_eq.2 rfl]
  · have := unt_lt h
    rw [Int.compare_eq_gt.2 (by omega), Nat.compare_eq_gt.2 h]
theorem order_any {a b : Nat} (ha : a ≤ 9218868437227405312) (hb : b ≤ 9218868437227405312) : double.order a b = some (compare a b) := by
  rcases Nat.lt_or_ge a 9218868437227405312 with h1 | h1
  · rcases Nat.lt_or_ge b 9218868437227405312 with h2 | h2
    · rw [order_pos h1 h2, compare_unt]
    · have : b = 9218868437227405312 := by omega
      subst this
      unfold Format.order
      rw [read_pos h1, read_inf, Nat.compare_eq_lt.2 h1]
      rfl
  · have : a = 9218868437227405312 := by omega
    subst this
    rcases Nat.lt_or_ge b 9218868437227405312 with h2 | h2
    · unfold Format.order
      rw [read_pos h2, read_inf, Nat.compare_eq_gt.2 h2]
      rfl
    · have : b = 9218868437227405312 := by omega
      subst this
      decide
end Go.Proofs.YtbcolebomgcphaaGreatFmt
namespace Go.Proofs.YtbcolebomgcphaaGreatFmt
end Go.Proofs.YtbcolebomgcphaaGreatFmt

namespace Go.Proofs.YtbcolebomgcphaaGreatFmt
open Go.RowKit

theorem mul_one (y : Nat) (h0 : 0 < y) (h : y < 9218868437227405312) : floatBits .mul .f64 4607182418800017408 y = some y := by
  show Ieee.double.mul 4607182418800017408 y = some y
  unfold Ieee.Format.mul
  rw [read_pos h, read_pos (by omega)]
  show some (Ieee.double.nearest false (4503599627370496 * mant y) (-52 + expo y)) = some y
  have hx := expo_ge y
  rw [nearest_exact y _ _ 2000 h0 h (by omega) (by omega)]
  rw [show expo y + 2000 = (expo y + 1948) + 52 by omega, show -52 + expo y + 2000 = expo y + 1948 by omega]
  rw [show (expo y + 1948 + 52).toNat = (expo y + 1948).toNat + 52 by omega, Nat.pow_add]
  grind
theorem mask11 (q : Nat) (h : q < 2048) : bits .and .i64 (q : Int) 2047 = (q : Int) := by
  have e : bits .and .i64 (q : Int) 2047 = (q : Int) % 2048 := bits_mask .i64 63 (by decide) (fun n h0 h1 => IntWalk.i64_in n (by omega)) 11 (by decide) (q : Int) (by omega) (by omega)
  rw [e]; omega
theorem orexp (f k : Nat) (z : Int) (hf : f < 4503599627370496) (hk : k < 2048) (hz : z = k) : bits .or .u64 (f : Int) (z * 4503599627370496) = ((k * 4503599627370496 + f : Nat) : Int) := by
  subst hz
  have e := u64_or_nat f (k * 4503599627370496) (by omega) (by omega)
  rw [Nat.or_comm, nat_join 52 _ _ (by omega) (by omega)] at e
  rw [← e]
  rfl

end Go.Proofs.YtbcolebomgcphaaGreatFmt

namespace Go.Proofs.YtbcolebomgcphaaGreatFmt
open Go.RowKit

theorem mant_of (q f : Nat) (hq : 0 < q) (hf : f < 4503599627370496) : mant (q * 4503599627370496 + f) = 4503599627370496 + f := by
  unfold mant
  rw [if_neg (by omega)]
  omega
theorem expo_of (q f : Nat) (hq : 0 < q) (hf : f < 4503599627370496) : expo (q * 4503599627370496 + f) = (q : Int) - 1075 := by
  unfold expo
  rw [if_neg (by omega)]
  omega
def rungOf (n : Nat) (e : Int) : Nat := (e + 1074).toNat * 4503599627370496 + n

/-- Two to the 1075. -/
def big : Nat := 2 ^ 1075
/-- The word r is the one that a positive ratio p by q is rounded to: by the midpoints to its neighbours; on a midpoint the even word. -/
def Tells (r p q : Nat) : Prop :=
  if r % 2 = 0 then (unt (r - 1) + unt r) * q ≤ p * big ∧ p * big ≤ (unt r + unt (r + 1)) * q
  else (unt (r - 1) + unt r) * q < p * big ∧ p * big < (unt r + unt (r + 1)) * q
/-- The rounding, from the word below. -/
def roundUp (r0 p q : Nat) : Nat :=
  if (unt r0 + unt (r0 + 1)) * q < p * big ∨ ((unt r0 + unt (r0 + 1)) * q = p * big ∧ r0 % 2 = 1) then r0 + 1 else r0
theorem round_tells {r0 p q : Nat} (hq : 0 < q) (h0 : 2 * unt r0 * q ≤ p * big) (h1 : p * big < 2 * unt (r0 + 1) * q) {r : Nat} (hr : 0 < r) :
    roundUp r0 p q = r ↔ Tells r p q := by
  unfold roundUp Tells
  generalize p * big = X at *
  have key : ∀ a b : Nat, a < b → unt a * q < unt b * q := fun a b h => (Nat.mul_lt_mul_right hq).2 (unt_lt h)
  have key2 : ∀ a b : Nat, a ≤ b → unt a * q ≤ unt b * q := fun a b h => Nat.mul_le_mul_right q (unt_le h)
  have a1 := key r0 (r0 + 1) (by omega)
  have a3 := key (r - 1) r (by omega)
  have a4 := key r (r + 1) (by omega)
  rw [Nat.mul_assoc] at h0 h1
  simp only [Nat.add_mul]
  rcases Nat.lt_trichotomy r r0 with h | h | h
  · have b1 := key2 (r + 1) r0 (by omega)
    have b2 := key r r0 h
    split <;> split <;> (constructor <;> intro hh <;> omega)
  · subst h
    split <;> split <;> (constructor <;> intro hh <;> omega)
  · rcases Nat.lt_or_ge (r0 + 1) r with h' | h'
    · have b1 := key2 (r0 + 1) (r - 1) (by omega)
      have b2 := key (r0 + 1) r h'
      split <;> split <;> (constructor <;> intro hh <;> omega)
    · have hr1 : r = r0 + 1 := by omega
      subst hr1
      rw [show r0 + 1 - 1 = r0 by omega] at *
      split <;> split <;> (constructor <;> intro hh <;> omega)
theorem unt_rung (n : Nat) (e : Int) (h2 : n ≤ 9007199254740992) (hn : 4503599627370496 ≤ n ∨ e = -1074) : unt (rungOf n e) = n * 2 ^ (e + 1074).toNat := by
  unfold rungOf
  obtain ⟨k, hk⟩ : ∃ k : Nat, (e + 1074).toNat = k := ⟨_, rfl⟩
  rw [hk]
  rcases Nat.lt_or_ge n 4503599627370496 with h | h
  · have : k = 0 := by omega
    subst this
    unfold unt mant expo
    rw [if_pos (by omega), if_pos (by omega)]
    simp
  · rcases Nat.lt_or_ge n 9007199254740992 with h' | h'
    · have e1 := mant_of (k + 1) (n - 4503599627370496) (by omega) (by omega)
      have e2 := expo_of (k + 1) (n - 4503599627370496) (by omega) (by omega)
      rw [show (k + 1) * 4503599627370496 + (n - 4503599627370496) = k * 4503599627370496 + n by omega] at e1 e2
      unfold unt
      rw [e1, e2, show 4503599627370496 + (n - 4503599627370496) = n by omega, show (((k + 1 : Nat) : Int) - 1075 + 1074).toNat = k by omega]
    · have hn53 : n = 9007199254740992 := by omega
      subst hn53
      have e1 := mant_of (k + 2) 0 (by omega) (by omega)
      have e2 := expo_of (k + 2) 0 (by omega) (by omega)
      rw [show (k + 2) * 4503599627370496 + 0 = k * 4503599627370496 + 9007199254740992 by omega] at e1 e2
      unfold unt
      rw [e1, e2, show (((k + 2 : Nat) : Int) - 1075 + 1074).toNat = k + 1 by omega, Nat.pow_succ]
      generalize 2 ^ k = z
      omega
end Go.Proofs.YtbcolebomgcphaaGreatFmt
