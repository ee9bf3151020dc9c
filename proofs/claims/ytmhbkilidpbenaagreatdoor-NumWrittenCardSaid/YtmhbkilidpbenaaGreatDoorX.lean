/- The plain law of the reference's Ratio. -/
import Derived.Test.YtmhbkilidpbenaaGreatDoorT
namespace Go.Proofs.YtmhbkilidpbenaaGreatDoor

def rA (p : Nat) (E : Int) : Nat := p * 2 ^ (-E).toNat
def rB (q : Nat) (E : Int) : Nat := q * 2 ^ E.toNat
theorem rB_pos {q : Nat} (hq : 0 < q) (E : Int) : 0 < rB q E := Nat.mul_pos hq (Nat.two_pow_pos _)
/-- What holds of the exponent at the head of each round. -/
def RInv (p q : Nat) (E : Int) : Prop := (4503599627370496 * rB q E ≤ rA p E ∨ E ≤ -1074) ∧ rA p E < 36028797018963968 * rB q E
theorem blen_bounds {x : Nat} (h : 0 < x) : 2 ^ (blen x - 1) ≤ x ∧ x < 2 ^ blen x ∧ 0 < blen x := by
  unfold blen
  rw [if_neg (by omega)]
  exact ⟨Nat.log2_self_le (by omega), Nat.lt_log2_self, by omega⟩
theorem rstep (p q : Nat) (E : Int) : (rA p (E + 1) = rA p E ∧ rB q (E + 1) = 2 * rB q E) ∨ (rA p E = 2 * rA p (E + 1) ∧ rB q (E + 1) = rB q E) := by
  unfold rA rB
  rcases Int.lt_or_le E 0 with h | h
  · right
    rw [show (-E).toNat = (-(E + 1)).toNat + 1 by omega, Nat.pow_succ, show (E + 1).toNat = 0 by omega, show E.toNat = 0 by omega]
    exact ⟨by generalize 2 ^ (-(E + 1)).toNat = z; grind, rfl⟩
  · left
    rw [show (-(E + 1)).toNat = 0 by omega, show (-E).toNat = 0 by omega, show (E + 1).toNat = E.toNat + 1 by omega, Nat.pow_succ]
    exact ⟨rfl, by generalize 2 ^ E.toNat = z; grind⟩
theorem RInv.next {p q : Nat} {E : Int} (h : RInv p q E) (hn : 9007199254740992 * rB q E ≤ rA p E) : RInv p q (E + 1) := by
  obtain ⟨_, h2⟩ := h
  rcases rstep p q E with ⟨e1, e2⟩ | ⟨e1, e2⟩
  · exact ⟨.inl (by omega), by omega⟩
  · exact ⟨.inl (by omega), by omega⟩
theorem RInv.up {p q : Nat} {E : Int} (h : RInv p q E) : ∀ k : Nat, E + k ≤ -1074 → RInv p q (E + k) := by
  intro k
  induction k with
  | zero => intro _; simpa using h
  | succ k ih =>
    intro hk
    obtain ⟨_, h2⟩ := ih (by omega)
    rw [show E + ((k + 1 : Nat) : Int) = E + (k : Int) + 1 by omega]
    rcases rstep p q (E + k) with ⟨e1, e2⟩ | ⟨e1, e2⟩
    · exact ⟨.inr (by omega), by omega⟩
    · exact ⟨.inr (by omega), by omega⟩
theorem RInv.clip {p q : Nat} {E : Int} (h : RInv p q E) (hE : E < -1074) : RInv p q (-1074) := by
  have := h.up (-1074 - E).toNat (by omega)
  rwa [show E + ((-1074 - E).toNat : Int) = -1074 by omega] at this
theorem RInv.init {p q : Nat} (hp : 0 < p) (hq : 0 < q) : RInv p q ((blen p : Int) - blen q - 54) := by
  obtain ⟨p1, p2, p3⟩ := blen_bounds hp
  obtain ⟨q1, q2, q3⟩ := blen_bounds hq
  obtain ⟨a, ha⟩ : ∃ a, blen p = a + 1 := ⟨blen p - 1, by omega⟩
  obtain ⟨b, hb⟩ : ∃ b, blen q = b + 1 := ⟨blen q - 1, by omega⟩
  rw [ha] at p1 p2 ⊢
  rw [hb] at q1 q2 ⊢
  rw [show a + 1 - 1 = a by omega] at p1
  rw [show b + 1 - 1 = b by omega] at q1
  rw [Nat.pow_succ] at p2 q2
  unfold RInv rA rB
  rcases Int.lt_or_le (a : Int) (b + 54) with h | h
  · obtain ⟨k, hk⟩ : ∃ k : Nat, b + 54 = a + k := ⟨b + 54 - a, by omega⟩
    rw [show (-(((a + 1 : Nat) : Int) - ((b + 1 : Nat) : Int) - 54)).toNat = k by omega, show (((a + 1 : Nat) : Int) - ((b + 1 : Nat) : Int) - 54).toNat = 0 by omega, Nat.pow_zero, Nat.mul_one]
    have e : 2 ^ a * 2 ^ k = 2 ^ b * 18014398509481984 := by
      rw [← Nat.pow_add, ← hk, Nat.pow_add]
    have h1 : 2 ^ a * 2 ^ k ≤ p * 2 ^ k := Nat.mul_le_mul_right _ p1
    have h2 : p * 2 ^ k < 2 ^ a * 2 * 2 ^ k := (Nat.mul_lt_mul_right (Nat.two_pow_pos _)).2 p2
    have e3 : 2 ^ a * 2 * 2 ^ k = 2 * (2 ^ a * 2 ^ k) := by generalize 2 ^ a = y; generalize 2 ^ k = z; grind
    rw [e3] at h2
    exact ⟨.inl (by omega), by omega⟩
  · obtain ⟨k, hk⟩ : ∃ k : Nat, a = b + 54 + k := ⟨a - b - 54, by omega⟩
    rw [show (-(((a + 1 : Nat) : Int) - ((b + 1 : Nat) : Int) - 54)).toNat = 0 by omega, show (((a + 1 : Nat) : Int) - ((b + 1 : Nat) : Int) - 54).toNat = k by omega, Nat.pow_zero, Nat.mul_one]
    have e : 2 ^ a = 2 ^ b * 2 ^ k * 18014398509481984 := by
      rw [hk, Nat.pow_add, Nat.pow_add]
      generalize 2 ^ b = y
      generalize 2 ^ k = z
      have : (2 : Nat) ^ 54 = 18014398509481984 := by decide
      rw [this]
      grind
    have h1 : 2 ^ b * 2 ^ k ≤ q * 2 ^ k := Nat.mul_le_mul_right _ q1
    have h2 : q * 2 ^ k < 2 ^ b * 2 * 2 ^ k := (Nat.mul_lt_mul_right (Nat.two_pow_pos _)).2 q2
    have e3 : 2 ^ b * 2 * 2 ^ k = 2 * (2 ^ b * 2 ^ k) := by generalize 2 ^ b = y; generalize 2 ^ k = z; grind
    rw [e3] at h2
    exact ⟨.inl (by omega), by omega⟩
set_option exponentiation.threshold 3000 in
theorem big_eq : big = 2 ^ 1074 * 2 := Nat.pow_succ 2 1074
theorem rscale (p q : Nat) (E : Int) (hE : -1074 ≤ E) : ∃ K, 0 < K ∧ p * big = 2 * (rA p E * K) ∧ q * 2 ^ (E + 1074).toNat = rB q E * K := by
  refine ⟨2 ^ (1074 - (-E).toNat), Nat.two_pow_pos _, ?_, ?_⟩
  · unfold rA
    rw [Nat.mul_assoc, ← Nat.pow_add, show (-E).toNat + (1074 - (-E).toNat) = 1074 by omega, big_eq]
    generalize 2 ^ 1074 = z
    grind
  · unfold rB
    rw [Nat.mul_assoc, ← Nat.pow_add, show E.toNat + (1074 - (-E).toNat) = (E + 1074).toNat by omega]
/-- What Ratio answers. -/
def RatioIs (R p q : Nat) : Prop := R ≤ 9218868437227405312 ∧ ∀ r, 0 < r → r < 9218868437227405312 → (R = r ↔ Tells r p q)
theorem min_iff {a r c : Nat} (h : r < c) : min a c = r ↔ a = r := by omega
/-- The last round: from the quotient and what is left to the word. -/
theorem ratio_end {p q n up : Nat} {E : Int} (hq : 0 < q) (hE : -1074 ≤ E) (h : RInv p q E) (hn : rA p E / rB q E = n) (hn2 : n < 9007199254740992)
    (hup : up = if rB q E < 2 * (rA p E % rB q E) ∨ (2 * (rA p E % rB q E) = rB q E ∧ n % 2 = 1) then n + 1 else n) :
    (4503599627370496 ≤ n ∨ E = -1074) ∧ RatioIs (min (rungOf up E) 9218868437227405312) p q := by
  have hB := rB_pos hq E
  have hnn : 4503599627370496 ≤ n ∨ E = -1074 := by
    rcases h.1 with h1 | h1
    · left
      rw [← hn]
      exact (Nat.le_div_iff_mul_le hB).2 h1
    · right; omega
  refine ⟨hnn, by omega, fun r hr0 hr => ?_⟩
  obtain ⟨K, hK, e1, e2⟩ := rscale p q E hE
  obtain ⟨X, hX⟩ : ∃ X, p * big = X := ⟨_, rfl⟩
  rw [hX] at e1
  have HX := Lib.hid hX
  clear hX
  have hd := Nat.div_add_mod (rA p E) (rB q E)
  have hm := Nat.mod_lt (rA p E) hB
  rw [hn] at hd
  obtain ⟨A, hA⟩ : ∃ A, rA p E = A := ⟨_, rfl⟩
  obtain ⟨B, hB'⟩ : ∃ B, rB q E = B := ⟨_, rfl⟩
  obtain ⟨L, hL⟩ : ∃ L, rA p E % rB q E = L := ⟨_, rfl⟩
  rw [hL] at hd hm hup
  rw [hA] at hd e1
  rw [hB'] at hd hm hup e2 hB
  have u0 := unt_rung n E (by omega) hnn
  have u1 : unt (rungOf n E + 1) = (n + 1) * 2 ^ (E + 1074).toNat := by
    rw [← unt_rung (n + 1) E (by omega) (by omega), show rungOf (n + 1) E = rungOf n E + 1 by unfold rungOf; omega]
  obtain ⟨Z, hZ⟩ : ∃ Z, 2 ^ (E + 1074).toNat = Z := ⟨_, rfl⟩
  rw [hZ] at u0 u1 e2
  have f0 : unt (rungOf n E) * q = n * (B * K) := by rw [u0, ← e2]; grind
  have f1 : unt (rungOf n E + 1) * q = (n + 1) * (B * K) := by rw [u1, ← e2]; grind
  have hAe : A = n * B + L := by rw [← hd]; grind
  have t0 : 2 * unt (rungOf n E) * q ≤ X := by
    rw [e1, Nat.mul_assoc, f0, hAe, ← Nat.mul_assoc n B K]
    have : (n * B + L) * K = n * B * K + L * K := Nat.add_mul _ _ _
    omega
  have t1 : X < 2 * unt (rungOf n E + 1) * q := by
    rw [e1, Nat.mul_assoc, f1, hAe, ← Nat.mul_assoc (n + 1) B K]
    have e3 : (n + 1) * B * K = n * B * K + B * K := by rw [Nat.add_mul, Nat.one_mul, Nat.add_mul]
    have e4 : (n * B + L) * K = n * B * K + L * K := Nat.add_mul _ _ _
    have e5 : L * K < B * K := (Nat.mul_lt_mul_right hK).2 hm
    omega
  have hru : roundUp (rungOf n E) p q = rungOf up E := by
    unfold roundUp
    rw [HX.out, Nat.add_mul, f0, f1, e1, hAe, ← Nat.mul_assoc n B K, ← Nat.mul_assoc (n + 1) B K]
    have e3 : (n + 1) * B * K = n * B * K + B * K := by rw [Nat.add_mul, Nat.one_mul, Nat.add_mul]
    have e4 : (n * B + L) * K = n * B * K + L * K := Nat.add_mul _ _ _
    have e6 : B < 2 * L ↔ B * K < 2 * (L * K) := by rw [← Nat.mul_assoc]; exact (Nat.mul_lt_mul_right hK).symm
    have e7 : 2 * L = B ↔ 2 * (L * K) = B * K := by
      rw [← Nat.mul_assoc]
      exact ⟨fun h => by rw [h], fun h => Nat.eq_of_mul_eq_mul_right hK h⟩
    have e8 : rungOf n E % 2 = n % 2 := by unfold rungOf; omega
    rw [e3, e4, e8, hup]
    have e9 : (n * B * K + (n * B * K + B * K) < 2 * (n * B * K + L * K) ∨ n * B * K + (n * B * K + B * K) = 2 * (n * B * K + L * K) ∧ n % 2 = 1) = (B < 2 * L ∨ 2 * L = B ∧ n % 2 = 1) := propext (by omega)
    simp only [e9]
    have e0 : rungOf (n + 1) E = rungOf n E + 1 := by unfold rungOf; omega
    split
    · rw [e0]
    · rfl
  have key := round_tells (r0 := rungOf n E) (p := p) (q := q) (r := r) hq (by rw [HX.out]; exact t0) (by rw [HX.out]; exact t1) hr0
  rw [hru] at key
  rw [← key]
  exact min_iff hr
end Go.Proofs.YtmhbkilidpbenaaGreatDoor
