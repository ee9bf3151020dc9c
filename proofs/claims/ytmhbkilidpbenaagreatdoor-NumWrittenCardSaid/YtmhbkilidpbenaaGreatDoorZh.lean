/- The plain law of the reference's search for the fewest digits. Each lemma's conditions stand in its own statement. -/
import Derived.Test.YtmhbkilidpbenaaGreatDoorZg
import Derived.Test.YtmhbkilidpbenaaGreatDoorX
namespace Go.Proofs.YtmhbkilidpbenaaGreatDoor

def cOf (r : Nat) : Bool := decide (r % 2 = 0)
def lOf (r : Nat) : Nat := (unt (r - 1) + unt r) * T4
def xOf (r : Nat) : Nat := 2 * unt r * T4
def hOf (r : Nat) : Nat := (unt r + unt (r + 1)) * T4
/-- The interval's ends and middle, as multiples. -/
theorem ends (r : Nat) (h0 : 0 < r) :
    ∃ Q, 0 < Q ∧ ((∃ m, 0 < m ∧ m < 9007199254740992 ∧ lOf r = (2 * m - 1) * Q ∧ xOf r = 2 * m * Q ∧ hOf r = (2 * m + 1) * Q ∧ (m < 10 → Q = T4)) ∨
      (lOf r = 18014398509481983 * Q ∧ xOf r = 18014398509481984 * Q ∧ hOf r = 18014398509481986 * Q)) := by
  unfold lOf xOf hOf
  have hun := unt_next r
  have hu0 := unt_eq r
  have hE0 := expo_ge r
  by_cases hs : mant r = 4503599627370496 ∧ -1074 < expo r
  · have hup := unt_skew hs
    rw [hs.1] at hun hup hu0
    obtain ⟨E, hE⟩ : ∃ E, expo r = E := ⟨_, rfl⟩
    have hE2 := hs.2
    rw [hE] at hun hup hu0 hE2
    obtain ⟨z, hz⟩ : ∃ z, (E + 1073).toNat = z := ⟨_, rfl⟩
    have hz1 : (E + 1074).toNat = z + 1 := by clear hun hup hu0; omega
    rw [hz1, Nat.pow_succ] at hun hup hu0
    obtain ⟨y, hy⟩ : ∃ y, 2 ^ z = y := ⟨_, rfl⟩
    have hy0 : 0 < y := by rw [← hy]; exact Nat.two_pow_pos _
    rw [hy] at hun hup hu0
    obtain ⟨a, ha⟩ : ∃ a, unt r = a := ⟨_, rfl⟩
    obtain ⟨b, hb⟩ : ∃ b, unt (r - 1) = b := ⟨_, rfl⟩
    obtain ⟨d, hd⟩ : ∃ d, unt (r + 1) = d := ⟨_, rfl⟩
    rw [ha] at hu0 ⊢
    rw [hb] at hup ⊢
    rw [hd] at hun ⊢
    clear hz hz1 hE2 hE hE0 hs hy
    have ea : a = 9007199254740992 * y := by clear hup hun; omega
    have eb : b = 9007199254740991 * y := by clear hu0 hun; omega
    have ed : d = 9007199254740994 * y := by clear hu0 hup; omega
    refine ⟨y * T4, Nat.mul_pos hy0 T4_pos, .inr ⟨?_, ?_, ?_⟩⟩
    · rw [← Nat.mul_assoc, ea, eb, ← Nat.add_mul]
    · rw [← Nat.mul_assoc, ea, ← Nat.mul_assoc]
    · rw [← Nat.mul_assoc, ea, ed, ← Nat.add_mul]
  · have hup := unt_prev h0 hs
    have hm0 := mant_pos h0
    have hm1 := mant_lt r
    have hsm : mant r < 10 → expo r = -1074 := by
      unfold mant expo
      split <;> omega
    obtain ⟨m, hm⟩ : ∃ m, mant r = m := ⟨_, rfl⟩
    rw [hm] at hun hup hu0 hm0 hm1 hsm
    obtain ⟨y, hy⟩ : ∃ y, 2 ^ (expo r + 1074).toNat = y := ⟨_, rfl⟩
    have hy0 : 0 < y := by rw [← hy]; exact Nat.two_pow_pos _
    rw [hy] at hun hup hu0
    refine ⟨y * T4, Nat.mul_pos hy0 T4_pos, .inl ⟨m, hm0, hm1, ?_, ?_, ?_, ?_⟩⟩
    · rw [← Nat.mul_assoc, hup, hu0, ← Nat.add_mul, show m - 1 + m = 2 * m - 1 by omega]
    · rw [← Nat.mul_assoc, hu0, ← Nat.mul_assoc]
    · rw [← Nat.mul_assoc, hun, hu0, ← Nat.add_mul, show m + (m + 1) = 2 * m + 1 by omega]
    · intro h
      rw [hsm h] at hy
      rw [← hy, show ((-1074 : Int) + 1074).toNat = 0 from rfl, Nat.pow_zero, Nat.one_mul]
theorem ends_lt (r : Nat) (h0 : 0 < r) : 0 < lOf r ∧ lOf r < xOf r ∧ xOf r < hOf r ∧ hOf r ≤ 2 * xOf r := by
  obtain ⟨Q, hQ, ⟨m, m0, _, e1, e2, e3, _⟩ | ⟨e1, e2, e3⟩⟩ := ends r h0
  · rw [e1, e2, e3]
    have k1 : (2 * m - 1) * Q + Q = 2 * m * Q := by
      obtain ⟨k, rfl⟩ : ∃ k, m = k + 1 := ⟨m - 1, by omega⟩
      rw [show 2 * (k + 1) - 1 = 2 * k + 1 by omega, show 2 * (k + 1) = 2 * k + 1 + 1 by omega, Nat.add_mul (2 * k + 1) 1 Q]
      omega
    have k2 : (2 * m + 1) * Q = 2 * m * Q + Q := by rw [Nat.add_mul, Nat.one_mul]
    have k3 : 0 < (2 * m - 1) * Q := Nat.mul_pos (by omega) hQ
    omega
  · rw [e1, e2, e3]
    omega
theorem small_case {m T P U : Nat} (hm : 1 ≤ m) (hm10 : m < 10) (f1 : 4 * T < 10 * P) (f2 : 10 * P < 5 * T) (hc : 10 * U ≤ P ∨ U = P ∨ 10 * P ≤ U)
    (h1 : 2 * m * T < 10 * U) (h2 : 10 * U ≤ (2 * m + 1) * T) : U = P ∧ m = 2 := by
  have k4 : 2 * m * T = 2 * (m * T) := Nat.mul_assoc _ _ _
  have k5 : (2 * m + 1) * T = 2 * m * T + T := by rw [Nat.add_mul, Nat.one_mul]
  have k3 : m * T ≤ 9 * T := Nat.mul_le_mul_right _ (by omega)
  have k6 : 1 * T ≤ m * T := Nat.mul_le_mul_right _ (by omega)
  rcases hc with h | h | h
  · omega
  · refine ⟨h, ?_⟩
    rcases Nat.lt_or_ge m 2 with g | g
    · have : m * T ≤ 1 * T := Nat.mul_le_mul_right _ (by omega)
      omega
    · rcases Nat.lt_or_ge 2 m with g' | g'
      · have : 3 * T ≤ m * T := Nat.mul_le_mul_right _ g'
        omega
      · omega
  · omega
theorem small_end {T P X : Nat} (f3 : 9 * P ≤ 4 * T) (f4 : 19 * P < 8 * T) (hX : X = 2 * 2 * T) : 9 * P ≤ X ∧ 19 * P < 2 * X := by omega
set_option exponentiation.threshold 3000 in
theorem small_nums : 4 * T4 < 10 * U10 big 76 ∧ 10 * U10 big 76 < 5 * T4 ∧ 9 * U10 big 76 ≤ 4 * T4 ∧ 19 * U10 big 76 < 8 * T4 := by
  unfold U10 big T4
  decide +kernel
theorem small_three (n : Nat) : 10 * U10 big n ≤ U10 big 76 ∨ U10 big n = U10 big 76 ∨ 10 * U10 big 76 ≤ U10 big n := by
  rcases Nat.lt_trichotomy n 76 with g | g | g
  · left; rw [← U10_succ]; exact U10_le big g
  · right; left; rw [g]
  · right; right; rw [← U10_succ]; exact U10_le big g
/-- Ten units of the place of x's first digit in the interval: then x is 9 and more units, and ten is nearer than nine. -/
theorem ten_nine {r n0 low : Nat} (h0 : 0 < r) (hn : xOf r < U10 big n0) (hn0 : 1 ≤ n0)
    (hlow : low * U10 big (n0 - 1) ≤ xOf r) (hlow1 : xOf r < (low + 1) * U10 big (n0 - 1)) (hten : InI (cOf r) (lOf r) (hOf r) (U10 big n0)) :
    low = 9 ∧ (InI (cOf r) (lOf r) (hOf r) (9 * U10 big (n0 - 1)) → 19 * U10 big (n0 - 1) < 2 * xOf r) := by
  have e10 := U10_succ big (n0 - 1)
  rw [show n0 - 1 + 1 = n0 by omega] at e10
  have hU := U10_pos big_pos (n0 - 1)
  have hH := hten.le.2
  have key : xOf r < 10 * U10 big (n0 - 1) → 9 * U10 big (n0 - 1) ≤ xOf r → low = 9 := by
    intro a b
    obtain ⟨U, hUe⟩ : ∃ U, U10 big (n0 - 1) = U := ⟨_, rfl⟩
    rw [hUe] at a b hlow hlow1
    have g1 : ¬ low ≤ 8 := by
      intro g
      have : (low + 1) * U ≤ 9 * U := Nat.mul_le_mul_right U (by omega)
      omega
    have g2 : ¬ 10 ≤ low := by
      intro g
      have : 10 * U ≤ low * U := Nat.mul_le_mul_right U g
      omega
    omega
  obtain ⟨Q, hQ, ⟨m, m0, _, e1, e2, e3, hsm⟩ | ⟨e1, e2, e3⟩⟩ := ends r h0
  · have k1 : (2 * m - 1) * Q + Q = 2 * m * Q := by
      obtain ⟨k, rfl⟩ : ∃ k, m = k + 1 := ⟨m - 1, by omega⟩
      rw [show 2 * (k + 1) - 1 = 2 * k + 1 by omega, show 2 * (k + 1) = 2 * k + 1 + 1 by omega, Nat.add_mul (2 * k + 1) 1 Q]
      omega
    have k2 : (2 * m + 1) * Q = 2 * m * Q + Q := by rw [Nat.add_mul, Nat.one_mul]
    by_cases hm : m < 10
    · have hQT := hsm hm
      obtain ⟨f1, f2, f3, f4⟩ := small_nums
      have h3 := small_three (n0 - 1)
      have hX10 : 2 * m * T4 < 10 * U10 big (n0 - 1) := by rw [← hQT, ← e2, ← e10]; exact hn
      have hH10 : 10 * U10 big (n0 - 1) ≤ (2 * m + 1) * T4 := by rw [← hQT, ← e3, ← e10]; exact hH
      obtain ⟨e4, e5⟩ := small_case m0 hm f1 f2 h3 hX10 hH10
      obtain ⟨e6, e7⟩ := small_end (X := xOf r) f3 f4 (by rw [e2, e5, hQT])
      rw [← e4] at e6 e7
      exact ⟨key (by rw [← e10]; exact hn) e6, fun _ => e7⟩
    · have k5 : 10 * Q ≤ m * Q := Nat.mul_le_mul_right _ (by omega)
      have k4 : 2 * m * Q = 2 * (m * Q) := Nat.mul_assoc _ _ _
      refine ⟨key (by omega) (by omega), fun h => ?_⟩
      have := h.le.1
      omega
  · refine ⟨key (by omega) (by omega), fun h => ?_⟩
    have := h.le.1
    omega
/-- Seventeen digits are enough. -/
theorem seventeen {r N low : Nat} (h0 : 0 < r) (hn : 10000000000000000 * U10 big N ≤ xOf r)
    (hlow : low * U10 big N ≤ xOf r) (hlow1 : xOf r < (low + 1) * U10 big N) :
    InI (cOf r) (lOf r) (hOf r) (low * U10 big N) ∨ InI (cOf r) (lOf r) (hOf r) ((low + 1) * U10 big N) := by
  obtain ⟨U, hUe⟩ : ∃ U, U10 big N = U := ⟨_, rfl⟩
  rw [hUe] at hn hlow hlow1 ⊢
  rw [Nat.add_mul, Nat.one_mul] at hlow1 ⊢
  obtain ⟨Q, hQ, ⟨m, m0, m1, e1, e2, e3, _⟩ | ⟨e1, e2, e3⟩⟩ := ends r h0
  · have k1 : (2 * m - 1) * Q + Q = 2 * m * Q := by
      obtain ⟨k, rfl⟩ : ∃ k, m = k + 1 := ⟨m - 1, by omega⟩
      rw [show 2 * (k + 1) - 1 = 2 * k + 1 by omega, show 2 * (k + 1) = 2 * k + 1 + 1 by omega, Nat.add_mul (2 * k + 1) 1 Q]
      omega
    have k2 : (2 * m + 1) * Q = 2 * m * Q + Q := by rw [Nat.add_mul, Nat.one_mul]
    have k5 : m * Q ≤ 9007199254740992 * Q := Nat.mul_le_mul_right _ (by omega)
    have k4 : 2 * m * Q = 2 * (m * Q) := Nat.mul_assoc _ _ _
    have hUQ : U < 2 * Q := by omega
    by_cases g : 2 * (xOf r) ≤ 2 * (low * U) + U
    · left
      exact ⟨fun _ => by omega, fun _ => by omega⟩
    · right
      exact ⟨fun _ => by omega, fun _ => by omega⟩
  · have hUQ : U < 2 * Q := by omega
    by_cases g : xOf r < low * U + Q
    · left
      exact ⟨fun _ => by omega, fun _ => by omega⟩
    · right
      exact ⟨fun _ => by omega, fun _ => by omega⟩
end Go.Proofs.YtmhbkilidpbenaaGreatDoor
