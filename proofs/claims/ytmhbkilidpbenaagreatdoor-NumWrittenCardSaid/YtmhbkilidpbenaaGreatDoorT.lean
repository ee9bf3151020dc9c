/- A whole number as a binary64 word, its Ldexp; what rounding to the nearest word means by midpoints. -/
import Derived.Test.YtmhbkilidpbenaaGreatDoorS
namespace Go.Proofs.YtmhbkilidpbenaaGreatDoor
open Go.RowKit

theorem mant_of (q f : Nat) (hq : 0 < q) (hf : f < 4503599627370496) : mant (q * 4503599627370496 + f) = 4503599627370496 + f := by
  unfold mant
  rw [if_neg (by omega)]
  omega
theorem expo_of (q f : Nat) (hq : 0 < q) (hf : f < 4503599627370496) : expo (q * 4503599627370496 + f) = (q : Int) - 1075 := by
  unfold expo
  rw [if_neg (by omega)]
  omega
theorem log2_le53 {n : Nat} (h1 : 1 ≤ n) (h2 : n ≤ 9007199254740992) : n.log2 ≤ 53 := by
  have := (Nat.log2_lt (n := n) (k := 54) (by omega)).2 (by omega)
  omega
set_option maxRecDepth 100000 in
/-- A whole number of at most 53 bits as a word. -/
theorem fl_of (n : Nat) (h1 : 1 ≤ n) (h2 : n ≤ 9007199254740992) :
    ∃ q f, floatOfInt .f64 (n : Int) = q * 4503599627370496 + f ∧ q = n.log2 + 1023 ∧ f < 4503599627370496 ∧ (4503599627370496 + f) * 2 = n * 2 ^ (53 - n.log2) := by
  have hL := log2_le53 h1 h2
  obtain ⟨L, hLe⟩ : ∃ L, n.log2 = L := ⟨_, rfl⟩
  have hlo : 2 ^ L ≤ n := by rw [← hLe]; exact Nat.log2_self_le (by omega)
  have hhi : n < 2 ^ (L + 1) := by rw [← hLe]; exact Nat.lt_log2_self
  rw [hLe] at hL ⊢
  have hp : 2 ^ L * 2 ^ (53 - L) = 9007199254740992 := by
    rw [← Nat.pow_add, show L + (53 - L) = 53 by omega]
  have hpos : 0 < 2 ^ (53 - L) := Nat.two_pow_pos _
  have hmul1 : 9007199254740992 ≤ n * 2 ^ (53 - L) := by rw [← hp]; exact Nat.mul_le_mul_right _ hlo
  have hmul2 : n * 2 ^ (53 - L) < 18014398509481984 := by
    have := (Nat.mul_lt_mul_right hpos).2 hhi
    rw [Nat.pow_succ, Nat.mul_comm (2 ^ L) 2, Nat.mul_assoc, hp] at this
    exact this
  have heven : n * 2 ^ (53 - L) % 2 = 0 := by
    rcases Nat.lt_or_ge L 53 with h | h
    · rw [show 53 - L = (52 - L) + 1 by omega, Nat.pow_succ, ← Nat.mul_assoc, Nat.mul_mod_left]
    · have hL53 : L = 53 := by omega
      subst hL53
      have : n = 9007199254740992 := by
        have : 2 ^ 53 = 9007199254740992 := by decide
        omega
      subst this
      decide
  obtain ⟨m, hm⟩ : ∃ m, n * 2 ^ (53 - L) = 2 * m := ⟨n * 2 ^ (53 - L) / 2, by omega⟩
  refine ⟨L + 1023, m - 4503599627370496, ?_, rfl, by omega, by omega⟩
  have hmm := mant_of (L + 1023) (m - 4503599627370496) (by omega) (by omega)
  have hee := expo_of (L + 1023) (m - 4503599627370496) (by omega) (by omega)
  obtain ⟨r, hr⟩ : ∃ r, (L + 1023) * 4503599627370496 + (m - 4503599627370496) = r := ⟨_, rfl⟩
  rw [hr] at hmm hee ⊢
  show Ieee.double.nearest (decide ((n : Int) < 0)) (n : Int).natAbs 0 = r
  rw [show decide ((n : Int) < 0) = false by simp, Int.natAbs_natCast]
  refine nearest_exact r n 0 2000 (by omega) (by omega) (by omega) (by omega) ?_
  rw [hmm, hee, show 4503599627370496 + (m - 4503599627370496) = m by omega, show (((L + 1023 : Nat) : Int) - 1075 + 2000).toNat = L + 1948 by omega]
  have e1 : (0 + 2000 : Int).toNat = (53 - L) + (L + 1947) := by omega
  rw [e1, Nat.pow_add, ← Nat.mul_assoc, hm, show 2 ^ (L + 1948) = 2 ^ (L + 1947) * 2 from Nat.pow_succ 2 (L + 1947)]
  generalize 2 ^ (L + 1947) = z
  rw [Nat.mul_comm 2 m, Nat.mul_assoc, Nat.mul_comm 2 z]

theorem fl_zero : floatOfInt .f64 0 = 0 := by decide
def rungOf (n : Nat) (e : Int) : Nat := (e + 1074).toNat * 4503599627370496 + n

theorem ldexp_nat (n : Nat) (e : Int) (w : World) (h2 : n ≤ 9007199254740992) (he0 : -1074 ≤ e) (he1 : e ≤ 971) (hn : 4503599627370496 ≤ n ∨ e = -1074) :
    Calls Tryz.prog 85 #[.float .f64 (floatOfInt .f64 (n : Int)), .int .i64 e] w fun ee w' => ee = .returned (.float .f64 (min (rungOf n e) 9218868437227405312)) ∧ w = w' := by
  unfold rungOf
  rcases Nat.eq_zero_or_pos n with h0 | h0
  · subst h0
    have he : e = -1074 := by omega
    subst he
    have := Ldexp_of 0 0 (-1074) w (ldexp_zero (-1074) w)
    exact this
  · obtain ⟨q, f, hfl, hq, hf, hm⟩ := fl_of n h0 h2
    have hL := log2_le53 h0 h2
    have hlo : 2 ^ n.log2 ≤ n := Nat.log2_self_le (by omega)
    have hhi : n < 2 ^ (n.log2 + 1) := Nat.lt_log2_self
    obtain ⟨L, hLe⟩ : ∃ L, n.log2 = L := ⟨_, rfl⟩
    rw [hLe] at hq hm hL hlo hhi
    rw [hfl]
    by_cases hk : 2047 ≤ e + q
    · have hL53 : L = 53 := by
        rcases Nat.lt_or_ge L 53 with h | h <;> omega
      subst hL53
      have hn53 : n = 9007199254740992 := by
        have : 2 ^ 53 = 9007199254740992 := by decide
        omega
      have he : e = 971 := by omega
      subst hn53; subst he
      exact Ldexp_of _ _ _ w (ldexp_high q f 971 w (by omega) (by omega) hf (by omega) (by omega) hk)
    · by_cases hk0 : 0 < e + q
      · obtain ⟨k, hkk⟩ : ∃ k : Nat, (k : Int) = e + q := ⟨(e + q).toNat, by omega⟩
        have hres : min ((e + 1074).toNat * 4503599627370496 + n) 9218868437227405312 = k * 4503599627370496 + f := by
          have hL52 : 52 ≤ L := by
            rcases hn with h | h
            · rcases Nat.lt_or_ge L 52 with h' | h'
              · have : 2 ^ (L + 1) ≤ 2 ^ 52 := Nat.pow_le_pow_right (by decide) (by omega)
                omega
              · exact h'
            · omega
          rcases (show L = 52 ∨ L = 53 by omega) with h | h
          · subst h
            have e1 : 2 ^ (53 - 52) = 2 := rfl
            rw [e1] at hm
            omega
          · subst h
            have hn53 : n = 9007199254740992 := by
              have : 2 ^ 53 = 9007199254740992 := by decide
              omega
            have e1 : 2 ^ (53 - 53) = 1 := rfl
            rw [e1] at hm
            omega
        rw [hres]
        exact Ldexp_of _ _ _ w (ldexp_mid q f e w (by omega) (by omega) hf he0 he1 k hkk (by omega) (by omega))
      · have he : e = -1074 := by
          rcases hn with h | h
          · rcases Nat.lt_or_ge L 52 with h' | h'
            · have : 2 ^ (L + 1) ≤ 2 ^ 52 := Nat.pow_le_pow_right (by decide) (by omega)
              omega
            · omega
          · exact h
        subst he
        have hLk : L ≤ 51 := by omega
        have hn52 : n < 4503599627370496 := by
          have : 2 ^ (L + 1) ≤ 2 ^ 52 := Nat.pow_le_pow_right (by decide) (by omega)
          omega
        have hres : min (((-1074 : Int) + 1074).toNat * 4503599627370496 + n) 9218868437227405312 = n := by omega
        rw [hres]
        refine Ldexp_of _ _ _ w (ldexp_low q f (-1074) w (by omega) (by omega) hf he0 he1 (L + 2) n (by omega) (by omega) (by omega) ?_ (by omega))
        show Ieee.double.mul 4368491638549381120 ((L + 2) * 4503599627370496 + f) = some n
        unfold Ieee.Format.mul
        rw [read_pos (show (L + 2) * 4503599627370496 + f < 9218868437227405312 by omega), read_pos (by omega), mant_of _ _ (by omega) hf, expo_of _ _ (by omega) hf]
        show some (Ieee.double.nearest false (4503599627370496 * (4503599627370496 + f)) (-105 + (((L + 2 : Nat) : Int) - 1075))) = some n
        rw [nearest_exact n _ _ 2000 h0 (by omega) (by omega) (by omega)]
        have hmn : mant n = n := by unfold mant; rw [if_pos hn52]
        have hen : expo n = -1074 := by unfold expo; rw [if_pos hn52]
        rw [hmn, hen, show (-105 + (((L + 2 : Nat) : Int) - 1075) + 2000).toNat = L + 822 by omega, show ((-1074 : Int) + 2000).toNat = 51 + ((53 - L) + (L + 822)) by omega, Nat.pow_add 2 51, Nat.pow_add 2 (53 - L)]
        have e51 : (4503599627370496 : Nat) = 2 ^ 51 * 2 := by decide
        have : 4503599627370496 * (4503599627370496 + f) = 2 ^ 51 * (n * 2 ^ (53 - L)) := by
          rw [← hm]
          generalize 4503599627370496 + f = z
          omega
        rw [this]
        generalize 2 ^ (L + 822) = z
        generalize 2 ^ (53 - L) = y
        generalize 2 ^ 51 = u
        grind

/-- Two to the 1075. -/
def big : Nat := 2 ^ 1075
/-- The word r is the one that a positive ratio p by q is rounded to: by the midpoints to its neighbours; on a midpoint the even word. -/
def Tells (r p q : Nat) : Prop :=
  if r % 2 = 0 then (unt (r - 1) + unt r) * q ≤ p * big ∧ p * big ≤ (unt r + unt (r + 1)) * q
  else (unt (r - 1) + unt r) * q < p * big ∧ p * big < (unt r + unt (r + 1)) * q
/-- The rounding, from the word below. -/
def roundUp (r0 p q : Nat) : Nat :=
  if (unt r0 + unt (r0 + 1)) * q < p * big ∨ ((unt r0 + unt (r0 + 1)) * q = p * big ∧ r0 % 2 = 1) then r0 + 1 else r0
theorem round_tells {r0 p q : Nat} (hq : 0 < q) (h0 : 2 * unt r0 * q ≤ p * big) (h1 : p * big < 2 * unt (r0 + 1) * q) {r : Nat} (hr : 0 < r) :
    roundUp r0 p q = r ↔ Tells r p q := by
  unfold roundUp Tells
  generalize p * big = X at *
  have key : ∀ a b : Nat, a < b → unt a * q < unt b * q := fun a b h => (Nat.mul_lt_mul_right hq).2 (unt_lt h)
  have key2 : ∀ a b : Nat, a ≤ b → unt a * q ≤ unt b * q := fun a b h => Nat.mul_le_mul_right q (unt_le h)
  have a1 := key r0 (r0 + 1) (by omega)
  have a3 := key (r - 1) r (by omega)
  have a4 := key r (r + 1) (by omega)
  rw [Nat.mul_assoc] at h0 h1
  simp only [Nat.add_mul]
  rcases Nat.lt_trichotomy r r0 with h | h | h
  · have b1 := key2 (r + 1) r0 (by omega)
    have b2 := key r r0 h
    split <;> split <;> (constructor <;> intro hh <;> omega)
  · subst h
    split <;> split <;> (constructor <;> intro hh <;> omega)
  · rcases Nat.lt_or_ge (r0 + 1) r with h' | h'
    · have b1 := key2 (r0 + 1) (r - 1) (by omega)
      have b2 := key (r0 + 1) r h'
      split <;> split <;> (constructor <;> intro hh <;> omega)
    · have hr1 : r = r0 + 1 := by omega
      subst hr1
      rw [show r0 + 1 - 1 = r0 by omega] at *
      split <;> split <;> (constructor <;> intro hh <;> omega)
theorem unt_rung (n : Nat) (e : Int) (h2 : n ≤ 9007199254740992) (hn : 4503599627370496 ≤ n ∨ e = -1074) : unt (rungOf n e) = n * 2 ^ (e + 1074).toNat := by
  unfold rungOf
  obtain ⟨k, hk⟩ : ∃ k : Nat, (e + 1074).toNat = k := ⟨_, rfl⟩
  rw [hk]
  rcases Nat.lt_or_ge n 4503599627370496 with h | h
  · have : k = 0 := by omega
    subst this
    unfold unt mant expo
    rw [if_pos (by omega), if_pos (by omega)]
    simp
  · rcases Nat.lt_or_ge n 9007199254740992 with h' | h'
    · have e1 := mant_of (k + 1) (n - 4503599627370496) (by omega) (by omega)
      have e2 := expo_of (k + 1) (n - 4503599627370496) (by omega) (by omega)
      rw [show (k + 1) * 4503599627370496 + (n - 4503599627370496) = k * 4503599627370496 + n by omega] at e1 e2
      unfold unt
      rw [e1, e2, show 4503599627370496 + (n - 4503599627370496) = n by omega, show (((k + 1 : Nat) : Int) - 1075 + 1074).toNat = k by omega]
    · have hn53 : n = 9007199254740992 := by omega
      subst hn53
      have e1 := mant_of (k + 2) 0 (by omega) (by omega)
      have e2 := expo_of (k + 2) 0 (by omega) (by omega)
      rw [show (k + 2) * 4503599627370496 + 0 = k * 4503599627370496 + 9007199254740992 by omega] at e1 e2
      unfold unt
      rw [e1, e2, show (((k + 2 : Nat) : Int) - 1075 + 1074).toNat = k + 1 by omega, Nat.pow_succ]
      generalize 2 ^ k = z
      omega
end Go.Proofs.YtmhbkilidpbenaaGreatDoor
