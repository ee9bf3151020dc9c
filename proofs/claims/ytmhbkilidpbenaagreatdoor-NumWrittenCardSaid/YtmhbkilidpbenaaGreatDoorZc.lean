/- The plain law of the gap: how near a multiple of a fraction can come to a whole number; the check of all exponents. Each lemma's conditions stand in its own statement. -/
import Derived.Test.YtmhbkilidpbenaaGreatDoorZb
namespace Go.Proofs.YtmhbkilidpbenaaGreatDoor

/-- A by M is a whole number, or by 2/t away from each. -/
def Gap (A M t : Nat) : Prop := A % M = 0 ∨ (2 * M ≤ t * (A % M) ∧ 2 * M ≤ t * (M - A % M))
theorem Gap.mono {A M t t' : Nat} (h : Gap A M t) (ht : t ≤ t') : Gap A M t' := by
  rcases h with h | ⟨h1, h2⟩
  · exact .inl h
  · exact .inr ⟨Nat.le_trans h1 (Nat.mul_le_mul_right _ ht), Nat.le_trans h2 (Nat.mul_le_mul_right _ ht)⟩
theorem Gap.scale {A M t k : Nat} (_ : 0 < k) (h : Gap A M t) : Gap (A * k) (M * k) t := by
  unfold Gap at *
  rw [Nat.mul_mod_mul_right]
  rcases h with h | ⟨h1, h2⟩
  · left; rw [h, Nat.zero_mul]
  · right
    rw [← Nat.sub_mul, ← Nat.mul_assoc, ← Nat.mul_assoc, ← Nat.mul_assoc]
    exact ⟨Nat.mul_le_mul_right _ h1, Nat.mul_le_mul_right _ h2⟩
theorem Gap.unscale {A M t k : Nat} (hk : 0 < k) (h : Gap (A * k) (M * k) t) : Gap A M t := by
  unfold Gap at *
  rw [Nat.mul_mod_mul_right, ← Nat.sub_mul, ← Nat.mul_assoc, ← Nat.mul_assoc, ← Nat.mul_assoc] at h
  rcases h with h | ⟨h1, h2⟩
  · left
    rcases Nat.mul_eq_zero.1 h with h | h
    · exact h
    · omega
  · exact .inr ⟨Nat.le_of_mul_le_mul_right h1 hk, Nat.le_of_mul_le_mul_right h2 hk⟩
/-- Only the ratio counts. -/
theorem Gap.ratio {A M A' M' t : Nat} (hM : 0 < M) (hM' : 0 < M') (e : A * M' = A' * M) (h : Gap A M t) : Gap A' M' t := by
  have h1 := h.scale hM'
  rw [e, Nat.mul_comm M M'] at h1
  exact h1.unscale hM
theorem unr_scale {A M k : Nat} (hk : 0 < k) : unr (A * k) (M * k) = unr A M := by
  unfold unr
  rw [Nat.mul_mod_mul_right, Nat.mul_div_mul_right _ _ hk]
  by_cases h : A % M = 0
  · rw [if_pos h, if_pos (by rw [h, Nat.zero_mul])]
  · rw [if_neg h, if_neg (fun g => by
      rcases Nat.mul_eq_zero.1 g with g | g
      · exact h g
      · omega)]
theorem unr_ratio {A M A' M' : Nat} (hM : 0 < M) (hM' : 0 < M') (e : A * M' = A' * M) : unr A M = unr A' M' := by
  rw [← unr_scale (A := A) (M := M) hM', e, Nat.mul_comm M M', unr_scale hM]

theorem lin_gap {α β r1 r2 : Int} {b t : Int} (h1 : 0 ≤ r1) (h2 : 0 ≤ r2) (ht : 0 ≤ t) (g1 : r1 = 0 ∨ 2 * b ≤ t * r1) (g2 : r2 = 0 ∨ 2 * b ≤ t * r2)
    (hx : (α ≤ 0 ∨ β ≤ 0) ∨ r1 = 0 ∨ r2 = 0) (hneg : 0 ≤ α ∨ 0 ≤ β) : α * r1 - β * r2 = 0 ∨ 2 * b ≤ t * (α * r1 - β * r2) ∨ 2 * b ≤ t * (β * r2 - α * r1) := by
  have key : ∀ a r : Int, 0 ≤ a → 0 ≤ r → (r = 0 ∨ 2 * b ≤ t * r) → a * r = 0 ∨ 2 * b ≤ t * (a * r) := by
    intro a r ha hr hg
    rcases hg with hg | hg
    · left; rw [hg, Int.mul_zero]
    · rcases Int.lt_or_le 0 a with g | g
      · right
        have : 1 * r ≤ a * r := Int.mul_le_mul_of_nonneg_right g hr
        have : t * (1 * r) ≤ t * (a * r) := Int.mul_le_mul_of_nonneg_left this ht
        rw [Int.one_mul] at this
        omega
      · left
        rw [show a = 0 by omega, Int.zero_mul]
  have sgn : ∀ a r : Int, (0 ≤ a → 0 ≤ r → 0 ≤ a * r) := fun a r h h' => Int.mul_nonneg h h'
  -- two non-negative parts
  have two : ∀ P Q : Int, 0 ≤ P → 0 ≤ Q → (P = 0 ∨ 2 * b ≤ t * P) → (Q = 0 ∨ 2 * b ≤ t * Q) → P + Q = 0 ∨ 2 * b ≤ t * (P + Q) := by
    intro P Q hP hQ p q
    have m1 : 0 ≤ t * P := Int.mul_nonneg ht hP
    have m2 : 0 ≤ t * Q := Int.mul_nonneg ht hQ
    rw [Int.mul_add]
    rcases p with p | p
    · rcases q with q | q
      · left; omega
      · right; omega
    · right; omega
  rcases Int.le_total 0 α with ha | ha
  · rcases Int.le_total 0 β with hb | hb
    · -- both not below 0
      have ka := key α r1 ha h1 g1
      have kb := key β r2 hb h2 g2
      have zero : α * r1 = 0 ∨ β * r2 = 0 := by
        rcases hx with (h | h) | h | h
        · left; rw [show α = 0 by omega, Int.zero_mul]
        · right; rw [show β = 0 by omega, Int.zero_mul]
        · left; rw [h, Int.mul_zero]
        · right; rw [h, Int.mul_zero]
      rcases zero with z | z
      · rw [z, Int.sub_zero, Int.zero_sub]
        rcases kb with kb | kb
        · left; omega
        · exact .inr (.inr kb)
      · rw [z, Int.sub_zero, Int.zero_sub]
        rcases ka with ka | ka
        · left; omega
        · exact .inr (.inl ka)
    · have ka := key α r1 ha h1 g1
      have kb := key (-β) r2 (by omega) h2 g2
      have e : α * r1 - β * r2 = α * r1 + (-β) * r2 := by grind
      have := two _ _ (sgn _ _ ha h1) (sgn (-β) r2 (by omega) h2) ka kb
      rw [← e] at this
      rcases this with h | h
      · exact .inl h
      · exact .inr (.inl h)
  · rcases Int.le_total 0 β with hb | hb
    · have ka := key (-α) r1 (by omega) h1 g1
      have kb := key β r2 hb h2 g2
      have e : β * r2 - α * r1 = (-α) * r1 + β * r2 := by grind
      have := two _ _ (sgn (-α) r1 (by omega) h1) (sgn β r2 hb h2) ka kb
      rw [← e] at this
      rcases this with h | h
      · left; omega
      · exact .inr (.inr h)
    · have ka := key (-α) r1 (by omega) h1 g1
      have kb := key (-β) r2 (by omega) h2 g2
      have ea : (-α) * r1 = -(α * r1) := by grind
      have eb : (-β) * r2 = -(β * r2) := by grind
      rw [ea] at ka
      rw [eb] at kb
      rcases hneg with z | z
      · rw [show α = 0 by omega, Int.zero_mul, Int.zero_sub]
        rcases kb with kb | kb
        · left; omega
        · exact .inr (.inl kb)
      · rw [show β = 0 by omega, Int.zero_mul, Int.sub_zero, Int.zero_sub]
        rcases ka with ka | ka
        · left; omega
        · exact .inr (.inr ka)

/-- A reduced pair bounds how near the multiples below Nn come. -/
theorem cert_gap {a b x1 y1 x2 y2 Nn t x : Nat} (hb : 0 < b) (det : x1 * y2 = x2 * y1 + 1) (r1 : y1 * b ≤ x1 * a) (r2 : x2 * a ≤ y2 * b)
    (hN : Nn ≤ x1 + x2 ∨ x1 * a = y1 * b ∨ x2 * a = y2 * b) (g1 : x1 * a = y1 * b ∨ 2 * b ≤ t * (x1 * a - y1 * b)) (g2 : x2 * a = y2 * b ∨ 2 * b ≤ t * (y2 * b - x2 * a)) (hx : x < Nn) : Gap (x * a) b t := by
  obtain ⟨R1, hR1⟩ : ∃ R1, x1 * a - y1 * b = R1 := ⟨_, rfl⟩
  obtain ⟨R2, hR2⟩ : ∃ R2, y2 * b - x2 * a = R2 := ⟨_, rfl⟩
  have e1 : (x1 : Int) * a - y1 * b = R1 := by
    have : x1 * a = y1 * b + R1 := by omega
    have := congrArg (Nat.cast (R := Int)) this
    simp only [Int.natCast_mul, Int.natCast_add] at this
    omega
  have e2 : (y2 : Int) * b - x2 * a = R2 := by
    have : y2 * b = x2 * a + R2 := by omega
    have := congrArg (Nat.cast (R := Int)) this
    simp only [Int.natCast_mul, Int.natCast_add] at this
    omega
  have edet : (x1 : Int) * y2 = x2 * y1 + 1 := by
    have := congrArg (Nat.cast (R := Int)) det
    simp only [Int.natCast_mul, Int.natCast_add] at this
    exact this
  have main : ∀ Y : Int, ((x : Int) * a - Y * b = 0 ∨ 2 * (b : Int) ≤ t * ((x : Int) * a - Y * b) ∨ 2 * (b : Int) ≤ t * (Y * b - (x : Int) * a)) := by
    intro Y
    have ez : (x : Int) * a - Y * b = ((x : Int) * y2 - Y * x2) * R1 - ((x1 : Int) * Y - x * y1) * R2 := by
      rw [← e1, ← e2]
      have h3 : ((x : Int) * y2 - Y * x2) * ((x1 : Int) * a - y1 * b) - ((x1 : Int) * Y - x * y1) * ((y2 : Int) * b - x2 * a) = ((x1 : Int) * y2 - x2 * y1) * (x * a - Y * b) := by grind
      rw [h3, edet]
      grind
    have ex : (x : Int) = ((x : Int) * y2 - Y * x2) * x1 + ((x1 : Int) * Y - x * y1) * x2 := by
      have h3 : ((x : Int) * y2 - Y * x2) * x1 + ((x1 : Int) * Y - x * y1) * x2 = x * ((x1 : Int) * y2 - x2 * y1) := by grind
      rw [h3, edet]
      grind
    have ez' : Y * b - (x : Int) * a = ((x1 : Int) * Y - x * y1) * R2 - ((x : Int) * y2 - Y * x2) * R1 := by
      have : Y * b - (x : Int) * a = -((x : Int) * a - Y * b) := by grind
      rw [this, ez]
      grind
    rw [ez, ez']
    obtain ⟨al, hal⟩ : ∃ al, (x : Int) * y2 - Y * x2 = al := ⟨_, rfl⟩
    obtain ⟨be, hbe⟩ : ∃ be, (x1 : Int) * Y - x * y1 = be := ⟨_, rfl⟩
    rw [hal, hbe] at ex ⊢
    refine lin_gap (by omega) (by omega) (by omega) ?_ ?_ ?_ ?_
    · rcases g1 with g | g
      · left; omega
      · right
        rw [hR1] at g
        exact_mod_cast g
    · rcases g2 with g | g
      · left; omega
      · right
        rw [hR2] at g
        exact_mod_cast g
    · rcases hN with h | h | h
      · left
        rcases Int.lt_or_le 0 al with ha | ha
        · rcases Int.lt_or_le 0 be with hb' | hb'
          · exfalso
            have k1 : 1 * (x1 : Int) ≤ al * x1 := Int.mul_le_mul_of_nonneg_right ha (by omega)
            have k2 : 1 * (x2 : Int) ≤ be * x2 := Int.mul_le_mul_of_nonneg_right hb' (by omega)
            omega
          · exact .inr hb'
        · exact .inl ha
      · right; left; omega
      · right; right; omega
    · rcases Int.lt_or_le al 0 with ha | ha
      · rcases Int.lt_or_le be 0 with hb' | hb'
        · exfalso
          have k1 : (al + 1) * (x1 : Int) ≤ 0 * x1 := Int.mul_le_mul_of_nonneg_right (by omega) (by omega)
          have k2 : (be + 1) * (x2 : Int) ≤ 0 * x2 := Int.mul_le_mul_of_nonneg_right (by omega) (by omega)
          rw [Int.add_mul] at k1 k2
          have : 0 < x1 ∨ 0 < x2 := by
            rcases Nat.eq_zero_or_pos x1 with g | g
            · subst g; omega
            · exact .inl g
          omega
        · exact .inr hb'
      · exact .inl ha
  obtain ⟨Y, hY⟩ : ∃ Y, x * a / b = Y := ⟨_, rfl⟩
  obtain ⟨r, hr⟩ : ∃ r, x * a % b = r := ⟨_, rfl⟩
  have hd := Nat.div_add_mod (x * a) b
  have hm := Nat.mod_lt (x * a) hb
  rw [hY, hr] at hd
  rw [hr] at hm
  have hdi : (x : Int) * a = b * Y + r := by
    have := congrArg (Nat.cast (R := Int)) hd.symm
    simp only [Int.natCast_mul, Int.natCast_add] at this
    exact this
  unfold Gap
  rw [hr]
  rcases Nat.eq_zero_or_pos r with g | g
  · exact .inl g
  · right
    have f1 : (x : Int) * a - Y * b = r := by rw [hdi]; grind
    have f2 : (x : Int) * a - ((Y : Int) + 1) * b = (r : Int) - b := by rw [hdi]; grind
    have f3 : (Y : Int) * b - x * a = -(r : Int) := by rw [hdi]; grind
    have f4 : ((Y : Int) + 1) * b - x * a = (b : Int) - r := by rw [hdi]; grind
    have m1 := main Y
    have m2 := main (Y + 1)
    rw [f1, f3] at m1
    rw [f2, f4] at m2
    have n1 : (t : Int) * (-(r : Int)) ≤ 0 := by
      have : 0 ≤ (t : Int) * r := Int.mul_nonneg (by omega) (by omega)
      rw [Int.mul_neg]; omega
    have n2 : (t : Int) * ((r : Int) - b) ≤ 0 := by
      have : 0 ≤ (t : Int) * ((b : Int) - r) := Int.mul_nonneg (by omega) (by omega)
      rw [show (r : Int) - b = -((b : Int) - r) by omega, Int.mul_neg]; omega
    constructor
    · have : 2 * (b : Int) ≤ t * r := by omega
      exact_mod_cast this
    · have : 2 * (b : Int) ≤ t * ((b : Int) - r) := by omega
      have e : ((b - r : Nat) : Int) = (b : Int) - r := by omega
      rw [← e] at this
      exact_mod_cast this
end Go.Proofs.YtmhbkilidpbenaaGreatDoor
