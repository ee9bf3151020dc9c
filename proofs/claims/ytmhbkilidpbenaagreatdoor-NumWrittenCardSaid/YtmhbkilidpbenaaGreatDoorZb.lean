/- The plain law of the scaling by a 128-bit power of ten, and of the rounding from two bits more. Each lemma's conditions stand in its own statement. -/
namespace Go.Proofs.YtmhbkilidpbenaaGreatDoor

/-- The quotient A by M with its last bit set if something is left. -/
def unr (A M : Nat) : Nat := if A % M = 0 then A / M else A / M / 2 * 2 + 1
/-- The program's scaling of x by the power hi * 2^64 - lo and the shift s. -/
def usc (x hi lo s : Nat) : Nat :=
  if x * hi / 18446744073709551616 % 2 ^ s = 0 then
    (if x * hi % 18446744073709551616 < x * lo / 18446744073709551616 then (x * hi / 18446744073709551616 - 1) / 2 ^ s / 2 * 2 + 1
     else if x * hi % 18446744073709551616 - x * lo / 18446744073709551616 ≤ 1 then x * hi / 18446744073709551616 / 2 ^ s
     else x * hi / 18446744073709551616 / 2 ^ s / 2 * 2 + 1)
  else x * hi / 18446744073709551616 / 2 ^ s / 2 * 2 + 1

theorem div_between {A M q : Nat} (h0 : q * M ≤ A) (h1 : A < (q + 1) * M) : A / M = q :=
  Nat.div_eq_of_lt_le h0 h1
theorem unr_of_between {A M q : Nat} (_ : 0 < M) (h0 : q * M < A) (h1 : A < (q + 1) * M) : unr A M = q / 2 * 2 + 1 := by
  have e := div_between (Nat.le_of_lt h0) h1
  unfold unr
  have hr : A % M ≠ 0 := by
    intro h
    have := Nat.div_add_mod A M
    rw [e, h, Nat.mul_comm] at this
    omega
  rw [if_neg hr, e]
theorem unr_exact {M q : Nat} (hM : 0 < M) : unr (q * M) M = q := by
  unfold unr
  rw [if_pos (Nat.mul_mod_left q M), Nat.mul_div_cancel _ hM]

/-- The scaling is exact: N by M is the factor; T2 is 2^(128+s). The power lies below hi * 2^64 - lo by less than 1. A gap parts what is no whole number from the whole numbers. -/
theorem usc_exact {x hi lo s N M : Nat} (hx0 : 0 < x) (hx : x < 18446744073709551616) (hlo : lo < 18446744073709551616) (hM : 0 < M)
    (hpm1 : N * (2 ^ s * (18446744073709551616 * 18446744073709551616)) + lo * M ≤ hi * 18446744073709551616 * M)
    (hpm0 : hi * 18446744073709551616 * M < N * (2 ^ s * (18446744073709551616 * 18446744073709551616)) + lo * M + M)
    (hgap : x * N % M = 0 ∨ (2 * M ≤ 2 ^ s * 18446744073709551616 * (x * N % M) ∧ 2 * M ≤ 2 ^ s * 18446744073709551616 * (M - x * N % M))) :
    usc x hi lo s = unr (x * N) M := by
  have hS : 0 < 2 ^ s := Nat.two_pow_pos s
  obtain ⟨S, hSe⟩ : ∃ S, 2 ^ s = S := ⟨_, rfl⟩
  unfold usc
  rw [hSe] at hS hpm1 hpm0 hgap ⊢
  obtain ⟨W, hW⟩ : ∃ W, 18446744073709551616 = W := ⟨_, rfl⟩
  have hWpos : 4 ≤ W := by omega
  rw [hW] at hx hlo hpm1 hpm0 hgap ⊢
  clear hW hSe
  obtain ⟨h, hh⟩ : ∃ h, x * hi / W = h := ⟨_, rfl⟩
  obtain ⟨mid, hmid⟩ : ∃ mid, x * hi % W = mid := ⟨_, rfl⟩
  obtain ⟨mid2, hmid2⟩ : ∃ mid2, x * lo / W = mid2 := ⟨_, rfl⟩
  obtain ⟨lo2, hlo2⟩ : ∃ lo2, x * lo % W = lo2 := ⟨_, rfl⟩
  have d1 : x * hi = W * h + mid := by rw [← hh, ← hmid]; exact (Nat.div_add_mod _ _).symm
  have d2 : x * lo = W * mid2 + lo2 := by rw [← hmid2, ← hlo2]; exact (Nat.div_add_mod _ _).symm
  have b1 : mid < W := by rw [← hmid]; exact Nat.mod_lt _ (by omega)
  have b2 : lo2 < W := by rw [← hlo2]; exact Nat.mod_lt _ (by omega)
  have b3 : mid2 + 2 ≤ W := by
    have e1 : x * lo ≤ (W - 1) * (W - 1) := Nat.mul_le_mul (by omega) (by omega)
    obtain ⟨V, rfl⟩ : ∃ V, W = V + 1 := ⟨W - 1, by omega⟩
    rw [show V + 1 - 1 = V by omega] at e1
    have e2 : (V + 1) * mid2 ≤ V * V := by omega
    rcases Nat.lt_or_ge mid2 V with g | g
    · omega
    · exfalso
      have : (V + 1) * V ≤ (V + 1) * mid2 := Nat.mul_le_mul_left _ g
      rw [Nat.add_mul, Nat.one_mul] at this
      omega
  rw [hh, hmid, hmid2]
  clear hh hmid hmid2 hlo2
  -- the value y: x * N * (S W W) between bounds
  have hxle : x * M < W * M := (Nat.mul_lt_mul_right hM).2 hx
  have u1 : x * N * (S * (W * W)) + (W * mid2 + lo2) * M ≤ (W * h + mid) * W * M := by
    have := Nat.mul_le_mul_left x hpm1
    rw [← d1, ← d2]
    calc x * N * (S * (W * W)) + x * lo * M = x * (N * (S * (W * W)) + lo * M) := by grind
      _ ≤ x * (hi * W * M) := this
      _ = x * hi * W * M := by grind
  have u0 : (W * h + mid) * W * M < x * N * (S * (W * W)) + (W * mid2 + lo2) * M + x * M := by
    have := (Nat.mul_lt_mul_left hx0).2 hpm0
    rw [← d1, ← d2]
    calc x * hi * W * M = x * (hi * W * M) := by grind
      _ < x * (N * (S * (W * W)) + lo * M + M) := this
      _ = x * N * (S * (W * W)) + x * lo * M + x * M := by grind
  obtain ⟨A, hA⟩ : ∃ A, x * N = A := ⟨_, rfl⟩
  rw [hA] at u0 u1 hgap ⊢
  -- h = S * q + t
  obtain ⟨q, hq⟩ : ∃ q, h / S = q := ⟨_, rfl⟩
  obtain ⟨t, ht⟩ : ∃ t, h % S = t := ⟨_, rfl⟩
  have d3 : h = S * q + t := by rw [← hq, ← ht]; exact (Nat.div_add_mod _ _).symm
  have b4 : t < S := by rw [← ht]; exact Nat.mod_lt _ hS
  rw [hq, ht]
  have hWW : 0 < W * W := Nat.mul_pos (by omega) (by omega)
  have hSWW : 0 < S * (W * W) := Nat.mul_pos hS hWW
  -- to be shown of the products with S W W
  have up : ∀ z, A * (S * (W * W)) < z * M * (S * (W * W)) → A < z * M := fun z g => Nat.lt_of_mul_lt_mul_right g
  have dn : ∀ z, z * M * (S * (W * W)) < A * (S * (W * W)) → z * M < A := fun z g => Nat.lt_of_mul_lt_mul_right g
  obtain ⟨Y, hY⟩ : ∃ Y, A * (S * (W * W)) = Y := ⟨_, rfl⟩
  rw [hY] at u0 u1 up dn
  have hWM : 0 < W * M := Nat.mul_pos (by omega) hM
  -- everything in units of M: Y + (W mid2 + lo2) M <= (W h + mid) W M
  by_cases t0 : t = 0
  · subst t0
    rw [if_pos rfl]
    rw [Nat.add_zero] at d3
    by_cases hb : mid < mid2
    · rw [if_pos hb]
      -- h ≥ 1
      have hh1 : 1 ≤ h := by
        rcases Nat.eq_zero_or_pos h with g | g
        · exfalso
          subst g
          have e1 : (W * 0 + mid) * W * M = (mid * W) * M := by grind
          rw [e1] at u1
          have e2 : (W * mid2 + lo2) * M ≤ (mid * W) * M := by omega
          have e3 := Nat.le_of_mul_le_mul_right e2 hM
          have e4 : (mid + 1) * W ≤ mid2 * W := Nat.mul_le_mul_right W hb
          rw [Nat.add_mul, Nat.mul_comm mid2] at e4
          omega
        · exact g
      have hq1 : 1 ≤ q := by
        rcases Nat.eq_zero_or_pos q with g | g
        · subst g; omega
        · exact g
      have e5 : (h - 1) / S = q - 1 := by
        refine div_between ?_ ?_
        · obtain ⟨q', rfl⟩ : ∃ q', q = q' + 1 := ⟨q - 1, by omega⟩
          rw [show q' + 1 - 1 = q' by omega, d3, Nat.mul_add, Nat.mul_comm q' S]
          omega
        · rw [show q - 1 + 1 = q by omega, d3, Nat.mul_comm q S]
          omega
      rw [e5]
      refine (unr_of_between hM ?_ ?_).symm
      · -- (q-1) M < A
        refine dn _ ?_
        obtain ⟨q', rfl⟩ : ∃ q', q = q' + 1 := ⟨q - 1, by omega⟩
        rw [show q' + 1 - 1 = q' by omega]
        have f1 : (W * h + mid) * W * M = q' * M * (S * (W * W)) + (S * (W * W) + mid * W) * M := by rw [d3]; grind
        rw [f1] at u0
        have f2 : (W * mid2 + lo2) * M + x * M ≤ (S * (W * W)) * M := by
          have f3 : W * mid2 + lo2 + x ≤ S * (W * W) := by
            have f4 : W * (mid2 + 2) ≤ W * W := Nat.mul_le_mul_left W b3
            have f5 : 1 * (W * W) ≤ S * (W * W) := Nat.mul_le_mul_right _ hS
            rw [Nat.mul_add] at f4
            omega
          rw [← Nat.add_mul]
          exact Nat.mul_le_mul_right M f3
        have f6 : (S * (W * W) + mid * W) * M = S * (W * W) * M + mid * W * M := Nat.add_mul _ _ _
        have : 0 ≤ mid * W * M := Nat.zero_le _
        omega
      · rw [show q - 1 + 1 = q by omega]
        refine up _ ?_
        have f1 : (W * h + mid) * W * M = q * M * (S * (W * W)) + mid * W * M := by rw [d3]; grind
        rw [f1] at u1
        have f2 : mid * W * M + W * M ≤ W * mid2 * M := by
          have : (mid + 1) * (W * M) ≤ mid2 * (W * M) := Nat.mul_le_mul_right _ hb
          rw [Nat.add_mul] at this
          have g1 : mid * (W * M) = mid * W * M := by grind
          have g2 : mid2 * (W * M) = W * mid2 * M := by grind
          omega
        rw [Nat.add_mul (W * mid2) lo2 M] at u1
        omega
    · rw [if_neg hb]
      by_cases hc : mid - mid2 ≤ 1
      · rw [if_pos hc]
        -- the value is within 2 W of q: by the gap it is q
        have hmm : mid = mid2 ∨ mid = mid2 + 1 := by omega
        have f1 : (W * h + mid) * W * M = q * M * (S * (W * W)) + mid * W * M := by rw [d3]; grind
        rw [f1] at u0 u1
        rw [Nat.add_mul (W * mid2) lo2 M] at u0 u1
        have g2 : mid2 * W * M = W * mid2 * M := by grind
        have hl2 : lo2 * M < W * M := (Nat.mul_lt_mul_right hM).2 b2
        have g3 : mid * W * M = W * mid2 * M ∨ mid * W * M = W * mid2 * M + W * M := by
          rcases hmm with e | e <;> rw [e]
          · left; exact g2
          · right; rw [Nat.add_mul, Nat.add_mul, Nat.one_mul, g2]
        have near1 : Y ≤ q * M * (S * (W * W)) + W * M := by omega
        have near0 : q * M * (S * (W * W)) < Y + 2 * (W * M) := by omega
        rcases hgap with hg | ⟨hg1, hg2⟩
        · -- A is a multiple of M
          have hA2 : A / M * M = A := by
            have := Nat.div_add_mod A M
            rw [hg, Nat.mul_comm] at this
            omega
          obtain ⟨a, ha⟩ : ∃ a, A / M = a := ⟨_, rfl⟩
          rw [ha] at hA2
          have hYa : Y = a * M * (S * (W * W)) := by rw [← hY, hA2]
          have big2 : 2 * (W * M) < M * (S * (W * W)) := by
            have k1 : 1 * (W * W) ≤ S * (W * W) := Nat.mul_le_mul_right _ hS
            have k2 : M * (1 * (W * W)) ≤ M * (S * (W * W)) := Nat.mul_le_mul_left _ k1
            have k3 : M * (1 * (W * W)) = W * (W * M) := by grind
            have k4 : 4 * (W * M) ≤ W * (W * M) := Nat.mul_le_mul_right _ hWpos
            omega
          have haq : a = q := by
            rcases Nat.lt_trichotomy a q with g | g | g
            · exfalso
              have : (a + 1) * (M * (S * (W * W))) ≤ q * (M * (S * (W * W))) := Nat.mul_le_mul_right _ g
              rw [Nat.add_mul, Nat.one_mul, ← Nat.mul_assoc a, ← Nat.mul_assoc q] at this
              omega
            · exact g
            · exfalso
              have : (q + 1) * (M * (S * (W * W))) ≤ a * (M * (S * (W * W))) := Nat.mul_le_mul_right _ g
              rw [Nat.add_mul, Nat.one_mul, ← Nat.mul_assoc q, ← Nat.mul_assoc a] at this
              omega
          rw [← hA2, haq, unr_exact hM]
        · exfalso
          -- A = M a + r with r far from 0 and M
          obtain ⟨a, ha⟩ : ∃ a, A / M = a := ⟨_, rfl⟩
          obtain ⟨r, hr⟩ : ∃ r, A % M = r := ⟨_, rfl⟩
          have dA : A = M * a + r := by rw [← ha, ← hr]; exact (Nat.div_add_mod _ _).symm
          have bR : r < M := by rw [← hr]; exact Nat.mod_lt _ hM
          rw [hr] at hg1 hg2
          have k1 : 2 * (W * M) ≤ r * (S * (W * W)) := by
            have := Nat.mul_le_mul_left W hg1
            have g1 : W * (2 * M) = 2 * (W * M) := by grind
            have g2 : W * (S * W * r) = r * (S * (W * W)) := by grind
            omega
          have k2 : 2 * (W * M) + r * (S * (W * W)) ≤ M * (S * (W * W)) := by
            have := Nat.mul_le_mul_left W hg2
            have g1 : W * (2 * M) = 2 * (W * M) := by grind
            have g2 : W * (S * W * (M - r)) = (M - r) * (S * (W * W)) := by grind
            have g3 : (M - r) * (S * (W * W)) + r * (S * (W * W)) = M * (S * (W * W)) := by
              rw [← Nat.add_mul, show M - r + r = M by omega]
            omega
          have hYa : Y = a * M * (S * (W * W)) + r * (S * (W * W)) := by rw [← hY, dA]; grind
          rcases Nat.lt_or_ge a q with g | g
          · have : (a + 1) * (M * (S * (W * W))) ≤ q * (M * (S * (W * W))) := Nat.mul_le_mul_right _ g
            rw [Nat.add_mul, Nat.one_mul, ← Nat.mul_assoc a, ← Nat.mul_assoc q] at this
            omega
          · have : q * (M * (S * (W * W))) ≤ a * (M * (S * (W * W))) := Nat.mul_le_mul_right _ g
            rw [← Nat.mul_assoc a, ← Nat.mul_assoc q] at this
            omega
      · rw [if_neg hc]
        refine (unr_of_between hM ?_ ?_).symm
        · refine dn _ ?_
          have f1 : (W * h + mid) * W * M = q * M * (S * (W * W)) + mid * W * M := by rw [d3]; grind
          rw [f1] at u0
          have f2 : W * mid2 * M + W * M + W * M ≤ mid * W * M := by
            have : (mid2 + 2) * (W * M) ≤ mid * (W * M) := Nat.mul_le_mul_right _ (by omega)
            rw [Nat.add_mul] at this
            have g1 : mid * (W * M) = mid * W * M := by grind
            have g2 : mid2 * (W * M) = W * mid2 * M := by grind
            omega
          rw [Nat.add_mul (W * mid2) lo2 M] at u0
          have hl2 : lo2 * M < W * M := (Nat.mul_lt_mul_right hM).2 b2
          omega
        · refine up _ ?_
          have f1 : (W * h + mid) * W * M = q * M * (S * (W * W)) + mid * W * M := by rw [d3]; grind
          rw [f1] at u1
          have f3 : (q + 1) * M * (S * (W * W)) = q * M * (S * (W * W)) + M * (S * (W * W)) := by grind
          have f4 : mid * W * M < M * (S * (W * W)) := by
            have k0 : mid * (W * M) < W * (W * M) := (Nat.mul_lt_mul_right hWM).2 b1
            have k1 : 1 * (W * W) ≤ S * (W * W) := Nat.mul_le_mul_right _ hS
            have k2 : M * (1 * (W * W)) ≤ M * (S * (W * W)) := Nat.mul_le_mul_left _ k1
            have k3 : M * (1 * (W * W)) = W * (W * M) := by grind
            have k4 : mid * (W * M) = mid * W * M := by grind
            omega
          omega
  · rw [if_neg t0]
    refine (unr_of_between hM ?_ ?_).symm
    · refine dn _ ?_
      have f1 : (W * h + mid) * W * M = q * M * (S * (W * W)) + (t * (W * W)) * M + mid * W * M := by rw [d3]; grind
      rw [f1] at u0
      have f2 : (W * mid2 + lo2) * M + x * M ≤ (t * (W * W)) * M := by
        have f3 : W * mid2 + lo2 + x ≤ t * (W * W) := by
          have f4 : W * (mid2 + 2) ≤ W * W := Nat.mul_le_mul_left W b3
          have f5 : 1 * (W * W) ≤ t * (W * W) := Nat.mul_le_mul_right _ (by omega)
          rw [Nat.mul_add] at f4
          omega
        rw [← Nat.add_mul]
        exact Nat.mul_le_mul_right M f3
      have : 0 ≤ mid * W * M := Nat.zero_le _
      omega
    · refine up _ ?_
      have f1 : (W * h + mid) * W * M = q * M * (S * (W * W)) + (t * (W * W)) * M + mid * W * M := by rw [d3]; grind
      rw [f1] at u1
      have f3 : (q + 1) * M * (S * (W * W)) = q * M * (S * (W * W)) + (S * (W * W)) * M := by grind
      have f4 : (t * (W * W)) * M + mid * W * M < (S * (W * W)) * M := by
        have k0 : mid * W + t * (W * W) < S * (W * W) := by
          have k1 : (t + 1) * (W * W) ≤ S * (W * W) := Nat.mul_le_mul_right _ b4
          have k2 : mid * W < W * W := (Nat.mul_lt_mul_right (by omega)).2 b1
          rw [Nat.add_mul] at k1
          omega
        have := (Nat.mul_lt_mul_right hM).2 k0
        rw [Nat.add_mul] at this
        omega
      omega

/-- What the rounding from two bits more gives: down, up, beyond, below, half to even. -/
theorem unr_floor (A M : Nat) : unr A M / 4 = A / (4 * M) := by
  unfold unr
  rw [Nat.mul_comm 4 M, ← Nat.div_div_eq_div_mul]
  split <;> omega
theorem unr_ceil (A M d : Nat) (hM : 0 < M) : (unr A M + 3) / 4 ≤ d ↔ A ≤ d * (4 * M) := by
  have h0 := Nat.div_add_mod A M
  have h1 := Nat.mod_lt A hM
  unfold unr
  obtain ⟨q, hq⟩ : ∃ q, A / M = q := ⟨_, rfl⟩
  obtain ⟨r, hr⟩ : ∃ r, A % M = r := ⟨_, rfl⟩
  rw [hq, hr] at h0
  rw [hr] at h1
  rw [hq, hr]
  have e : d * (4 * M) = (4 * d) * M := by grind
  rw [e]
  have m1 : ∀ a b : Nat, a ≤ b → a * M ≤ b * M := fun a b h => Nat.mul_le_mul_right _ h
  rw [Nat.mul_comm M q] at h0
  constructor
  · intro h
    rcases Nat.eq_zero_or_pos r with g | g
    · rw [if_pos g] at h
      have := m1 q (4 * d) (by omega)
      omega
    · rw [if_neg (by omega)] at h
      have := m1 (q + 1) (4 * d) (by omega)
      rw [Nat.add_mul] at this
      omega
  · intro h
    rcases Nat.eq_zero_or_pos r with g | g
    · rw [if_pos g]
      rcases Nat.lt_or_ge (4 * d) q with k | k
      · have := m1 (4 * d + 1) q k
        rw [Nat.add_mul] at this
        omega
      · omega
    · rw [if_neg (by omega)]
      rcases Nat.lt_or_ge q (4 * d) with k | k
      · omega
      · have := m1 (4 * d) q k
        omega
theorem unr_floor_le (A M d : Nat) (hM : 0 < M) : d ≤ unr A M / 4 ↔ d * (4 * M) ≤ A := by
  rw [unr_floor A M, Nat.le_div_iff_mul_le (by omega)]
theorem unr_above (A M d : Nat) (hM : 0 < M) : (unr A M + 4) / 4 ≤ d ↔ A < d * (4 * M) := by
  have := unr_floor A M
  have h2 : (unr A M + 4) / 4 = A / (4 * M) + 1 := by omega
  rw [h2]
  exact Nat.div_lt_iff_lt_mul (by omega)
theorem unr_below (A M d : Nat) (hM : 0 < M) (hA : 0 < A) : d ≤ (unr A M - 1) / 4 ↔ d * (4 * M) < A := by
  have hu : 0 < unr A M := by
    unfold unr
    split
    · have := Nat.div_add_mod A M
      rcases Nat.eq_zero_or_pos (A / M) with g | g
      · rw [g] at this; omega
      · exact g
    · omega
  have h := unr_ceil A M (d) hM
  constructor
  · intro g
    rcases Nat.lt_or_ge (d * (4 * M)) A with k | k
    · exact k
    · have := h.2 k
      omega
  · intro g
    rcases Nat.lt_or_ge ((unr A M - 1) / 4) d with k | k
    · have := h.1 (by omega)
      omega
    · exact k
/-- The rounding half to even. -/
theorem unr_round (A M : Nat) (hM : 0 < M) (f : Nat) (hf : A / (4 * M) = f) :
    ((unr A M + 1 + unr A M / 4 % 2) / 4 = f + 1 ∧ ((f + (f + 1)) * (4 * M) < 2 * A ∨ ((f + (f + 1)) * (4 * M) = 2 * A ∧ f % 2 = 1))) ∨
    ((unr A M + 1 + unr A M / 4 % 2) / 4 = f ∧ (2 * A < (f + (f + 1)) * (4 * M) ∨ (2 * A = (f + (f + 1)) * (4 * M) ∧ f % 2 = 0))) := by
  have hfl := unr_floor A M
  rw [hf] at hfl
  rw [hfl]
  have h0 := Nat.div_add_mod A M
  have h1 := Nat.mod_lt A hM
  unfold unr at *
  obtain ⟨q, hq⟩ : ∃ q, A / M = q := ⟨_, rfl⟩
  obtain ⟨r, hr⟩ : ∃ r, A % M = r := ⟨_, rfl⟩
  rw [hq, hr] at h0 hfl
  rw [hr] at h1
  rw [hq, hr]
  rw [Nat.mul_comm M q] at h0
  have e : (f + (f + 1)) * (4 * M) = 2 * ((4 * f + 2) * M) := by grind
  rw [e]
  have m1 : ∀ a b : Nat, a ≤ b → a * M ≤ b * M := fun a b h => Nat.mul_le_mul_right _ h
  have hq4 : q / 4 = f := by
    split at hfl <;> omega
  have cases4 : q = 4 * f ∨ q = 4 * f + 1 ∨ q = 4 * f + 2 ∨ q = 4 * f + 3 := by omega
  rcases cases4 with g | g | g | g <;> subst g <;> simp only [Nat.add_mul] at * <;> split <;> omega
end Go.Proofs.YtmhbkilidpbenaaGreatDoor
