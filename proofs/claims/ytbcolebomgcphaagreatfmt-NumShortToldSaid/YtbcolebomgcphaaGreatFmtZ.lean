/- The plain law of the shortest decimal number in an interval: it is the only one, and two ways of finding it. Each lemma's conditions stand in its own statement. The plain law of the scaling by a 128-bit power of ten, and of the rounding from two bits more. Each lemma's conditions stand in its own statement. The plain law of the gap: how near a multiple of a fraction can come to a whole number; the check of all exponents. Each lemma's conditions stand in its own statement. The check of all powers and exponents, by Lean's kernel. The plain law of the program's search for the shortest decimal number. Each lemma's conditions stand in its own statement. -/
import GoSem.PinnedTables
namespace Go.Proofs.YtbcolebomgcphaaGreatFmt

/-- z lies between L and H; c: the ends too. -/
def InI (c : Bool) (L H z : Nat) : Prop := (c = true → L ≤ z ∧ z ≤ H) ∧ (c = false → L < z ∧ z < H)
/-- What a unit of the n-th place is worth. -/
def U10 (B n : Nat) : Nat := 10 ^ n * B
/-- D is nearer to X than D' (in the unit U), or even and as near. -/
def Near (X U D D' : Nat) : Prop :=
  (D < D' → 2 * X < (D + D') * U ∨ (2 * X = (D + D') * U ∧ D % 2 = 0)) ∧ (D' < D → (D + D') * U < 2 * X ∨ ((D + D') * U = 2 * X ∧ D % 2 = 0))
/-- D at the n-th place: in the interval; none stands at a higher place; of those at this place it is the nearest. -/
def Sh (c : Bool) (L X H B D n : Nat) : Prop :=
  InI c L H (D * U10 B n) ∧ (∀ n' D', n < n' → ¬ InI c L H (D' * U10 B n')) ∧ ∀ D', InI c L H (D' * U10 B n) → Near X (U10 B n) D D'
theorem U10_pos {B : Nat} (h : 0 < B) (n : Nat) : 0 < U10 B n := Nat.mul_pos (Nat.pow_pos (by decide)) h
theorem U10_succ (B n : Nat) : U10 B (n + 1) = 10 * U10 B n := by unfold U10; rw [Nat.pow_succ]; grind
theorem U10_add (B n k : Nat) : U10 B (n + k) = 10 ^ k * U10 B n := by unfold U10; rw [Nat.pow_add]; grind
theorem InI.le {c : Bool} {L H z : Nat} (h : InI c L H z) : L ≤ z ∧ z ≤ H := by
  obtain ⟨a, b⟩ := h
  cases c
  · have := b rfl; omega
  · exact a rfl
/-- The nearest of the two neighbours is the nearest of all. -/
theorem near_all {X U f : Nat} (h0 : f * U ≤ X) (h1 : X < (f + 1) * U) (D : Nat)
    (hD : (D = f + 1 ∧ ((f + (f + 1)) * U < 2 * X ∨ ((f + (f + 1)) * U = 2 * X ∧ f % 2 = 1))) ∨ (D = f ∧ (2 * X < (f + (f + 1)) * U ∨ (2 * X = (f + (f + 1)) * U ∧ f % 2 = 0)))) (D' : Nat) : Near X U D D' := by
  have m1 : ∀ a b : Nat, a ≤ b → a * U ≤ b * U := fun a b h => Nat.mul_le_mul_right U h
  have hU : 0 < U := by
    rcases Nat.eq_zero_or_pos U with g | g
    · subst g; omega
    · exact g
  simp only [Nat.add_mul] at *
  unfold Near
  simp only [Nat.add_mul]
  rcases hD with ⟨rfl, hD⟩ | ⟨rfl, hD⟩
  · constructor
    · intro hlt
      have := m1 (f + 2) D' (by omega)
      simp only [Nat.add_mul] at this ⊢
      left; omega
    · intro hlt
      have := m1 D' f (by omega)
      simp only [Nat.add_mul] at this ⊢
      omega
  · constructor
    · intro hlt
      have := m1 (D + 1) D' (by omega)
      simp only [Nat.add_mul] at this ⊢
      omega
    · intro hlt
      have := m1 (D' + 1) D (by omega)
      simp only [Nat.add_mul] at this ⊢
      left; omega

/-- A number's zeros at the end. -/
theorem strip_exists (D : Nat) (h : 0 < D) : ∃ c i, D = c * 10 ^ i ∧ c % 10 ≠ 0 := by
  induction D using Nat.strongRecOn with
  | _ D ih =>
    by_cases hd : D % 10 = 0
    · obtain ⟨c, i, e, hc⟩ := ih (D / 10) (by omega) (by omega)
      exact ⟨c, i + 1, by rw [Nat.pow_succ, ← Nat.mul_assoc, ← e]; omega, hc⟩
    · exact ⟨D, 0, by simp, hd⟩
/-- What the program finds: at the place n the numbers from dmin to dmax are those in the interval. -/
theorem prog_sh {c : Bool} {L X H B n dmin dmax rnd D cc i : Nat}
    (hin : ∀ d, InI c L H (d * U10 B n) ↔ dmin ≤ d ∧ d ≤ dmax) (hne : dmin ≤ dmax) (hwid : dmax < dmin + 10)
    (hrnd : dmin < dmax → dmin ≤ rnd ∧ rnd ≤ dmax) (hnear : ∀ D', Near X (U10 B n) rnd D')
    (hD : D = cc * 10 ^ i) (hcc : cc % 10 ≠ 0) :
    (dmin ≤ dmax / 10 * 10 → D = dmax / 10 → Sh c L X H B cc (n + 1 + i)) ∧
    (dmax / 10 * 10 < dmin → D = (if dmin < dmax then rnd else dmin) → i = 0 ∧ Sh c L X H B D n) := by
  constructor
  · intro h1 h2
    have up : ∀ n' D', n + 1 ≤ n' → InI c L H (D' * U10 B n') → D' * 10 ^ (n' - (n + 1)) = D := by
      intro n' D' hn h
      obtain ⟨k, hk⟩ := Nat.exists_eq_add_of_le hn
      subst hk
      rw [show n + 1 + k - (n + 1) = k by omega]
      rw [show n + 1 + k = n + (1 + k) by omega, U10_add, ← Nat.mul_assoc, Nat.pow_add, Nat.pow_one] at h
      have := (hin _).1 h
      have e : D' * (10 * 10 ^ k) = 10 * (D' * 10 ^ k) := by grind
      rw [e] at this
      omega
    refine ⟨?_, ?_, ?_⟩
    · rw [show n + 1 + i = n + (1 + i) by omega, U10_add, ← Nat.mul_assoc, Nat.pow_add, Nat.pow_one]
      refine (hin _).2 ?_
      have e : cc * (10 * 10 ^ i) = 10 * (cc * 10 ^ i) := by grind
      rw [e, ← hD, h2]
      omega
    · intro n' D' hn h
      have e := up n' D' (by omega) h
      obtain ⟨k, hk⟩ : ∃ k, n' - (n + 1) = i + 1 + k := ⟨n' - (n + 1) - (i + 1), by omega⟩
      rw [hk, hD, Nat.pow_add, Nat.pow_succ] at e
      have e2 : D' * (10 ^ i * 10 * 10 ^ k) = (D' * 10 ^ k * 10) * 10 ^ i := by grind
      rw [e2] at e
      have e3 := Nat.eq_of_mul_eq_mul_right (Nat.pow_pos (by decide)) e
      omega
    · intro D' h
      have e := up _ D' (by omega) h
      rw [show n + 1 + i - (n + 1) = i by omega, hD] at e
      have e3 := Nat.eq_of_mul_eq_mul_right (Nat.pow_pos (by decide)) e
      subst e3
      exact ⟨fun g => by omega, fun g => by omega⟩
  · intro h1 h2
    have hDin : dmin ≤ D ∧ D ≤ dmax := by
      rw [h2]
      split
      · exact hrnd (by assumption)
      · omega
    have hi : i = 0 := by
      rcases Nat.eq_zero_or_pos i with g | g
      · exact g
      · exfalso
        obtain ⟨j, rfl⟩ : ∃ j, i = j + 1 := ⟨i - 1, by omega⟩
        rw [Nat.pow_succ, ← Nat.mul_assoc] at hD
        omega
    refine ⟨hi, (hin D).2 hDin, ?_, ?_⟩
    · intro n' D' hn h
      obtain ⟨k, hk⟩ := Nat.exists_eq_add_of_le (show n + 1 ≤ n' by omega)
      subst hk
      rw [show n + 1 + k = n + (1 + k) by omega, U10_add, ← Nat.mul_assoc, Nat.pow_add, Nat.pow_one] at h
      have := (hin _).1 h
      have e : D' * (10 * 10 ^ k) = 10 * (D' * 10 ^ k) := by grind
      rw [e] at this
      omega
    · intro D' h
      have h3 := (hin D').1 h
      rw [h2]
      split
      · exact hnear D'
      · exact ⟨fun g => by omega, fun g => by omega⟩
end Go.Proofs.YtbcolebomgcphaaGreatFmt

namespace Go.Proofs.YtbcolebomgcphaaGreatFmt

/-- The quotient A by M with its last bit set if something is left. -/
def unr (A M : Nat) : Nat := if A % M = 0 then A / M else A / M / 2 * 2 + 1
/-- The program's scaling of x by the power hi * 2^64 - lo and the shift s. -/
def usc (x hi lo s : Nat) : Nat :=
  if x * hi / 18446744073709551616 % 2 ^ s = 0 then
    (if x * hi % 18446744073709551616 < x * lo / 18446744073709551616 then (x * hi / 18446744073709551616 - 1) / 2 ^ s / 2 * 2 + 1
     else if x * hi % 18446744073709551616 - x * lo / 18446744073709551616 ≤ 1 then x * hi / 18446744073709551616 / 2 ^ s
     else x * hi / 18446744073709551616 / 2 ^ s / 2 * 2 + 1)
  else x * hi / 18446744073709551616 / 2 ^ s / 2 * 2 + 1

theorem div_between {A M q : Nat} (h0 : q * M ≤ A) (h1 : A < (q + 1) * M) : A / M = q :=
  Nat.div_eq_of_lt_le h0 h1
theorem unr_of_between {A M q : Nat} (_ : 0 < M) (h0 : q * M < A) (h1 : A < (q + 1) * M) : unr A M = q / 2 * 2 + 1 := by
  have e := div_between (Nat.le_of_lt h0) h1
  unfold unr
  have hr : A % M ≠ 0 := by
    intro h
    have := Nat.div_add_mod A M
    rw [e, h, Nat.mul_comm] at this
    omega
  rw [if_neg hr, e]
theorem unr_exact {M q : Nat} (hM : 0 < M) : unr (q * M) M = q := by
  unfold unr
  rw [if_pos (Nat.mul_mod_left q M), Nat.mul_div_cancel _ hM]

/-- The scaling is exact: N by M is the factor; T2 is 2^(128+s). The power lies below hi * 2^64 - lo by less than 1. A gap parts what is no whole number from the whole numbers. -/
theorem usc_exact {x hi lo s N M : Nat} (hx0 : 0 < x) (hx : x < 18446744073709551616) (hlo : lo < 18446744073709551616) (hM : 0 < M)
    (hpm1 : N * (2 ^ s * (18446744073709551616 * 18446744073709551616)) + lo * M ≤ hi * 18446744073709551616 * M)
    (hpm0 : hi * 18446744073709551616 * M < N * (2 ^ s * (18446744073709551616 * 18446744073709551616)) + lo * M + M)
    (hgap : x * N % M = 0 ∨ (2 * M ≤ 2 ^ s * 18446744073709551616 * (x * N % M) ∧ 2 * M ≤ 2 ^ s * 18446744073709551616 * (M - x * N % M))) :
    usc x hi lo s = unr (x * N) M := by
  have hS : 0 < 2 ^ s := Nat.two_pow_pos s
  obtain ⟨S, hSe⟩ : ∃ S, 2 ^ s = S := ⟨_, rfl⟩
  unfold usc
  rw [hSe] at hS hpm1 hpm0 hgap ⊢
  obtain ⟨W, hW⟩ : ∃ W, 18446744073709551616 = W := ⟨_, rfl⟩
  have hWpos : 4 ≤ W := by omega
  rw [hW] at hx hlo hpm1 hpm0 hgap ⊢
  clear hW hSe
  obtain ⟨h, hh⟩ : ∃ h, x * hi / W = h := ⟨_, rfl⟩
  obtain ⟨mid, hmid⟩ : ∃ mid, x * hi % W = mid := ⟨_, rfl⟩
  obtain ⟨mid2, hmid2⟩ : ∃ mid2, x * lo / W = mid2 := ⟨_, rfl⟩
  obtain ⟨lo2, hlo2⟩ : ∃ lo2, x * lo % W = lo2 := ⟨_, rfl⟩
  have d1 : x * hi = W * h + mid := by rw [← hh, ← hmid]; exact (Nat.div_add_mod _ _).symm
  have d2 : x * lo = W * mid2 + lo2 := by rw [← hmid2, ← hlo2]; exact (Nat.div_add_mod _ _).symm
  have b1 : mid < W := by rw [← hmid]; exact Nat.mod_lt _ (by omega)
  have b2 : lo2 < W := by rw [← hlo2]; exact Nat.mod_lt _ (by omega)
  have b3 : mid2 + 2 ≤ W := by
    have e1 : x * lo ≤ (W - 1) * (W - 1) := Nat.mul_le_mul (by omega) (by omega)
    obtain ⟨V, rfl⟩ : ∃ V, W = V + 1 := ⟨W - 1, by omega⟩
    rw [show V + 1 - 1 = V by omega] at e1
    have e2 : (V + 1) * mid2 ≤ V * V := by omega
    rcases Nat.lt_or_ge mid2 V with g | g
    · omega
    · exfalso
      have : (V + 1) * V ≤ (V + 1) * mid2 := Nat.mul_le_mul_left _ g
      rw [Nat.add_mul, Nat.one_mul] at this
      omega
  rw [hh, hmid, hmid2]
  clear hh hmid hmid2 hlo2
  -- the value y: x * N * (S W W) between bounds
  have hxle : x * M < W * M := (Nat.mul_lt_mul_right hM).2 hx
  have u1 : x * N * (S * (W * W)) + (W * mid2 + lo2) * M ≤ (W * h + mid) * W * M := by
    have := Nat.mul_le_mul_left x hpm1
    rw [← d1, ← d2]
    calc x * N * (S * (W * W)) + x * lo * M = x * (N * (S * (W * W)) + lo * M) := by grind
      _ ≤ x * (hi * W * M) := this
      _ = x * hi * W * M := by grind
  have u0 : (W * h + mid) * W * M < x * N * (S * (W * W)) + (W * mid2 + lo2) * M + x * M := by
    have := (Nat.mul_lt_mul_left hx0).2 hpm0
    rw [← d1, ← d2]
    calc x * hi * W * M = x * (hi * W * M) := by grind
      _ < x * (N * (S * (W * W)) + lo * M + M) := this
      _ = x * N * (S * (W * W)) + x * lo * M + x * M := by grind
  obtain ⟨A, hA⟩ : ∃ A, x * N = A := ⟨_, rfl⟩
  rw [hA] at u0 u1 hgap ⊢
  -- h = S * q + t
  obtain ⟨q, hq⟩ : ∃ q, h / S = q := ⟨_, rfl⟩
  obtain ⟨t, ht⟩ : ∃ t, h % S = t := ⟨_, rfl⟩
  have d3 : h = S * q + t := by rw [← hq, ← ht]; exact (Nat.div_add_mod _ _).symm
  have b4 : t < S := by rw [← ht]; exact Nat.mod_lt _ hS
  rw [hq, ht]
  have hWW : 0 < W * W := Nat.mul_pos (by omega) (by omega)
  have hSWW : 0 < S * (W * W) := Nat.mul_pos hS hWW
  -- to be shown of the products with S W W
  have up : ∀ z, A * (S * (W * W)) < z * M * (S * (W * W)) → A < z * M := fun z g => Nat.lt_of_mul_lt_mul_right g
  have dn : ∀ z, z * M * (S * (W * W)) < A * (S * (W * W)) → z * M < A := fun z g => Nat.lt_of_mul_lt_mul_right g
  obtain ⟨Y, hY⟩ : ∃ Y, A * (S * (W * W)) = Y := ⟨_, rfl⟩
  rw [hY] at u0 u1 up dn
  have hWM : 0 < W * M := Nat.mul_pos (by omega) hM
  -- everything in units of M: Y + (W mid2 + lo2) M <= (W h + mid) W M
  by_cases t0 : t = 0
  · subst t0
    rw [if_pos rfl]
    rw [Nat.add_zero] at d3
    by_cases hb : mid < mid2
    · rw [if_pos hb]
      -- h ≥ 1
      have hh1 : 1 ≤ h := by
        rcases Nat.eq_zero_or_pos h with g | g
        · exfalso
          subst g
          have e1 : (W * 0 + mid) * W * M = (mid * W) * M := by grind
          rw [e1] at u1
          have e2 : (W * mid2 + lo2) * M ≤ (mid * W) * M := by omega
          have e3 := Nat.le_of_mul_le_mul_right e2 hM
          have e4 : (mid + 1) * W ≤ mid2 * W := Nat.mul_le_mul_right W hb
          rw [Nat.add_mul, Nat.mul_comm mid2] at e4
          omega
        · exact g
      have hq1 : 1 ≤ q := by
        rcases Nat.eq_zero_or_pos q with g | g
        · subst g; omega
        · exact g
      have e5 : (h - 1) / S = q - 1 := by
        refine div_between ?_ ?_
        · obtain ⟨q', rfl⟩ : ∃ q', q = q' + 1 := ⟨q - 1, by omega⟩
          rw [show q' + 1 - 1 = q' by omega, d3, Nat.mul_add, Nat.mul_comm q' S]
          omega
        · rw [show q - 1 + 1 = q by omega, d3, Nat.mul_comm q S]
          omega
      rw [e5]
      refine (unr_of_between hM ?_ ?_).symm
      · -- (q-1) M < A
        refine dn _ ?_
        obtain ⟨q', rfl⟩ : ∃ q', q = q' + 1 := ⟨q - 1, by omega⟩
        rw [show q' + 1 - 1 = q' by omega]
        have f1 : (W * h + mid) * W * M = q' * M * (S * (W * W)) + (S * (W * W) + mid * W) * M := by rw [d3]; grind
        rw [f1] at u0
        have f2 : (W * mid2 + lo2) * M + x * M ≤ (S * (W * W)) * M := by
          have f3 : W * mid2 + lo2 + x ≤ S * (W * W) := by
            have f4 : W * (mid2 + 2) ≤ W * W := Nat.mul_le_mul_left W b3
            have f5 : 1 * (W * W) ≤ S * (W * W) := Nat.mul_le_mul_right _ hS
            rw [Nat.mul_add] at f4
            omega
          rw [← Nat.add_mul]
          exact Nat.mul_le_mul_right M f3
        have f6 : (S * (W * W) + mid * W) * M = S * (W * W) * M + mid * W * M := Nat.add_mul _ _ _
        have : 0 ≤ mid * W * M := Nat.zero_le _
        omega
      · rw [show q - 1 + 1 = q by omega]
        refine up _ ?_
        have f1 : (W * h + mid) * W * M = q * M * (S * (W * W)) + mid * W * M := by rw [d3]; grind
        rw [f1] at u1
        have f2 : mid * W * M + W * M ≤ W * mid2 * M := by
          have : (mid + 1) * (W * M) ≤ mid2 * (W * M) := Nat.mul_le_mul_right _ hb
          rw [Nat.add_mul] at this
          have g1 : mid * (W * M) = mid * W * M := by grind
          have g2 : mid2 * (W * M) = W * mid2 * M := by grind
          omega
        rw [Nat.add_mul (W * mid2) lo2 M] at u1
        omega
    · rw [if_neg hb]
      by_cases hc : mid - mid2 ≤ 1
      · rw [if_pos hc]
        -- the value is within 2 W of q: by the gap it is q
        have hmm : mid = mid2 ∨ mid = mid2 + 1 := by omega
        have f1 : (W * h + mid) * W * M = q * M * (S * (W * W)) + mid * W * M := by rw [d3]; grind
        rw [f1] at u0 u1
        rw [Nat.add_mul (W * mid2) lo2 M] at u0 u1
        have g2 : mid2 * W * M = W * mid2 * M := by grind
        have hl2 : lo2 * M < W * M := (Nat.mul_lt_mul_right hM).2 b2
        have g3 : mid * W * M = W * mid2 * M ∨ mid * W * M = W * mid2 * M + W * M := by
          rcases hmm with e | e <;> rw [e]
          · left; exact g2
          · right; rw [Nat.add_mul, Nat.add_mul, Nat.one_mul, g2]
        have near1 : Y ≤ q * M * (S * (W * W)) + W * M := by omega
        have near0 : q * M * (S * (W * W)) < Y + 2 * (W * M) := by omega
        rcases hgap with hg | ⟨hg1, hg2⟩
        · -- A is a multiple of M
          have hA2 : A / M * M = A := by
            have := Nat.div_add_mod A M
            rw [hg, Nat.mul_comm] at this
            omega
          obtain ⟨a, ha⟩ : ∃ a, A / M = a := ⟨_, rfl⟩
          rw [ha] at hA2
          have hYa : Y = a * M * (S * (W * W)) := by rw [← hY, hA2]
          have big2 : 2 * (W * M) < M * (S * (W * W)) := by
            have k1 : 1 * (W * W) ≤ S * (W * W) := Nat.mul_le_mul_right _ hS
            have k2 : M * (1 * (W * W)) ≤ M * (S * (W * W)) := Nat.mul_le_mul_left _ k1
            have k3 : M * (1 * (W * W)) = W * (W * M) := by grind
            have k4 : 4 * (W * M) ≤ W * (W * M) := Nat.mul_le_mul_right _ hWpos
            omega
          have haq : a = q := by
            rcases Nat.lt_trichotomy a q with g | g | g
            · exfalso
              have : (a + 1) * (M * (S * (W * W))) ≤ q * (M * (S * (W * W))) := Nat.mul_le_mul_right _ g
              rw [Nat.add_mul, Nat.one_mul, ← Nat.mul_assoc a, ← Nat.mul_assoc q] at this
              omega
            · exact g
            · exfalso
              have : (q + 1) * (M * (S * (W * W))) ≤ a * (M * (S * (W * W))) := Nat.mul_le_mul_right _ g
              rw [Nat.add_mul, Nat.one_mul, ← Nat.mul_assoc q, ← Nat.mul_assoc a] at this
              omega
          rw [← hA2, haq, unr_exact hM]
        · exfalso
          -- A = M a + r with r far from 0 and M
          obtain ⟨a, ha⟩ : ∃ a, A / M = a := ⟨_, rfl⟩
          obtain ⟨r, hr⟩ : ∃ r, A % M = r := ⟨_, rfl⟩
          have dA : A = M * a + r := by rw [← ha, ← hr]; exact (Nat.div_add_mod _ _).symm
          have bR : r < M := by rw [← hr]; exact Nat.mod_lt _ hM
          rw [hr] at hg1 hg2
          have k1 : 2 * (W * M) ≤ r * (S * (W * W)) := by
            have := Nat.mul_le_mul_left W hg1
            have g1 : W * (2 * M) = 2 * (W * M) := by grind
            have g2 : W * (S * W * r) = r * (S * (W * W)) := by grind
            omega
          have k2 : 2 * (W * M) + r * (S * (W * W)) ≤ M * (S * (W * W)) := by
            have := Nat.mul_le_mul_left W hg2
            have g1 : W * (2 * M) = 2 * (W * M) := by grind
            have g2 : W * (S * W * (M - r)) = (M - r) * (S * (W * W)) := by grind
            have g3 : (M - r) * (S * (W * W)) + r * (S * (W * W)) = M * (S * (W * W)) := by
              rw [← Nat.add_mul, show M - r + r = M by omega]
            omega
          have hYa : Y = a * M * (S * (W * W)) + r * (S * (W * W)) := by rw [← hY, dA]; grind
          rcases Nat.lt_or_ge a q with g | g
          · have : (a + 1) * (M * (S * (W * W))) ≤ q * (M * (S * (W * W))) := Nat.mul_le_mul_right _ g
            rw [Nat.add_mul, Nat.one_mul, ← Nat.mul_assoc a, ← Nat.mul_assoc q] at this
            omega
          · have : q * (M * (S * (W * W))) ≤ a * (M * (S * (W * W))) := Nat.mul_le_mul_right _ g
            rw [← Nat.mul_assoc a, ← Nat.mul_assoc q] at this
            omega
      · rw [if_neg hc]
        refine (unr_of_between hM ?_ ?_).symm
        · refine dn _ ?_
          have f1 : (W * h + mid) * W * M = q * M * (S * (W * W)) + mid * W * M := by rw [d3]; grind
          rw [f1] at u0
          have f2 : W * mid2 * M + W * M + W * M ≤ mid * W * M := by
            have : (mid2 + 2) * (W * M) ≤ mid * (W * M) := Nat.mul_le_mul_right _ (by omega)
            rw [Nat.add_mul] at this
            have g1 : mid * (W * M) = mid * W * M := by grind
            have g2 : mid2 * (W * M) = W * mid2 * M := by grind
            omega
          rw [Nat.add_mul (W * mid2) lo2 M] at u0
          have hl2 : lo2 * M < W * M := (Nat.mul_lt_mul_right hM).2 b2
          omega
        · refine up _ ?_
          have f1 : (W * h + mid) * W * M = q * M * (S * (W * W)) + mid * W * M := by rw [d3]; grind
          rw [f1] at u1
          have f3 : (q + 1) * M * (S * (W * W)) = q * M * (S * (W * W)) + M * (S * (W * W)) := by grind
          have f4 : mid * W * M < M * (S * (W * W)) := by
            have k0 : mid * (W * M) < W * (W * M) := (Nat.mul_lt_mul_right hWM).2 b1
            have k1 : 1 * (W * W) ≤ S * (W * W) := Nat.mul_le_mul_right _ hS
            have k2 : M * (1 * (W * W)) ≤ M * (S * (W * W)) := Nat.mul_le_mul_left _ k1
            have k3 : M * (1 * (W * W)) = W * (W * M) := by grind
            have k4 : mid * (W * M) = mid * W * M := by grind
            omega
          omega
  · rw [if_neg t0]
    refine (unr_of_between hM ?_ ?_).symm
    · refine dn _ ?_
      have f1 : (W * h + mid) * W * M = q * M * (S * (W * W)) + (t * (W * W)) * M + mid * W * M := by rw [d3]; grind
      rw [f1] at u0
      have f2 : (W * mid2 + lo2) * M + x * M ≤ (t * (W * W)) * M := by
        have f3 : W * mid2 + lo2 + x ≤ t * (W * W) := by
          have f4 : W * (mid2 + 2) ≤ W * W := Nat.mul_le_mul_left W b3
          have f5 : 1 * (W * W) ≤ t * (W * W) := Nat.mul_le_mul_right _ (by omega)
          rw [Nat.mul_add] at f4
          omega
        rw [← Nat.add_mul]
        exact Nat.mul_le_mul_right M f3
      have : 0 ≤ mid * W * M := Nat.zero_le _
      omega
    · refine up _ ?_
      have f1 : (W * h + mid) * W * M = q * M * (S * (W * W)) + (t * (W * W)) * M + mid * W * M := by rw [d3]; grind
      rw [f1] at u1
      have f3 : (q + 1) * M * (S * (W * W)) = q * M * (S * (W * W)) + (S * (W * W)) * M := by grind
      have f4 : (t * (W * W)) * M + mid * W * M < (S * (W * W)) * M := by
        have k0 : mid * W + t * (W * W) < S * (W * W) := by
          have k1 : (t + 1) * (W * W) ≤ S * (W * W) := Nat.mul_le_mul_right _ b4
          have k2 : mid * W < W * W := (Nat.mul_lt_mul_right (by omega)).2 b1
          rw [Nat.add_mul] at k1
          omega
        have := (Nat.mul_lt_mul_right hM).2 k0
        rw [Nat.add_mul] at this
        omega
      omega

/-- What the rounding from two bits more gives: down, up, beyond, below, half to even. -/
theorem unr_floor (A M : Nat) : unr A M / 4 = A / (4 * M) := by
  unfold unr
  rw [Nat.mul_comm 4 M, ← Nat.div_div_eq_div_mul]
  split <;> omega
theorem unr_ceil (A M d : Nat) (hM : 0 < M) : (unr A M + 3) / 4 ≤ d ↔ A ≤ d * (4 * M) := by
  have h0 := Nat.div_add_mod A M
  have h1 := Nat.mod_lt A hM
  unfold unr
  obtain ⟨q, hq⟩ : ∃ q, A / M = q := ⟨_, rfl⟩
  obtain ⟨r, hr⟩ : ∃ r, A % M = r := ⟨_, rfl⟩
  rw [hq, hr] at h0
  rw [hr] at h1
  rw [hq, hr]
  have e : d * (4 * M) = (4 * d) * M := by grind
  rw [e]
  have m1 : ∀ a b : Nat, a ≤ b → a * M ≤ b * M := fun a b h => Nat.mul_le_mul_right _ h
  rw [Nat.mul_comm M q] at h0
  constructor
  · intro h
    rcases Nat.eq_zero_or_pos r with g | g
    · rw [if_pos g] at h
      have := m1 q (4 * d) (by omega)
      omega
    · rw [if_neg (by omega)] at h
      have := m1 (q + 1) (4 * d) (by omega)
      rw [Nat.add_mul] at this
      omega
  · intro h
    rcases Nat.eq_zero_or_pos r with g | g
    · rw [if_pos g]
      rcases Nat.lt_or_ge (4 * d) q with k | k
      · have := m1 (4 * d + 1) q k
        rw [Nat.add_mul] at this
        omega
      · omega
    · rw [if_neg (by omega)]
      rcases Nat.lt_or_ge q (4 * d) with k | k
      · omega
      · have := m1 (4 * d) q k
        omega
theorem unr_floor_le (A M d : Nat) (hM : 0 < M) : d ≤ unr A M / 4 ↔ d * (4 * M) ≤ A := by
  rw [unr_floor A M, Nat.le_div_iff_mul_le (by omega)]
theorem unr_above (A M d : Nat) (hM : 0 < M) : (unr A M + 4) / 4 ≤ d ↔ A < d * (4 * M) := by
  have := unr_floor A M
  have h2 : (unr A M + 4) / 4 = A / (4 * M) + 1 := by omega
  rw [h2]
  exact Nat.div_lt_iff_lt_mul (by omega)
theorem unr_below (A M d : Nat) (hM : 0 < M) (hA : 0 < A) : d ≤ (unr A M - 1) / 4 ↔ d * (4 * M) < A := by
  have hu : 0 < unr A M := by
    unfold unr
    split
    · have := Nat.div_add_mod A M
      rcases Nat.eq_zero_or_pos (A / M) with g | g
      · rw [g] at this; omega
      · exact g
    · omega
  have h := unr_ceil A M (d) hM
  constructor
  · intro g
    rcases Nat.lt_or_ge (d * (4 * M)) A with k | k
    · exact k
    · have := h.2 k
      omega
  · intro g
    rcases Nat.lt_or_ge ((unr A M - 1) / 4) d with k | k
    · have := h.1 (by omega)
      omega
    · exact k
/-- The rounding half to even. -/
theorem unr_round (A M : Nat) (hM : 0 < M) (f : Nat) (hf : A / (4 * M) = f) :
    ((unr A M + 1 + unr A M / 4 % 2) / 4 = f + 1 ∧ ((f + (f + 1)) * (4 * M) < 2 * A ∨ ((f + (f + 1)) * (4 * M) = 2 * A ∧ f % 2 = 1))) ∨
    ((unr A M + 1 + unr A M / 4 % 2) / 4 = f ∧ (2 * A < (f + (f + 1)) * (4 * M) ∨ (2 * A = (f + (f + 1)) * (4 * M) ∧ f % 2 = 0))) := by
  have hfl := unr_floor A M
  rw [hf] at hfl
  rw [hfl]
  have h0 := Nat.div_add_mod A M
  have h1 := Nat.mod_lt A hM
  unfold unr at *
  obtain ⟨q, hq⟩ : ∃ q, A / M = q := ⟨_, rfl⟩
  obtain ⟨r, hr⟩ : ∃ r, A % M = r := ⟨_, rfl⟩
  rw [hq, hr] at h0 hfl
  rw [hr] at h1
  rw [hq, hr]
  rw [Nat.mul_comm M q] at h0
  have e : (f + (f + 1)) * (4 * M) = 2 * ((4 * f + 2) * M) := by grind
  rw [e]
  have m1 : ∀ a b : Nat, a ≤ b → a * M ≤ b * M := fun a b h => Nat.mul_le_mul_right _ h
  have hq4 : q / 4 = f := by
    split at hfl <;> omega
  have cases4 : q = 4 * f ∨ q = 4 * f + 1 ∨ q = 4 * f + 2 ∨ q = 4 * f + 3 := by omega
  rcases cases4 with g | g | g | g <;> subst g <;> simp only [Nat.add_mul] at * <;> split <;> omega
end Go.Proofs.YtbcolebomgcphaaGreatFmt

namespace Go.Proofs.YtbcolebomgcphaaGreatFmt

/-- A by M is a whole number, or by 2/t away from each. -/
def Gap (A M t : Nat) : Prop := A % M = 0 ∨ (2 * M ≤ t * (A % M) ∧ 2 * M ≤ t * (M - A % M))
theorem Gap.mono {A M t t' : Nat} (h : Gap A M t) (ht : t ≤ t') : Gap A M t' := by
  rcases h with h | ⟨h1, h2⟩
  · exact .inl h
  · exact .inr ⟨Nat.le_trans h1 (Nat.mul_le_mul_right _ ht), Nat.le_trans h2 (Nat.mul_le_mul_right _ ht)⟩
theorem Gap.scale {A M t k : Nat} (_ : 0 < k) (h : Gap A M t) : Gap (A * k) (M * k) t := by
  unfold Gap at *
  rw [Nat.mul_mod_mul_right]
  rcases h with h | ⟨h1, h2⟩
  · left; rw [h, Nat.zero_mul]
  · right
    rw [← Nat.sub_mul, ← Nat.mul_assoc, ← Nat.mul_assoc, ← Nat.mul_assoc]
    exact ⟨Nat.mul_le_mul_right _ h1, Nat.mul_le_mul_right _ h2⟩
theorem Gap.unscale {A M t k : Nat} (hk : 0 < k) (h : Gap (A * k) (M * k) t) : Gap A M t := by
  unfold Gap at *
  rw [Nat.mul_mod_mul_right, ← Nat.sub_mul, ← Nat.mul_assoc, ← Nat.mul_assoc, ← Nat.mul_assoc] at h
  rcases h with h | ⟨h1, h2⟩
  · left
    rcases Nat.mul_eq_zero.1 h with h | h
    · exact h
    · omega
  · exact .inr ⟨Nat.le_of_mul_le_mul_right h1 hk, Nat.le_of_mul_le_mul_right h2 hk⟩
/-- Only the ratio counts. -/
theorem Gap.ratio {A M A' M' t : Nat} (hM : 0 < M) (hM' : 0 < M') (e : A * M' = A' * M) (h : Gap A M t) : Gap A' M' t := by
  have h1 := h.scale hM'
  rw [e, Nat.mul_comm M M'] at h1
  exact h1.unscale hM
theorem unr_scale {A M k : Nat} (hk : 0 < k) : unr (A * k) (M * k) = unr A M := by
  unfold unr
  rw [Nat.mul_mod_mul_right, Nat.mul_div_mul_right _ _ hk]
  by_cases h : A % M = 0
  · rw [if_pos h, if_pos (by rw [h, Nat.zero_mul])]
  · rw [if_neg h, if_neg (fun g => by
      rcases Nat.mul_eq_zero.1 g with g | g
      · exact h g
      · omega)]
theorem unr_ratio {A M A' M' : Nat} (hM : 0 < M) (hM' : 0 < M') (e : A * M' = A' * M) : unr A M = unr A' M' := by
  rw [← unr_scale (A := A) (M := M) hM', e, Nat.mul_comm M M', unr_scale hM]

theorem lin_gap {α β r1 r2 : Int} {b t : Int} (h1 : 0 ≤ r1) (h2 : 0 ≤ r2) (ht : 0 ≤ t) (g1 : r1 = 0 ∨ 2 * b ≤ t * r1) (g2 : r2 = 0 ∨ 2 * b ≤ t * r2)
    (hx : (α ≤ 0 ∨ β ≤ 0) ∨ r1 = 0 ∨ r2 = 0) (hneg : 0 ≤ α ∨ 0 ≤ β) : α * r1 - β * r2 = 0 ∨ 2 * b ≤ t * (α * r1 - β * r2) ∨ 2 * b ≤ t * (β * r2 - α * r1) := by
  have key : ∀ a r : Int, 0 ≤ a → 0 ≤ r → (r = 0 ∨ 2 * b ≤ t * r) → a * r = 0 ∨ 2 * b ≤ t * (a * r) := by
    intro a r ha hr hg
    rcases hg with hg | hg
    · left; rw [hg, Int.mul_zero]
    · rcases Int.lt_or_le 0 a with g | g
      · right
        have : 1 * r ≤ a * r := Int.mul_le_mul_of_nonneg_right g hr
        have : t * (1 * r) ≤ t * (a * r) := Int.mul_le_mul_of_nonneg_left this ht
        rw [Int.one_mul] at this
        omega
      · left
        rw [show a = 0 by omega, Int.zero_mul]
  have sgn : ∀ a r : Int, (0 ≤ a → 0 ≤ r → 0 ≤ a * r) := fun a r h h' => Int.mul_nonneg h h'
  -- two non-negative parts
  have two : ∀ P Q : Int, 0 ≤ P → 0 ≤ Q → (P = 0 ∨ 2 * b ≤ t * P) → (Q = 0 ∨ 2 * b ≤ t * Q) → P + Q = 0 ∨ 2 * b ≤ t * (P + Q) := by
    intro P Q hP hQ p q
    have m1 : 0 ≤ t * P := Int.mul_nonneg ht hP
    have m2 : 0 ≤ t * Q := Int.mul_nonneg ht hQ
    rw [Int.mul_add]
    rcases p with p | p
    · rcases q with q | q
      · left; omega
      · right; omega
    · right; omega
  rcases Int.le_total 0 α with ha | ha
  · rcases Int.le_total 0 β with hb | hb
    · -- both not below 0
      have ka := key α r1 ha h1 g1
      have kb := key β r2 hb h2 g2
      have zero : α * r1 = 0 ∨ β * r2 = 0 := by
        rcases hx with (h | h) | h | h
        · left; rw [show α = 0 by omega, Int.zero_mul]
        · right; rw [show β = 0 by omega, Int.zero_mul]
        · left; rw [h, Int.mul_zero]
        · right; rw [h, Int.mul_zero]
      rcases zero with z | z
      · rw [z, Int.sub_zero, Int.zero_sub]
        rcases kb with kb | kb
        · left; omega
        · exact .inr (.inr kb)
      · rw [z, Int.sub_zero, Int.zero_sub]
        rcases ka with ka | ka
        · left; omega
        · exact .inr (.inl ka)
    · have ka := key α r1 ha h1 g1
      have kb := key (-β) r2 (by omega) h2 g2
      have e : α * r1 - β * r2 = α * r1 + (-β) * r2 := by grind
      have := two _ _ (sgn _ _ ha h1) (sgn (-β) r2 (by omega) h2) ka kb
      rw [← e] at this
      rcases this with h | h
      · exact .inl h
      · exact .inr (.inl h)
  · rcases Int.le_total 0 β with hb | hb
    · have ka := key (-α) r1 (by omega) h1 g1
      have kb := key β r2 hb h2 g2
      have e : β * r2 - α * r1 = (-α) * r1 + β * r2 := by grind
      have := two _ _ (sgn (-α) r1 (by omega) h1) (sgn β r2 hb h2) ka kb
      rw [← e] at this
      rcases this with h | h
      · left; omega
      · exact .inr (.inr h)
    · have ka := key (-α) r1 (by omega) h1 g1
      have kb := key (-β) r2 (by omega) h2 g2
      have ea : (-α) * r1 = -(α * r1) := by grind
      have eb : (-β) * r2 = -(β * r2) := by grind
      rw [ea] at ka
      rw [eb] at kb
      rcases hneg with z | z
      · rw [show α = 0 by omega, Int.zero_mul, Int.zero_sub]
        rcases kb with kb | kb
        · left; omega
        · exact .inr (.inl kb)
      · rw [show β = 0 by omega, Int.zero_mul, Int.sub_zero, Int.zero_sub]
        rcases ka with ka | ka
        · left; omega
        · exact .inr (.inr ka)

/-- A reduced pair bounds how near the multiples below Nn come. -/
theorem cert_gap {a b x1 y1 x2 y2 Nn t x : Nat} (hb : 0 < b) (det : x1 * y2 = x2 * y1 + 1) (r1 : y1 * b ≤ x1 * a) (r2 : x2 * a ≤ y2 * b)
    (hN : Nn ≤ x1 + x2 ∨ x1 * a = y1 * b ∨ x2 * a = y2 * b) (g1 : x1 * a = y1 * b ∨ 2 * b ≤ t * (x1 * a - y1 * b)) (g2 : x2 * a = y2 * b ∨ 2 * b ≤ t * (y2 * b - x2 * a)) (hx : x < Nn) : Gap (x * a) b t := by
  obtain ⟨R1, hR1⟩ : ∃ R1, x1 * a - y1 * b = R1 := ⟨_, rfl⟩
  obtain ⟨R2, hR2⟩ : ∃ R2, y2 * b - x2 * a = R2 := ⟨_, rfl⟩
  have e1 : (x1 : Int) * a - y1 * b = R1 := by
    have : x1 * a = y1 * b + R1 := by omega
    have := congrArg (Nat.cast (R := Int)) this
    simp only [Int.natCast_mul, Int.natCast_add] at this
    omega
  have e2 : (y2 : Int) * b - x2 * a = R2 := by
    have : y2 * b = x2 * a + R2 := by omega
    have := congrArg (Nat.cast (R := Int)) this
    simp only [Int.natCast_mul, Int.natCast_add] at this
    omega
  have edet : (x1 : Int) * y2 = x2 * y1 + 1 := by
    have := congrArg (Nat.cast (R := Int)) det
    simp only [Int.natCast_mul, Int.natCast_add] at this
    exact this
  have main : ∀ Y : Int, ((x : Int) * a - Y * b = 0 ∨ 2 * (b : Int) ≤ t * ((x : Int) * a - Y * b) ∨ 2 * (b : Int) ≤ t * (Y * b - (x : Int) * a)) := by
    intro Y
    have ez : (x : Int) * a - Y * b = ((x : Int) * y2 - Y * x2) * R1 - ((x1 : Int) * Y - x * y1) * R2 := by
      rw [← e1, ← e2]
      have h3 : ((x : Int) * y2 - Y * x2) * ((x1 : Int) * a - y1 * b) - ((x1 : Int) * Y - x * y1) * ((y2 : Int) * b - x2 * a) = ((x1 : Int) * y2 - x2 * y1) * (x * a - Y * b) := by grind
      rw [h3, edet]
      grind
    have ex : (x : Int) = ((x : Int) * y2 - Y * x2) * x1 + ((x1 : Int) * Y - x * y1) * x2 := by
      have h3 : ((x : Int) * y2 - Y * x2) * x1 + ((x1 : Int) * Y - x * y1) * x2 = x * ((x1 : Int) * y2 - x2 * y1) := by grind
      rw [h3, edet]
      grind
    have ez' : Y * b - (x : Int) * a = ((x1 : Int) * Y - x * y1) * R2 - ((x : Int) * y2 - Y * x2) * R1 := by
      have : Y * b - (x : Int) * a = -((x : Int) * a - Y * b) := by grind
      rw [this, ez]
      grind
    rw [ez, ez']
    obtain ⟨al, hal⟩ : ∃ al, (x : Int) * y2 - Y * x2 = al := ⟨_, rfl⟩
    obtain ⟨be, hbe⟩ : ∃ be, (x1 : Int) * Y - x * y1 = be := ⟨_, rfl⟩
    rw [hal, hbe] at ex ⊢
    refine lin_gap (by omega) (by omega) (by omega) ?_ ?_ ?_ ?_
    · rcases g1 with g | g
      · left; omega
      · right
        rw [hR1] at g
        exact_mod_cast g
    · rcases g2 with g | g
      · left; omega
      · right
        rw [hR2] at g
        exact_mod_cast g
    · rcases hN with h | h | h
      · left
        rcases Int.lt_or_le 0 al with ha | ha
        · rcases Int.lt_or_le 0 be with hb' | hb'
          · exfalso
            have k1 : 1 * (x1 : Int) ≤ al * x1 := Int.mul_le_mul_of_nonneg_right ha (by omega)
            have k2 : 1 * (x2 : Int) ≤ be * x2 := Int.mul_le_mul_of_nonneg_right hb' (by omega)
            omega
          · exact .inr hb'
        · exact .inl ha
      · right; left; omega
      · right; right; omega
    · rcases Int.lt_or_le al 0 with ha | ha
      · rcases Int.lt_or_le be 0 with hb' | hb'
        · exfalso
          have k1 : (al + 1) * (x1 : Int) ≤ 0 * x1 := Int.mul_le_mul_of_nonneg_right (by omega) (by omega)
          have k2 : (be + 1) * (x2 : Int) ≤ 0 * x2 := Int.mul_le_mul_of_nonneg_right (by omega) (by omega)
          rw [Int.add_mul] at k1 k2
          have : 0 < x1 ∨ 0 < x2 := by
            rcases Nat.eq_zero_or_pos x1 with g | g
            · subst g; omega
            · exact .inl g
          omega
        · exact .inr hb'
      · exact .inl ha
  obtain ⟨Y, hY⟩ : ∃ Y, x * a / b = Y := ⟨_, rfl⟩
  obtain ⟨r, hr⟩ : ∃ r, x * a % b = r := ⟨_, rfl⟩
  have hd := Nat.div_add_mod (x * a) b
  have hm := Nat.mod_lt (x * a) hb
  rw [hY, hr] at hd
  rw [hr] at hm
  have hdi : (x : Int) * a = b * Y + r := by
    have := congrArg (Nat.cast (R := Int)) hd.symm
    simp only [Int.natCast_mul, Int.natCast_add] at this
    exact this
  unfold Gap
  rw [hr]
  rcases Nat.eq_zero_or_pos r with g | g
  · exact .inl g
  · right
    have f1 : (x : Int) * a - Y * b = r := by rw [hdi]; grind
    have f2 : (x : Int) * a - ((Y : Int) + 1) * b = (r : Int) - b := by rw [hdi]; grind
    have f3 : (Y : Int) * b - x * a = -(r : Int) := by rw [hdi]; grind
    have f4 : ((Y : Int) + 1) * b - x * a = (b : Int) - r := by rw [hdi]; grind
    have m1 := main Y
    have m2 := main (Y + 1)
    rw [f1, f3] at m1
    rw [f2, f4] at m2
    have n1 : (t : Int) * (-(r : Int)) ≤ 0 := by
      have : 0 ≤ (t : Int) * r := Int.mul_nonneg (by omega) (by omega)
      rw [Int.mul_neg]; omega
    have n2 : (t : Int) * ((r : Int) - b) ≤ 0 := by
      have : 0 ≤ (t : Int) * ((b : Int) - r) := Int.mul_nonneg (by omega) (by omega)
      rw [show (r : Int) - b = -((b : Int) - r) by omega, Int.mul_neg]; omega
    constructor
    · have : 2 * (b : Int) ≤ t * r := by omega
      exact_mod_cast this
    · have : 2 * (b : Int) ≤ t * ((b : Int) - r) := by omega
      have e : ((b - r : Nat) : Int) = (b : Int) - r := by omega
      rw [← e] at this
      exact_mod_cast this
end Go.Proofs.YtbcolebomgcphaaGreatFmt

namespace Go.Proofs.YtbcolebomgcphaaGreatFmt

/-- 2 to the e times 10 to the p as a ratio. -/
def rN (e p : Int) : Nat := 2 ^ e.toNat * 10 ^ p.toNat
def rM (e p : Int) : Nat := 2 ^ (-e).toNat * 10 ^ (-p).toNat
def l10 (x : Int) : Int := x * 78913 / 262144
def l2 (x : Int) : Int := x * 108853 / 32768
def skw (x : Int) : Int := (x * 631305 - 261663) / 2097152
/-- One row of the powers' table: it lies above the power, by less than 1. -/
def rowOK (i : Nat) (h : Nat × Nat) : Bool :=
  Nat.ble (rN (127 - l2 ((i : Int) - 348)) ((i : Int) - 348) + h.2 * rM (127 - l2 ((i : Int) - 348)) ((i : Int) - 348)) (h.1 * 18446744073709551616 * rM (127 - l2 ((i : Int) - 348)) ((i : Int) - 348)) &&
  Nat.blt (h.1 * 18446744073709551616 * rM (127 - l2 ((i : Int) - 348)) ((i : Int) - 348)) (rN (127 - l2 ((i : Int) - 348)) ((i : Int) - 348) + h.2 * rM (127 - l2 ((i : Int) - 348)) ((i : Int) - 348) + rM (127 - l2 ((i : Int) - 348)) ((i : Int) - 348)) &&
  Nat.blt h.1 18446744073709551616 && Nat.blt h.2 18446744073709551616
def rowsOK : Nat → List (Nat × Nat) → Bool
  | _, [] => true
  | i, h :: t => rowOK i h && rowsOK (i + 1) t
set_option maxRecDepth 100000 in
theorem rows_ok : rowsOK 0 Go.Pinned.pow10Rows = true := by decide +kernel
set_option maxRecDepth 100000 in
theorem rows_len : Go.Pinned.pow10Rows.length = 696 := by decide +kernel
theorem rowsOK_get : ∀ (l : List (Nat × Nat)) (k i : Nat) (h : Nat × Nat), rowsOK k l = true → l[i]? = some h → rowOK (k + i) h = true := by
  intro l
  induction l with
  | nil => intro k i h _ h2; simp at h2
  | cons x l ih =>
    intro k i h h1 h2
    rw [rowsOK, Bool.and_eq_true] at h1
    cases i with
    | zero => simp at h2; subst h2; exact h1.1
    | succ i =>
      rw [List.getElem?_cons_succ] at h2
      have := ih (k + 1) i h h1.2 h2
      rwa [show k + 1 + i = k + (i + 1) by omega] at this

def fin (a b t N x1 y1 x2 y2 : Nat) : Bool :=
  Nat.beq (x1 * y2) (x2 * y1 + 1) && Nat.ble (y1 * b) (x1 * a) && Nat.ble (x2 * a) (y2 * b) &&
  (Nat.ble N (x1 + x2) || Nat.beq (x1 * a) (y1 * b) || Nat.beq (x2 * a) (y2 * b)) &&
  (Nat.beq (x1 * a) (y1 * b) || Nat.ble (2 * b) (t * (x1 * a - y1 * b))) && (Nat.beq (x2 * a) (y2 * b) || Nat.ble (2 * b) (t * (y2 * b - x2 * a)))
theorem fin_gap {a b t N x1 y1 x2 y2 : Nat} (hb : 0 < b) (h : fin a b t N x1 y1 x2 y2 = true) : ∀ x, x < N → Gap (x * a) b t := by
  simp only [fin, Bool.and_eq_true, Bool.or_eq_true, Nat.beq_eq, Nat.ble_eq] at h
  obtain ⟨⟨⟨⟨⟨h1, h2⟩, h3⟩, h4⟩, h5⟩, h6⟩ := h
  exact fun x hx => cert_gap hb h1 h2 h3 (by omega) h5 h6 hx
def euc (a b t N : Nat) : Nat → Nat → Nat → Nat → Nat → Nat → Nat → Bool
  | 0, x1, y1, _, x2, y2, _ => fin a b t N x1 y1 x2 y2
  | f + 1, x1, y1, r1, x2, y2, r2 =>
    match Nat.ble N (x1 + x2) || Nat.beq r1 0 || Nat.beq r2 0 with
    | true => fin a b t N x1 y1 x2 y2
    | false =>
      match Nat.ble r1 r2 with
      | true => euc a b t N f x1 y1 r1 (x2 + min (r2 / r1) ((N - x2 - 1) / x1) * x1) (y2 + min (r2 / r1) ((N - x2 - 1) / x1) * y1) (r2 - min (r2 / r1) ((N - x2 - 1) / x1) * r1)
      | false => euc a b t N f (x1 + min (r1 / r2) ((N - x1 - 1) / x2) * x2) (y1 + min (r1 / r2) ((N - x1 - 1) / x2) * y2) (r1 - min (r1 / r2) ((N - x1 - 1) / x2) * r2) x2 y2 r2
theorem euc_gap {a b t N : Nat} (hb : 0 < b) : ∀ f x1 y1 r1 x2 y2 r2, euc a b t N f x1 y1 r1 x2 y2 r2 = true → ∀ x, x < N → Gap (x * a) b t := by
  intro f
  induction f with
  | zero => intro x1 y1 r1 x2 y2 r2 h; exact fin_gap hb h
  | succ f ih =>
    intro x1 y1 r1 x2 y2 r2 h
    rw [euc] at h
    split at h
    · exact fin_gap hb h
    · split at h
      · exact ih _ _ _ _ _ _ h
      · exact ih _ _ _ _ _ _ h
def gapB (A M t : Nat) : Bool := Nat.beq (A % M) 0 || (Nat.ble (2 * M) (t * (A % M)) && Nat.ble (2 * M) (t * (M - A % M)))
theorem gapB_gap {A M t : Nat} (h : gapB A M t = true) : Gap A M t := by
  unfold Gap
  simpa only [gapB, Bool.and_eq_true, Bool.or_eq_true, Nat.beq_eq, Nat.ble_eq] using h
/-- One exponent: the place of the last digit, the gap; of a power of two the same. -/
def chk1 (p s : Int) (u v a b : Nat) : Bool :=
  decide (-348 ≤ p) && decide (p < 348) && decide (0 ≤ s) && decide (s < 12) && Nat.ble v u && Nat.blt u (10 * v) &&
  euc a b (2 ^ (s.toNat + 64)) 18014398509481984 100 1 (a / b) (a % b) 1 (a / b + 1) (b - a % b)
def chk2 (p s : Int) (u v : Nat) : Bool :=
  decide (-348 ≤ p) && decide (p < 348) && decide (0 ≤ s) && decide (s < 12) && Nat.ble (4 * v) (3 * u) && Nat.blt (3 * u) (40 * v) &&
  gapB (18014398509481983 * u) v (2 ^ (s.toNat + 64)) && gapB (18014398509481984 * u) v (2 ^ (s.toNat + 64)) && gapB (18014398509481986 * u) v (2 ^ (s.toNat + 64))
def chkE (E : Int) : Bool :=
  chk1 (-l10 E) (8 - E - l2 (-l10 E)) (rN E (-l10 E)) (rM E (-l10 E)) (rN (E + 1) (-l10 E)) (rM (E + 1) (-l10 E)) &&
  chk2 (-skw E) (8 - E - l2 (-skw E)) (rN E (-skw E)) (rM E (-skw E))
def chkN (k : Int) : Nat → Bool
  | 0 => true
  | n + 1 => chkE (k + n) && chkN k n
theorem chkN_get : ∀ (n : Nat) (k E : Int), chkN k n = true → k ≤ E → E < k + n → chkE E = true := by
  intro n
  induction n with
  | zero => intro k E _ h1 h2; omega
  | succ n ih =>
    intro k E h h1 h2
    rw [chkN, Bool.and_eq_true] at h
    rcases Int.lt_or_le E (k + n) with g | g
    · exact ih k E h.2 h1 g
    · rw [show E = k + n by omega]; exact h.1
theorem chk_0 : chkN (-1074) 128 = true := by decide +kernel
theorem chk_1 : chkN (-946) 128 = true := by decide +kernel
theorem chk_2 : chkN (-818) 128 = true := by decide +kernel
theorem chk_3 : chkN (-690) 128 = true := by decide +kernel
theorem chk_4 : chkN (-562) 128 = true := by decide +kernel
theorem chk_5 : chkN (-434) 128 = true := by decide +kernel
theorem chk_6 : chkN (-306) 128 = true := by decide +kernel
theorem chk_7 : chkN (-178) 128 = true := by decide +kernel
theorem chk_8 : chkN (-50) 128 = true := by decide +kernel
theorem chk_9 : chkN (78) 128 = true := by decide +kernel
theorem chk_10 : chkN (206) 128 = true := by decide +kernel
theorem chk_11 : chkN (334) 128 = true := by decide +kernel
theorem chk_12 : chkN (462) 128 = true := by decide +kernel
theorem chk_13 : chkN (590) 128 = true := by decide +kernel
theorem chk_14 : chkN (718) 128 = true := by decide +kernel
theorem chk_15 : chkN (846) 128 = true := by decide +kernel
theorem chk_all (E : Int) (h0 : -1074 ≤ E) (h1 : E ≤ 971) : chkE E = true := by
  rcases Int.lt_or_le E (-946) with g | g
  · exact chkN_get 128 (-1074) E chk_0 (by omega) (by omega)
  rcases Int.lt_or_le E (-818) with g | g
  · exact chkN_get 128 (-946) E chk_1 (by omega) (by omega)
  rcases Int.lt_or_le E (-690) with g | g
  · exact chkN_get 128 (-818) E chk_2 (by omega) (by omega)
  rcases Int.lt_or_le E (-562) with g | g
  · exact chkN_get 128 (-690) E chk_3 (by omega) (by omega)
  rcases Int.lt_or_le E (-434) with g | g
  · exact chkN_get 128 (-562) E chk_4 (by omega) (by omega)
  rcases Int.lt_or_le E (-306) with g | g
  · exact chkN_get 128 (-434) E chk_5 (by omega) (by omega)
  rcases Int.lt_or_le E (-178) with g | g
  · exact chkN_get 128 (-306) E chk_6 (by omega) (by omega)
  rcases Int.lt_or_le E (-50) with g | g
  · exact chkN_get 128 (-178) E chk_7 (by omega) (by omega)
  rcases Int.lt_or_le E (78) with g | g
  · exact chkN_get 128 (-50) E chk_8 (by omega) (by omega)
  rcases Int.lt_or_le E (206) with g | g
  · exact chkN_get 128 (78) E chk_9 (by omega) (by omega)
  rcases Int.lt_or_le E (334) with g | g
  · exact chkN_get 128 (206) E chk_10 (by omega) (by omega)
  rcases Int.lt_or_le E (462) with g | g
  · exact chkN_get 128 (334) E chk_11 (by omega) (by omega)
  rcases Int.lt_or_le E (590) with g | g
  · exact chkN_get 128 (462) E chk_12 (by omega) (by omega)
  rcases Int.lt_or_le E (718) with g | g
  · exact chkN_get 128 (590) E chk_13 (by omega) (by omega)
  rcases Int.lt_or_le E (846) with g | g
  · exact chkN_get 128 (718) E chk_14 (by omega) (by omega)
  exact chkN_get 128 (846) E chk_15 (by omega) (by omega)
end Go.Proofs.YtbcolebomgcphaaGreatFmt

namespace Go.Proofs.YtbcolebomgcphaaGreatFmt

theorem rM_pos (e p : Int) : 0 < rM e p := Nat.mul_pos (Nat.two_pow_pos _) (Nat.pow_pos (by decide))
theorem rN_pos (e p : Int) : 0 < rN e p := Nat.mul_pos (Nat.two_pow_pos _) (Nat.pow_pos (by decide))
theorem rNM (e p : Int) (k : Nat) : rN e p * 2 ^ k * rM (e + k) p = rN (e + k) p * rM e p := by
  unfold rN rM
  have h : 2 ^ e.toNat * 2 ^ k * 2 ^ (-(e + k)).toNat = 2 ^ (e + k).toNat * 2 ^ (-e).toNat := by
    rw [← Nat.pow_add, ← Nat.pow_add, ← Nat.pow_add]
    congr 1
    omega
  generalize 10 ^ p.toNat = x
  generalize 10 ^ (-p).toNat = y
  calc 2 ^ e.toNat * x * 2 ^ k * (2 ^ (-(e + k)).toNat * y) = (2 ^ e.toNat * 2 ^ k * 2 ^ (-(e + k)).toNat) * (x * y) := by grind
    _ = 2 ^ (e + k).toNat * 2 ^ (-e).toNat * (x * y) := by rw [h]
    _ = _ := by grind
/-- The row's place in the table. -/
def rowAt (p : Int) : Nat := (p + 348).toNat
/-- The bounds of the power's table, at any ratio that stands for the same. -/
theorem row_bounds {p e : Int} {s hi lo : Nat} (hrow : rowOK (rowAt p) (hi, lo) = true) (h0 : -348 ≤ p) (hs : (s : Int) = -(e + l2 p + 3)) :
    rN (e + 2) p * (2 ^ s * (18446744073709551616 * 18446744073709551616)) + lo * rM (e + 2) p ≤ hi * 18446744073709551616 * rM (e + 2) p ∧
    hi * 18446744073709551616 * rM (e + 2) p < rN (e + 2) p * (2 ^ s * (18446744073709551616 * 18446744073709551616)) + lo * rM (e + 2) p + rM (e + 2) p ∧ hi < 18446744073709551616 ∧ lo < 18446744073709551616 := by
  have ep : ((rowAt p : Nat) : Int) - 348 = p := by unfold rowAt; omega
  unfold rowOK at hrow
  rw [ep] at hrow
  simp only [Bool.and_eq_true, Nat.ble_eq, Nat.blt_eq] at hrow
  obtain ⟨⟨⟨h1, h2⟩, h3⟩, h4⟩ := hrow
  have hr := rNM (e + 2) p (s + 128)
  rw [show e + 2 + ((s + 128 : Nat) : Int) = 127 - l2 p by omega] at hr
  have e128 : 2 ^ (s + 128) = 2 ^ s * (18446744073709551616 * 18446744073709551616) := by
    rw [Nat.pow_add]
  rw [e128] at hr
  have p0 := rM_pos (127 - l2 p) p
  have p1 := rM_pos (e + 2) p
  obtain ⟨M0, hM0⟩ : ∃ x, rM (127 - l2 p) p = x := ⟨_, rfl⟩
  obtain ⟨N0, hN0⟩ : ∃ x, rN (127 - l2 p) p = x := ⟨_, rfl⟩
  obtain ⟨M, hM⟩ : ∃ x, rM (e + 2) p = x := ⟨_, rfl⟩
  rw [hM0, hN0] at h1 h2
  rw [hM0, hN0, hM] at hr
  rw [hM0] at p0
  rw [hM] at p1 ⊢
  obtain ⟨A, hA⟩ : ∃ x, rN (e + 2) p * (2 ^ s * (18446744073709551616 * 18446744073709551616)) = x := ⟨_, rfl⟩
  rw [hA] at hr ⊢
  obtain ⟨h', hh'⟩ : ∃ x, hi * 18446744073709551616 = x := ⟨_, rfl⟩
  rw [hh'] at h1 h2 ⊢
  refine ⟨?_, ?_, h3, h4⟩
  · have := Nat.mul_le_mul_right M h1
    refine (Nat.mul_le_mul_right_iff p0).1 ?_
    have e1 : (A + lo * M) * M0 = (N0 + lo * M0) * M := by rw [Nat.add_mul, hr]; grind
    have e2 : h' * M * M0 = h' * M0 * M := by grind
    omega
  · have := (Nat.mul_lt_mul_right (a := M) p1).2 h2
    refine Nat.lt_of_mul_lt_mul_right (a := M0) ?_
    have e1 : (A + lo * M + M) * M0 = (N0 + lo * M0 + M0) * M := by rw [Nat.add_mul, Nat.add_mul, hr]; grind
    have e2 : h' * M * M0 = h' * M0 * M := by grind
    omega
/-- The scaling of X * 2^k, from a gap of X's own. -/
theorem usc_at {p e : Int} {s hi lo X k t : Nat} (hrow : rowOK (rowAt p) (hi, lo) = true) (h0 : -348 ≤ p) (hs : (s : Int) = -(e + l2 p + 3))
    (hX : 0 < X) (hx : X * 2 ^ k < 18446744073709551616) (ht : 2 ^ (t + 64) ≤ 2 ^ s * 18446744073709551616)
    (hgap : Gap (X * rN (e + 2 + k) p) (rM (e + 2 + k) p) (2 ^ (t + 64))) :
    usc (X * 2 ^ k) hi lo s = unr (X * rN (e + 2 + k) p) (rM (e + 2 + k) p) := by
  obtain ⟨b1, b2, _, b4⟩ := row_bounds hrow h0 hs
  have p1 := rM_pos (e + 2) p
  have p2 := rM_pos (e + 2 + k) p
  have hr := rNM (e + 2) p k
  have er : X * rN (e + 2 + k) p * rM (e + 2) p = X * 2 ^ k * rN (e + 2) p * rM (e + 2 + k) p := by
    rw [Nat.mul_assoc, ← hr]; grind
  have hg := (hgap.mono ht).ratio p2 p1 er
  rw [unr_ratio p2 p1 er]
  exact usc_exact (Nat.mul_pos hX (Nat.two_pow_pos _)) hx b4 p1 b1 b2 hg

def dminOf (c : Bool) (u : Nat) : Nat := if c then (u + 3) / 4 else (u + 4) / 4
def dmaxOf (c : Bool) (u : Nat) : Nat := if c then u / 4 else (u - 1) / 4
def rndOf (u : Nat) : Nat := (u + 1 + u / 4 % 2) / 4
/-- In units: the interval's ends and the middle, as multiples of Q. -/
theorem core_in {c : Bool} {B n N M Q xm xx : Nat} (hM : 0 < M) (hB : 0 < B) (hN : 0 < N) (hQ : Q * (4 * M) = U10 B n * N) (hxx : 0 < xx) (d : Nat) :
    InI c (xm * Q) (xx * Q) (d * U10 B n) ↔ dminOf c (unr (xm * N) M) ≤ d ∧ d ≤ dmaxOf c (unr (xx * N) M) := by
  have hU := U10_pos hB n
  obtain ⟨U, hUe⟩ : ∃ U, U10 B n = U := ⟨_, rfl⟩
  rw [hUe] at hU hQ ⊢
  have m4 : 0 < 4 * M := by omega
  have le1 : ∀ x : Nat, (x * Q ≤ d * U ↔ x * N ≤ d * (4 * M)) := by
    intro x
    have e1 : x * Q * (4 * M) = x * N * U := by rw [Nat.mul_assoc, hQ]; grind
    have e2 : d * U * (4 * M) = d * (4 * M) * U := by grind
    rw [← Nat.mul_le_mul_right_iff m4, e1, e2, Nat.mul_le_mul_right_iff hU]
  have le2 : ∀ x : Nat, (d * U ≤ x * Q ↔ d * (4 * M) ≤ x * N) := by
    intro x
    have e1 : x * Q * (4 * M) = x * N * U := by rw [Nat.mul_assoc, hQ]; grind
    have e2 : d * U * (4 * M) = d * (4 * M) * U := by grind
    rw [← Nat.mul_le_mul_right_iff m4, e1, e2, Nat.mul_le_mul_right_iff hU]
  unfold InI dminOf dmaxOf
  cases c with
  | true =>
    simp only [if_true, true_implies, reduceCtorEq, false_implies, and_true]
    rw [unr_ceil _ _ _ hM, unr_floor_le _ _ _ hM, le1, le2]
  | false =>
    simp only [Bool.false_eq_true, if_false, false_implies, true_implies, true_and]
    rw [unr_above _ _ _ hM, unr_below _ _ _ hM (Nat.mul_pos hxx hN)]
    have a := le1 xx
    have b := le2 xm
    constructor
    · intro h; omega
    · intro h; omega
theorem core_near {B n N M Q x0 : Nat} (hM : 0 < M) (hB : 0 < B) (hQ : Q * (4 * M) = U10 B n * N) :
    ∃ f, f * U10 B n ≤ x0 * Q ∧ x0 * Q < (f + 1) * U10 B n ∧
      ((rndOf (unr (x0 * N) M) = f + 1 ∧ ((f + (f + 1)) * U10 B n < 2 * (x0 * Q) ∨ ((f + (f + 1)) * U10 B n = 2 * (x0 * Q) ∧ f % 2 = 1))) ∨
       (rndOf (unr (x0 * N) M) = f ∧ (2 * (x0 * Q) < (f + (f + 1)) * U10 B n ∨ (2 * (x0 * Q) = (f + (f + 1)) * U10 B n ∧ f % 2 = 0)))) := by
  have hU := U10_pos hB n
  obtain ⟨U, hUe⟩ : ∃ U, U10 B n = U := ⟨_, rfl⟩
  rw [hUe] at hU hQ ⊢
  have m4 : 0 < 4 * M := by omega
  obtain ⟨f, hf⟩ : ∃ f, x0 * N / (4 * M) = f := ⟨_, rfl⟩
  have h := unr_round (x0 * N) M hM f hf
  have d0 := Nat.div_mul_le_self (x0 * N) (4 * M)
  have d1 := Nat.lt_div_mul_add (a := x0 * N) m4
  rw [hf] at d0 d1
  have tr : ∀ a b : Nat, (a * U ≤ b * (x0 * Q) ↔ a * (4 * M) ≤ b * (x0 * N)) := by
    intro a b
    have e1 : b * (x0 * Q) * (4 * M) = b * (x0 * N) * U := by rw [Nat.mul_assoc, Nat.mul_assoc x0, hQ]; grind
    have e2 : a * U * (4 * M) = a * (4 * M) * U := by grind
    rw [← Nat.mul_le_mul_right_iff m4, e1, e2, Nat.mul_le_mul_right_iff hU]
  have tr2 : ∀ a b : Nat, (b * (x0 * Q) ≤ a * U ↔ b * (x0 * N) ≤ a * (4 * M)) := by
    intro a b
    have e1 : b * (x0 * Q) * (4 * M) = b * (x0 * N) * U := by rw [Nat.mul_assoc, Nat.mul_assoc x0, hQ]; grind
    have e2 : a * U * (4 * M) = a * (4 * M) * U := by grind
    rw [← Nat.mul_le_mul_right_iff m4, e1, e2, Nat.mul_le_mul_right_iff hU]
  refine ⟨f, ?_, ?_, ?_⟩
  · have := (tr f 1).2 (by omega)
    omega
  · have := tr2 (f + 1) 1
    have := tr (f + 1) 1
    have e3 : (f + 1) * (4 * M) = f * (4 * M) + 4 * M := by rw [Nat.add_mul]; omega
    omega
  · unfold rndOf
    have a := tr (f + (f + 1)) 2
    have b := tr2 (f + (f + 1)) 2
    omega
/-- Both ends as far from the middle: a half of the words' distance, 2 * Q. -/
theorem short_reg {c : Bool} {B n N M Q m : Nat} (hM : 0 < M) (hB : 0 < B) (hN : 0 < N) (hQ : Q * (4 * M) = U10 B n * N) (hm : 0 < m)
    (hU1 : U10 B n ≤ 2 * Q) (hU2 : 2 * Q < 10 * U10 B n) :
    (0 < dminOf c (unr ((2 * m - 1) * N) M) ∧ dminOf c (unr ((2 * m - 1) * N) M) ≤ dmaxOf c (unr ((2 * m + 1) * N) M) ∧ dmaxOf c (unr ((2 * m + 1) * N) M) ≤ 5 * (2 * m + 1) ∧ (dminOf c (unr ((2 * m - 1) * N) M) < dmaxOf c (unr ((2 * m + 1) * N) M) → dminOf c (unr ((2 * m - 1) * N) M) ≤ rndOf (unr (2 * m * N) M) ∧ rndOf (unr (2 * m * N) M) ≤ dmaxOf c (unr ((2 * m + 1) * N) M))) ∧ ∀ D cc i, D = cc * 10 ^ i → cc % 10 ≠ 0 →
    (dminOf c (unr ((2 * m - 1) * N) M) ≤ dmaxOf c (unr ((2 * m + 1) * N) M) / 10 * 10 → D = dmaxOf c (unr ((2 * m + 1) * N) M) / 10 → Sh c ((2 * m - 1) * Q) (2 * m * Q) ((2 * m + 1) * Q) B cc (n + 1 + i)) ∧
    (dmaxOf c (unr ((2 * m + 1) * N) M) / 10 * 10 < dminOf c (unr ((2 * m - 1) * N) M) → D = (if dminOf c (unr ((2 * m - 1) * N) M) < dmaxOf c (unr ((2 * m + 1) * N) M) then rndOf (unr (2 * m * N) M) else dminOf c (unr ((2 * m - 1) * N) M)) → i = 0 ∧ Sh c ((2 * m - 1) * Q) (2 * m * Q) ((2 * m + 1) * Q) B D n) := by
  have hin := core_in (c := c) (xm := 2 * m - 1) (xx := 2 * m + 1) hM hB hN hQ (by omega)
  obtain ⟨f, hf0, hf1, hf⟩ := core_near (x0 := 2 * m) hM hB hQ
  have hnear := near_all hf0 hf1 (rndOf (unr (2 * m * N) M)) hf
  obtain ⟨dmin, hdmin⟩ : ∃ d, dminOf c (unr ((2 * m - 1) * N) M) = d := ⟨_, rfl⟩
  obtain ⟨dmax, hdmax⟩ : ∃ d, dmaxOf c (unr ((2 * m + 1) * N) M) = d := ⟨_, rfl⟩
  obtain ⟨rnd, hrnd⟩ : ∃ d, rndOf (unr (2 * m * N) M) = d := ⟨_, rfl⟩
  rw [hdmin, hdmax] at hin ⊢
  rw [hrnd] at hnear hf ⊢
  have hU := U10_pos hB n
  have eL : (2 * m - 1) * Q + Q = 2 * m * Q := by
    obtain ⟨k, rfl⟩ : ∃ k, m = k + 1 := ⟨m - 1, by omega⟩
    rw [show 2 * (k + 1) - 1 = 2 * k + 1 by omega, show 2 * (k + 1) = 2 * k + 1 + 1 by omega, Nat.add_mul (2 * k + 1) 1 Q]
    omega
  have eH : (2 * m + 1) * Q = 2 * m * Q + Q := by rw [Nat.add_mul, Nat.one_mul]
  -- the tie of an odd one does not arise
  have par : U10 B n = 2 * Q → 2 * (2 * m * Q) ≠ (f + (f + 1)) * U10 B n := by
    intro e h
    rw [e] at h hU
    have h2 : (2 * m) * (2 * Q) = (f + (f + 1)) * (2 * Q) := by rw [← h]; grind
    have := Nat.eq_of_mul_eq_mul_right (by omega) h2
    omega
  have rin : InI c ((2 * m - 1) * Q) ((2 * m + 1) * Q) (rnd * U10 B n) := by
    obtain ⟨U, hUe⟩ : ∃ U, U10 B n = U := ⟨_, rfl⟩
    rw [hUe] at hf0 hf1 hf hU1 par hU ⊢
    simp only [Nat.add_mul] at hf hf1 par
    constructor
    · intro _
      rcases hf with ⟨e, h⟩ | ⟨e, h⟩
      · rw [e, Nat.add_mul]; omega
      · rw [e]; omega
    · intro _
      rcases hf with ⟨e, h⟩ | ⟨e, h⟩
      · rw [e, Nat.add_mul]; omega
      · rw [e]; omega
  have hr := (hin rnd).1 rin
  have i1 := ((hin dmin).2 ⟨by omega, by omega⟩).le
  have i2 := ((hin dmax).2 ⟨by omega, by omega⟩).le
  refine ⟨⟨?_, by omega, ?_, fun _ => hr⟩, fun D cc i hD hcc => prog_sh (rnd := rnd) hin (by omega) ?_ (fun _ => hr) hnear hD hcc⟩
  · rcases Nat.eq_zero_or_pos dmin with g | g
    · exfalso
      rw [g, Nat.zero_mul] at i1
      have : 0 < (2 * m - 1) * Q := Nat.mul_pos (by omega) (by omega)
      omega
    · exact g
  · have k1 : (2 * m + 1) * (2 * Q) ≤ (2 * m + 1) * (10 * U10 B n) := Nat.mul_le_mul_left _ (Nat.le_of_lt hU2)
    have k2 : (2 * m + 1) * (2 * Q) = 2 * ((2 * m + 1) * Q) := by grind
    have k3 : (2 * m + 1) * (10 * U10 B n) = 2 * (5 * (2 * m + 1) * U10 B n) := by grind
    have k4 : dmax * U10 B n ≤ 5 * (2 * m + 1) * U10 B n := by omega
    exact Nat.le_of_mul_le_mul_right k4 hU
  rcases Nat.lt_or_ge dmax (dmin + 10) with g | g
  · exact g
  · exfalso
    have := Nat.mul_le_mul_right (U10 B n) g
    rw [Nat.add_mul] at this
    omega
/-- A power of two: the lower end is half as far as the upper. -/
theorem short_skew {B n N M Q x0 : Nat} (hM : 0 < M) (hB : 0 < B) (hN : 0 < N) (hQ : Q * (4 * M) = U10 B n * N) (hx0 : 0 < x0)
    (hx1 : 1 < x0) (hU1 : U10 B n ≤ 3 * Q) (hU2 : 3 * Q < 10 * U10 B n) :
    (0 < dminOf true (unr ((x0 - 1) * N) M) ∧ dminOf true (unr ((x0 - 1) * N) M) ≤ dmaxOf true (unr ((x0 + 2) * N) M) ∧ dmaxOf true (unr ((x0 + 2) * N) M) ≤ 4 * (x0 + 2) ∧ (dminOf true (unr ((x0 - 1) * N) M) < dmaxOf true (unr ((x0 + 2) * N) M) → dminOf true (unr ((x0 - 1) * N) M) ≤ rndOf (unr (x0 * N) M) ∧ rndOf (unr (x0 * N) M) ≤ dmaxOf true (unr ((x0 + 2) * N) M))) ∧ ∀ D cc i, D = cc * 10 ^ i → cc % 10 ≠ 0 →
    (dminOf true (unr ((x0 - 1) * N) M) ≤ dmaxOf true (unr ((x0 + 2) * N) M) / 10 * 10 → D = dmaxOf true (unr ((x0 + 2) * N) M) / 10 → Sh true ((x0 - 1) * Q) (x0 * Q) ((x0 + 2) * Q) B cc (n + 1 + i)) ∧
    (dmaxOf true (unr ((x0 + 2) * N) M) / 10 * 10 < dminOf true (unr ((x0 - 1) * N) M) → D = (if dminOf true (unr ((x0 - 1) * N) M) < dmaxOf true (unr ((x0 + 2) * N) M) then rndOf (unr (x0 * N) M) else dminOf true (unr ((x0 - 1) * N) M)) → i = 0 ∧ Sh true ((x0 - 1) * Q) (x0 * Q) ((x0 + 2) * Q) B D n) := by
  have hin := core_in (c := true) (xm := x0 - 1) (xx := x0 + 2) hM hB hN hQ (by omega)
  obtain ⟨f, hf0, hf1, hf⟩ := core_near (x0 := x0) hM hB hQ
  have hnear := near_all hf0 hf1 (rndOf (unr (x0 * N) M)) hf
  obtain ⟨dmin, hdmin⟩ : ∃ d, dminOf true (unr ((x0 - 1) * N) M) = d := ⟨_, rfl⟩
  obtain ⟨dmax, hdmax⟩ : ∃ d, dmaxOf true (unr ((x0 + 2) * N) M) = d := ⟨_, rfl⟩
  obtain ⟨rnd, hrnd⟩ : ∃ d, rndOf (unr (x0 * N) M) = d := ⟨_, rfl⟩
  rw [hdmin, hdmax] at hin ⊢
  rw [hrnd] at hnear hf ⊢
  have hU := U10_pos hB n
  have eL : (x0 - 1) * Q + Q = x0 * Q := by
    obtain ⟨k, rfl⟩ : ∃ k, x0 = k + 1 := ⟨x0 - 1, by omega⟩
    rw [show k + 1 - 1 = k by omega, Nat.add_mul k 1 Q]
    omega
  have eH : (x0 + 2) * Q = x0 * Q + 2 * Q := by rw [Nat.add_mul]
  have inn : ∀ d, (x0 - 1) * Q ≤ d * U10 B n → d * U10 B n ≤ (x0 + 2) * Q → dmin ≤ d ∧ d ≤ dmax := fun d a b => (hin d).1 ⟨fun _ => ⟨a, b⟩, fun h => by cases h⟩
  have inn2 : ∀ d, dmin ≤ d → d ≤ dmax → (x0 - 1) * Q ≤ d * U10 B n ∧ d * U10 B n ≤ (x0 + 2) * Q := fun d a b => ((hin d).2 ⟨a, b⟩).le
  obtain ⟨U, hUe⟩ : ∃ U, U10 B n = U := ⟨_, rfl⟩
  have f1 := inn f
  have f2 := inn (f + 1)
  have fr := inn rnd
  have hne : dmin ≤ dmax := by
    rw [hUe] at f1 f2 hf0 hf1 hU1
    simp only [Nat.add_mul] at f2 hf1
    by_cases g : (x0 - 1) * Q ≤ f * U
    · have := f1 g (by omega); omega
    · have := f2 (by omega) (by omega); omega
  have lo1 := inn2 dmin (by omega) hne
  have hi1 := inn2 dmax hne (by omega)
  have hrb : dmin < dmax → dmin ≤ rnd ∧ rnd ≤ dmax := by
    intro hlt
    have up1 := Nat.mul_le_mul_right (U10 B n) (show dmin + 1 ≤ dmax by omega)
    rw [hUe] at f1 f2 hf0 hf1 hU1 hf lo1 hi1 fr up1
    simp only [Nat.add_mul] at f2 hf1 hf up1
    rcases hf with ⟨e, h⟩ | ⟨e, h⟩
    · rw [e, Nat.add_mul] at fr
      rw [e]
      exact fr (by omega) (by omega)
    · rw [e] at fr ⊢
      refine fr ?_ (by omega)
      rcases Nat.lt_or_ge (f * U) ((x0 - 1) * Q) with g | g
      · exfalso
        have e1 : f + 1 ≤ dmin := by
          rcases Nat.lt_or_ge f dmin with k | k
          · exact k
          · have := Nat.mul_le_mul_right U k
            omega
        have := Nat.mul_le_mul_right U e1
        rw [Nat.add_mul] at this
        omega
      · exact g
  refine ⟨⟨?_, hne, ?_, hrb⟩, fun D cc i hD hcc => prog_sh (rnd := rnd) hin hne ?_ hrb hnear hD hcc⟩
  · rcases Nat.eq_zero_or_pos dmin with g | g
    · exfalso
      rw [g, Nat.zero_mul] at lo1
      have : 0 < (x0 - 1) * Q := Nat.mul_pos (by omega) (by omega)
      omega
    · exact g
  · have k1 : (x0 + 2) * (3 * Q) ≤ (x0 + 2) * (10 * U10 B n) := Nat.mul_le_mul_left _ (Nat.le_of_lt hU2)
    have k2 : (x0 + 2) * (3 * Q) = 3 * ((x0 + 2) * Q) := by grind
    have k3 : (x0 + 2) * (10 * U10 B n) ≤ 3 * (4 * (x0 + 2) * U10 B n) := by
      have : (x0 + 2) * (10 * U10 B n) ≤ (x0 + 2) * (12 * U10 B n) := Nat.mul_le_mul_left _ (by omega)
      have : (x0 + 2) * (12 * U10 B n) = 3 * (4 * (x0 + 2) * U10 B n) := by grind
      omega
    have k4 : dmax * U10 B n ≤ 4 * (x0 + 2) * U10 B n := by omega
    exact Nat.le_of_mul_le_mul_right k4 hU
  · rcases Nat.lt_or_ge dmax (dmin + 10) with g | g
    · exact g
    · exfalso
      have := Nat.mul_le_mul_right (U10 B n) g
      rw [Nat.add_mul] at this
      omega
end Go.Proofs.YtbcolebomgcphaaGreatFmt
