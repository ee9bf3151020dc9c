/- The plain law of the shortest decimal number in an interval: it is the only one, and two ways of finding it. Each lemma's conditions stand in its own statement. -/
namespace Go.Proofs.YtmhbkilidpbenaaGreatDoor

/-- z lies between L and H; c: the ends too. -/
def InI (c : Bool) (L H z : Nat) : Prop := (c = true → L ≤ z ∧ z ≤ H) ∧ (c = false → L < z ∧ z < H)
/-- What a unit of the n-th place is worth. -/
def U10 (B n : Nat) : Nat := 10 ^ n * B
/-- D is nearer to X than D' (in the unit U), or even and as near. -/
def Near (X U D D' : Nat) : Prop :=
  (D < D' → 2 * X < (D + D') * U ∨ (2 * X = (D + D') * U ∧ D % 2 = 0)) ∧ (D' < D → (D + D') * U < 2 * X ∨ ((D + D') * U = 2 * X ∧ D % 2 = 0))
/-- D at the n-th place: in the interval; none stands at a higher place; of those at this place it is the nearest. -/
def Sh (c : Bool) (L X H B D n : Nat) : Prop :=
  InI c L H (D * U10 B n) ∧ (∀ n' D', n < n' → ¬ InI c L H (D' * U10 B n')) ∧ ∀ D', InI c L H (D' * U10 B n) → Near X (U10 B n) D D'
theorem U10_pos {B : Nat} (h : 0 < B) (n : Nat) : 0 < U10 B n := Nat.mul_pos (Nat.pow_pos (by decide)) h
theorem U10_succ (B n : Nat) : U10 B (n + 1) = 10 * U10 B n := by unfold U10; rw [Nat.pow_succ]; grind
theorem U10_add (B n k : Nat) : U10 B (n + k) = 10 ^ k * U10 B n := by unfold U10; rw [Nat.pow_add]; grind
theorem U10_le (B : Nat) {m n : Nat} (h : m ≤ n) : U10 B m ≤ U10 B n := by
  obtain ⟨k, rfl⟩ := Nat.exists_eq_add_of_le h
  rw [U10_add]
  have : 1 * U10 B m ≤ 10 ^ k * U10 B m := Nat.mul_le_mul_right _ (Nat.pow_pos (by decide))
  omega
theorem InI.conv {c : Bool} {L H z y x : Nat} (h : InI c L H x) (h' : InI c L H y) (h1 : x ≤ z) (h2 : z ≤ y) : InI c L H z := by
  obtain ⟨a, b⟩ := h
  obtain ⟨a', b'⟩ := h'
  constructor
  · intro e; have := a e; have := a' e; omega
  · intro e; have := b e; have := b' e; omega
theorem InI.mid {c : Bool} {L H X : Nat} (h1 : L < X) (h2 : X < H) : InI c L H X := ⟨fun _ => by omega, fun _ => by omega⟩
theorem InI.le {c : Bool} {L H z : Nat} (h : InI c L H z) : L ≤ z ∧ z ≤ H := by
  obtain ⟨a, b⟩ := h
  cases c
  · have := b rfl; omega
  · exact a rfl
theorem Sh.uniq {c : Bool} {L X H B D n D' n' : Nat} (hB : 0 < B) (h : Sh c L X H B D n) (h' : Sh c L X H B D' n') : D = D' ∧ n = n' := by
  have hn : n = n' := by
    rcases Nat.lt_trichotomy n n' with g | g | g
    · exact absurd h'.1 (h.2.1 _ _ g)
    · exact g
    · exact absurd h.1 (h'.2.1 _ _ g)
  subst hn
  refine ⟨?_, rfl⟩
  have key : ∀ A A' : Nat, Sh c L X H B A n → Sh c L X H B A' n → ¬ A < A' := by
    intro A A' g g' hlt
    have hU := U10_pos hB n
    have q1 := (g.2.2 A' g'.1).1 hlt
    have q2 := (g'.2.2 A g.1).2 hlt
    have i1 := g.1
    have i2 := g'.1
    have nr := g.2.2 (A + 1)
    obtain ⟨U, hUe⟩ : ∃ U, U10 B n = U := ⟨_, rfl⟩
    rw [hUe] at q1 q2 hU i1 i2 nr
    rw [Nat.add_mul] at q1 q2
    have e1 : A + 2 ≤ A' := by omega
    have e2 : (A + 2) * U ≤ A' * U := Nat.mul_le_mul_right U e1
    rw [Nat.add_mul] at e2
    have i3 : InI c L H ((A + 1) * U) := i1.conv i2 (by rw [Nat.add_mul]; omega) (by rw [Nat.add_mul]; omega)
    have q3 := (nr i3).1 (by omega)
    rw [Nat.add_mul, Nat.add_mul] at q3
    omega
  have := key D D' h h'
  have := key D' D h' h
  omega

/-- The nearest of the two neighbours is the nearest of all. -/
theorem near_all {X U f : Nat} (h0 : f * U ≤ X) (h1 : X < (f + 1) * U) (D : Nat)
    (hD : (D = f + 1 ∧ ((f + (f + 1)) * U < 2 * X ∨ ((f + (f + 1)) * U = 2 * X ∧ f % 2 = 1))) ∨ (D = f ∧ (2 * X < (f + (f + 1)) * U ∨ (2 * X = (f + (f + 1)) * U ∧ f % 2 = 0)))) (D' : Nat) : Near X U D D' := by
  have m1 : ∀ a b : Nat, a ≤ b → a * U ≤ b * U := fun a b h => Nat.mul_le_mul_right U h
  have hU : 0 < U := by
    rcases Nat.eq_zero_or_pos U with g | g
    · subst g; omega
    · exact g
  simp only [Nat.add_mul] at *
  unfold Near
  simp only [Nat.add_mul]
  rcases hD with ⟨rfl, hD⟩ | ⟨rfl, hD⟩
  · constructor
    · intro hlt
      have := m1 (f + 2) D' (by omega)
      simp only [Nat.add_mul] at this ⊢
      left; omega
    · intro hlt
      have := m1 D' f (by omega)
      simp only [Nat.add_mul] at this ⊢
      omega
  · constructor
    · intro hlt
      have := m1 (D + 1) D' (by omega)
      simp only [Nat.add_mul] at this ⊢
      omega
    · intro hlt
      have := m1 (D' + 1) D (by omega)
      simp only [Nat.add_mul] at this ⊢
      left; omega

/-- What the reference finds: the least number of digits of which one of the two neighbours lies in the interval. -/
theorem ref_sh {c : Bool} {L X H B n0 k low D : Nat} (hB : 0 < B) (hL : 0 < L) (hLX : L < X) (hXH : X < H) (hH : H ≤ 2 * X)
    (hn0 : X < U10 B n0) (hn1 : U10 B (n0 - 1) ≤ X) (hk1 : 1 ≤ k) (hk : k ≤ n0)
    (hlow : low * U10 B (n0 - k) ≤ X) (hlow1 : X < (low + 1) * U10 B (n0 - k))
    (hmin : ∀ k', 1 ≤ k' → k' < k → ∀ l, l * U10 B (n0 - k') ≤ X → X < (l + 1) * U10 B (n0 - k') → ¬ InI c L H (l * U10 B (n0 - k')) ∧ ¬ InI c L H ((l + 1) * U10 B (n0 - k')))
    (hhit : InI c L H (low * U10 B (n0 - k)) ∨ InI c L H ((low + 1) * U10 B (n0 - k)))
    (hten : InI c L H (U10 B n0) → k = 1 → low = 9 ∧ (InI c L H (9 * U10 B (n0 - 1)) → 19 * U10 B (n0 - 1) < 2 * X))
    (hD : (D = low + 1 ∧ InI c L H ((low + 1) * U10 B (n0 - k)) ∧ (InI c L H (low * U10 B (n0 - k)) → (low + (low + 1)) * U10 B (n0 - k) < 2 * X ∨ ((low + (low + 1)) * U10 B (n0 - k) = 2 * X ∧ low % 2 = 1))) ∨
      (D = low ∧ InI c L H (low * U10 B (n0 - k)) ∧ (InI c L H ((low + 1) * U10 B (n0 - k)) → 2 * X < (low + (low + 1)) * U10 B (n0 - k) ∨ (2 * X = (low + (low + 1)) * U10 B (n0 - k) ∧ low % 2 = 0)))) :
    10 ^ (k - 1) ≤ D ∧ D ≤ 10 ^ k ∧ (D < 10 ^ k → Sh c L X H B D (n0 - k)) ∧ (D = 10 ^ k → k = 1 ∧ Sh c L X H B 1 n0) := by
  obtain ⟨N, hN⟩ : ∃ N, n0 - k = N := ⟨_, rfl⟩
  have en0 : n0 = N + k := by omega
  rw [hN] at hlow hlow1 hhit hD ⊢
  have hUpos := U10_pos hB N
  have g0 : U10 B n0 = 10 ^ k * U10 B N := by rw [en0, U10_add]
  have g1 : U10 B (n0 - 1) = 10 ^ (k - 1) * U10 B N := by rw [show n0 - 1 = N + (k - 1) by omega, U10_add]
  -- the bounds of low
  have b1 : low < 10 ^ k := by
    have : low * U10 B N < 10 ^ k * U10 B N := by omega
    exact Nat.lt_of_mul_lt_mul_right this
  have b2 : 10 ^ (k - 1) ≤ low := by
    have : 10 ^ (k - 1) * U10 B N < (low + 1) * U10 B N := by omega
    have := Nat.lt_of_mul_lt_mul_right this
    omega
  have bD : 10 ^ (k - 1) ≤ D ∧ D ≤ 10 ^ k := by rcases hD with ⟨h, _⟩ | ⟨h, _⟩ <;> omega
  have inX : InI c L H X := InI.mid hLX hXH
  -- a number in the interval brings a neighbour in
  have nb : ∀ n' D', InI c L H (D' * U10 B n') → InI c L H (X / U10 B n' * U10 B n') ∨ InI c L H ((X / U10 B n' + 1) * U10 B n') := by
    intro n' D' h
    have hU' := U10_pos hB n'
    rcases Nat.lt_or_ge X (D' * U10 B n') with g | g
    · right
      have h1 : X / U10 B n' < D' := (Nat.div_lt_iff_lt_mul hU').2 g
      exact inX.conv h (by have := Nat.lt_div_mul_add (a := X) hU'; rw [Nat.add_mul]; omega) (Nat.mul_le_mul_right _ h1)
    · left
      have h1 : D' ≤ X / U10 B n' := (Nat.le_div_iff_mul_le hU').2 g
      exact h.conv inX (Nat.mul_le_mul_right _ h1) (Nat.div_mul_le_self _ _)
  have nomin : ∀ k', 1 ≤ k' → k' < k → ∀ D', ¬ InI c L H (D' * U10 B (n0 - k')) := by
    intro k' h1 h2 D' h
    have hU' := U10_pos hB (n0 - k')
    obtain ⟨p, q⟩ := hmin k' h1 h2 _ (Nat.div_mul_le_self X _) (by have := Nat.lt_div_mul_add (a := X) hU'; rw [Nat.add_mul]; omega)
    rcases nb _ _ h with h | h
    · exact p h
    · exact q h
  -- nothing of the place n0 or above but, at k = 1, the unit of n0 itself
  have high : ∀ n' D', n0 ≤ n' → InI c L H (D' * U10 B n') → InI c L H (U10 B n0) ∧ k = 1 ∧ n' = n0 := by
    intro n' D' hn h
    have hle := U10_le B hn
    have hD' : 1 ≤ D' := by
      rcases Nat.eq_zero_or_pos D' with g | g
      · subst g; have := h.le; omega
      · exact g
    have h2 : 1 * U10 B n' ≤ D' * U10 B n' := Nat.mul_le_mul_right _ hD'
    have i0 : InI c L H (U10 B n0) := inX.conv h (by omega) (by omega)
    refine ⟨i0, ?_, ?_⟩
    · rcases Nat.lt_or_ge 1 k with g | g
      · have e := U10_succ B (n0 - 1)
        rw [show n0 - 1 + 1 = n0 by omega] at e
        exact absurd (by rw [← e]; exact i0) (nomin 1 (by omega) g 10)
      · omega
    · rcases Nat.lt_or_ge n0 n' with g | g
      · have e := U10_le B (show n0 + 1 ≤ n' by omega)
        rw [U10_succ] at e
        have := h.le
        omega
      · omega
  refine ⟨bD.1, bD.2, ?_, ?_⟩
  · intro hlt
    have inD : InI c L H (D * U10 B N) := by
      rcases hD with ⟨h, h2, _⟩ | ⟨h, h2, _⟩ <;> (rw [h]; exact h2)
    refine ⟨inD, ?_, ?_⟩
    · intro n' D' hn h
      rcases Nat.lt_or_ge n' n0 with g | g
      · have := nomin (n0 - n') (by omega) (by omega) D'
        rw [show n0 - (n0 - n') = n' by omega] at this
        exact this h
      · obtain ⟨i0, k1, _⟩ := high n' D' g h
        obtain ⟨h9, hn9⟩ := hten i0 k1
        subst k1
        subst h9
        have e : U10 B n0 = (9 + 1) * U10 B N := by rw [g0]
        rw [e] at i0
        rw [show n0 - 1 = N by omega] at hn9
        rcases hD with ⟨h, _⟩ | ⟨h, h2, h3⟩
        · omega
        · have q := hn9 h2
          have := h3 i0
          omega
    · intro D' h
      have m1 : ∀ a b : Nat, a ≤ b → a * U10 B N ≤ b * U10 B N := fun a b h => Nat.mul_le_mul_right _ h
      rcases hD with ⟨e, h2, h3⟩ | ⟨e, h2, h3⟩
      · subst e
        constructor
        · intro g
          have := m1 (low + 2) D' (by omega)
          simp only [Nat.add_mul] at *
          omega
        · intro g
          have m2 := m1 D' low (by omega)
          have i1 : InI c L H (low * U10 B N) := h.conv inX m2 hlow
          have := h3 i1
          simp only [Nat.add_mul] at *
          omega
      · subst e
        constructor
        · intro g
          have m2 := m1 (D + 1) D' (by omega)
          have i1 : InI c L H ((D + 1) * U10 B N) := inX.conv h (by omega) m2
          have := h3 i1
          simp only [Nat.add_mul] at *
          omega
        · intro g
          have := m1 (D' + 1) D (by omega)
          simp only [Nat.add_mul] at *
          omega
  · intro he
    have inD : InI c L H (U10 B n0) := by
      rw [g0, ← he]
      rcases hD with ⟨h, h2, _⟩ | ⟨h, h2, _⟩ <;> (rw [h]; exact h2)
    have k1 : k = 1 := by
      have := high n0 1 (Nat.le_refl _) (by rw [Nat.one_mul]; exact inD)
      exact this.2.1
    refine ⟨k1, by rw [Nat.one_mul]; exact inD, ?_, ?_⟩
    · intro n' D' hn h
      have := (high n' D' (by omega) h).2.2
      omega
    · intro D' h
      constructor
      · intro g
        have : 2 * U10 B n0 ≤ D' * U10 B n0 := Nat.mul_le_mul_right _ g
        rw [Nat.add_mul]
        omega
      · intro g
        have : D' = 0 := by omega
        subst this
        have := h.le
        omega

/-- A number's zeros at the end. -/
theorem strip_exists (D : Nat) (h : 0 < D) : ∃ c i, D = c * 10 ^ i ∧ c % 10 ≠ 0 := by
  induction D using Nat.strongRecOn with
  | _ D ih =>
    by_cases hd : D % 10 = 0
    · obtain ⟨c, i, e, hc⟩ := ih (D / 10) (by omega) (by omega)
      exact ⟨c, i + 1, by rw [Nat.pow_succ, ← Nat.mul_assoc, ← e]; omega, hc⟩
    · exact ⟨D, 0, by simp, hd⟩
/-- What the program finds: at the place n the numbers from dmin to dmax are those in the interval. -/
theorem prog_sh {c : Bool} {L X H B n dmin dmax rnd D cc i : Nat}
    (hin : ∀ d, InI c L H (d * U10 B n) ↔ dmin ≤ d ∧ d ≤ dmax) (hne : dmin ≤ dmax) (hwid : dmax < dmin + 10)
    (hrnd : dmin < dmax → dmin ≤ rnd ∧ rnd ≤ dmax) (hnear : ∀ D', Near X (U10 B n) rnd D')
    (hD : D = cc * 10 ^ i) (hcc : cc % 10 ≠ 0) :
    (dmin ≤ dmax / 10 * 10 → D = dmax / 10 → Sh c L X H B cc (n + 1 + i)) ∧
    (dmax / 10 * 10 < dmin → D = (if dmin < dmax then rnd else dmin) → i = 0 ∧ Sh c L X H B D n) := by
  constructor
  · intro h1 h2
    have up : ∀ n' D', n + 1 ≤ n' → InI c L H (D' * U10 B n') → D' * 10 ^ (n' - (n + 1)) = D := by
      intro n' D' hn h
      obtain ⟨k, hk⟩ := Nat.exists_eq_add_of_le hn
      subst hk
      rw [show n + 1 + k - (n + 1) = k by omega]
      rw [show n + 1 + k = n + (1 + k) by omega, U10_add, ← Nat.mul_assoc, Nat.pow_add, Nat.pow_one] at h
      have := (hin _).1 h
      have e : D' * (10 * 10 ^ k) = 10 * (D' * 10 ^ k) := by grind
      rw [e] at this
      omega
    refine ⟨?_, ?_, ?_⟩
    · rw [show n + 1 + i = n + (1 + i) by omega, U10_add, ← Nat.mul_assoc, Nat.pow_add, Nat.pow_one]
      refine (hin _).2 ?_
      have e : cc * (10 * 10 ^ i) = 10 * (cc * 10 ^ i) := by grind
      rw [e, ← hD, h2]
      omega
    · intro n' D' hn h
      have e := up n' D' (by omega) h
      obtain ⟨k, hk⟩ : ∃ k, n' - (n + 1) = i + 1 + k := ⟨n' - (n + 1) - (i + 1), by omega⟩
      rw [hk, hD, Nat.pow_add, Nat.pow_succ] at e
      have e2 : D' * (10 ^ i * 10 * 10 ^ k) = (D' * 10 ^ k * 10) * 10 ^ i := by grind
      rw [e2] at e
      have e3 := Nat.eq_of_mul_eq_mul_right (Nat.pow_pos (by decide)) e
      omega
    · intro D' h
      have e := up _ D' (by omega) h
      rw [show n + 1 + i - (n + 1) = i by omega, hD] at e
      have e3 := Nat.eq_of_mul_eq_mul_right (Nat.pow_pos (by decide)) e
      subst e3
      exact ⟨fun g => by omega, fun g => by omega⟩
  · intro h1 h2
    have hDin : dmin ≤ D ∧ D ≤ dmax := by
      rw [h2]
      split
      · exact hrnd (by assumption)
      · omega
    have hi : i = 0 := by
      rcases Nat.eq_zero_or_pos i with g | g
      · exact g
      · exfalso
        obtain ⟨j, rfl⟩ : ∃ j, i = j + 1 := ⟨i - 1, by omega⟩
        rw [Nat.pow_succ, ← Nat.mul_assoc] at hD
        omega
    refine ⟨hi, (hin D).2 hDin, ?_, ?_⟩
    · intro n' D' hn h
      obtain ⟨k, hk⟩ := Nat.exists_eq_add_of_le (show n + 1 ≤ n' by omega)
      subst hk
      rw [show n + 1 + k = n + (1 + k) by omega, U10_add, ← Nat.mul_assoc, Nat.pow_add, Nat.pow_one] at h
      have := (hin _).1 h
      have e : D' * (10 * 10 ^ k) = 10 * (D' * 10 ^ k) := by grind
      rw [e] at this
      omega
    · intro D' h
      have h3 := (hin D').1 h
      rw [h2]
      split
      · exact hnear D'
      · exact ⟨fun g => by omega, fun g => by omega⟩
end Go.Proofs.YtmhbkilidpbenaaGreatDoor
