/- The plain law of the reference's Fewest. Each lemma's conditions stand in its own statement. -/
import Derived.Test.YtmhbkilidpbenaaGreatDoorZh
namespace Go.Proofs.YtmhbkilidpbenaaGreatDoor

set_option exponentiation.threshold 3000 in
theorem ten_link {j : Int} (hj : -400 ≤ j) : 10 ^ (-j).toNat * 10 ^ (j + 400).toNat = 10 ^ j.toNat * T4 := by
  unfold T4
  rw [← Nat.pow_add, ← Nat.pow_add]
  congr 1
  omega
theorem tells_in {r D : Nat} {j : Int} (hj : -400 ≤ j) : Tells r (D * 10 ^ j.toNat) (10 ^ (-j).toNat) ↔ InI (cOf r) (lOf r) (hOf r) (D * U10 big (j + 400).toNat) := by
  have hl := ten_link hj
  have hq : 0 < 10 ^ (-j).toNat := Nat.pow_pos (by decide)
  have hT := T4_pos
  obtain ⟨q, hqe⟩ : ∃ q, 10 ^ (-j).toNat = q := ⟨_, rfl⟩
  unfold U10
  rw [hqe] at hl hq ⊢
  obtain ⟨pj, hpj⟩ : ∃ x, 10 ^ j.toNat = x := ⟨_, rfl⟩
  obtain ⟨pu, hpu⟩ : ∃ x, 10 ^ (j + 400).toNat = x := ⟨_, rfl⟩
  rw [hpj] at hl ⊢
  rw [hpu] at hl ⊢
  unfold Tells InI cOf lOf hOf
  obtain ⟨T, hTe⟩ : ∃ T, T4 = T := ⟨_, rfl⟩
  rw [hTe] at hl hT ⊢
  obtain ⟨B, hB⟩ : ∃ B, big = B := ⟨_, rfl⟩
  rw [hB]
  have e : D * pj * B * T = D * (pu * B) * q := by
    calc D * pj * B * T = D * (pj * T) * B := by grind
      _ = D * (q * pu) * B := by rw [hl]
      _ = _ := by grind
  have le1 : ∀ A : Nat, (A * q ≤ D * pj * B ↔ A * T ≤ D * (pu * B)) := by
    intro A
    rw [← Nat.mul_le_mul_right_iff hT, e, Nat.mul_right_comm, Nat.mul_le_mul_right_iff hq]
  have le2 : ∀ A : Nat, (D * pj * B ≤ A * q ↔ D * (pu * B) ≤ A * T) := by
    intro A
    rw [← Nat.mul_le_mul_right_iff hT, e, Nat.mul_right_comm A, Nat.mul_le_mul_right_iff hq]
  have a1 := le1 (unt (r - 1) + unt r)
  have a2 := le2 (unt (r - 1) + unt r)
  have b1 := le1 (unt r + unt (r + 1))
  have b2 := le2 (unt r + unt (r + 1))
  generalize (unt (r - 1) + unt r) * q = c1 at *
  generalize (unt (r - 1) + unt r) * T = c2 at *
  generalize (unt r + unt (r + 1)) * q = c3 at *
  generalize (unt r + unt (r + 1)) * T = c4 at *
  generalize D * pj * B = c5 at *
  generalize D * (pu * B) = c6 at *
  by_cases h : r % 2 = 0
  · rw [if_pos h]
    constructor
    · intro g
      exact ⟨fun _ => by omega, fun k => by rw [decide_eq_true h] at k; cases k⟩
    · intro g
      have := g.1 (decide_eq_true h)
      omega
  · rw [if_neg h]
    constructor
    · intro g
      exact ⟨fun k => absurd (of_decide_eq_true k) h, fun _ => by omega⟩
    · intro g
      have := g.2 (decide_eq_false h)
      omega
set_option exponentiation.threshold 3000 in
theorem sc_link {r : Nat} {k : Int} (hk : k ≤ 400) : xOf r * scQ r k = U10 big (400 - k).toNat * scP r k := by
  have h0 := expo_ge r
  unfold xOf scQ scP U10 big unt T4
  have e1 : 2 * 2 ^ (expo r + 1074).toNat * 2 ^ (-expo r).toNat = 2 ^ 1075 * 2 ^ (expo r).toNat := by
    have : (2 : Nat) * 2 ^ (expo r + 1074).toNat = 2 ^ ((expo r + 1074).toNat + 1) := by rw [Nat.pow_succ, Nat.mul_comm]
    rw [this, ← Nat.pow_add, ← Nat.pow_add]
    congr 1
    omega
  have e2 : 10 ^ 400 * 10 ^ (-k).toNat = 10 ^ (400 - k).toNat * 10 ^ k.toNat := by
    rw [← Nat.pow_add, ← Nat.pow_add]
    congr 1
    omega
  generalize 2 ^ 1075 = b1 at *
  generalize (10 : Nat) ^ 400 = b2 at *
  generalize 2 ^ (expo r + 1074).toNat = a1 at *
  generalize 2 ^ (-expo r).toNat = a3 at *
  generalize 2 ^ (expo r).toNat = a4 at *
  generalize 10 ^ (-k).toNat = a5 at *
  generalize 10 ^ (400 - k).toNat = a6 at *
  generalize 10 ^ k.toNat = a7 at *
  calc 2 * (mant r * a1) * b2 * (a3 * a5) = mant r * (2 * a1 * a3) * (b2 * a5) := by grind
    _ = mant r * (b1 * a4) * (a6 * a7) := by rw [e1, e2]
    _ = _ := by grind
theorem scQ_pos (r : Nat) (k : Int) : 0 < scQ r k := Nat.mul_pos (Nat.two_pow_pos _) (Nat.pow_pos (by decide))
theorem scP_pos {r : Nat} (h : 0 < r) (k : Int) : 0 < scP r k := Nat.mul_pos (Nat.mul_pos (mant_pos h) (Nat.two_pow_pos _)) (Nat.pow_pos (by decide))
theorem sc_le1 {r : Nat} {k : Int} (hk : k ≤ 400) (a b : Nat) : a * U10 big (400 - k).toNat ≤ b * xOf r ↔ a * scQ r k ≤ b * scP r k := by
  have hU := U10_pos big_pos (400 - k).toNat
  have hQ := scQ_pos r k
  have e : b * xOf r * scQ r k = b * scP r k * U10 big (400 - k).toNat := by rw [Nat.mul_assoc, sc_link hk]; grind
  rw [← Nat.mul_le_mul_right_iff hQ, e, Nat.mul_right_comm, Nat.mul_le_mul_right_iff hU]
theorem sc_le2 {r : Nat} {k : Int} (hk : k ≤ 400) (a b : Nat) : b * xOf r ≤ a * U10 big (400 - k).toNat ↔ b * scP r k ≤ a * scQ r k := by
  have hU := U10_pos big_pos (400 - k).toNat
  have hQ := scQ_pos r k
  have e : b * xOf r * scQ r k = b * scP r k * U10 big (400 - k).toNat := by rw [Nat.mul_assoc, sc_link hk]; grind
  rw [← Nat.mul_le_mul_right_iff hQ, e, Nat.mul_right_comm a, Nat.mul_le_mul_right_iff hU]
set_option exponentiation.threshold 3000 in
theorem ten324 : 2 ^ 1074 < 10 ^ 324 := by decide +kernel
set_option exponentiation.threshold 3000 in
theorem ten309 : 2 ^ 1024 < 10 ^ 309 := by decide +kernel
set_option exponentiation.threshold 3000 in
/-- Where the point can stand. -/
theorem point_lo {r : Nat} {n : Int} (h0 : 0 < r) (hp : scP r (-n) < scQ r (-n)) : -330 ≤ n := by
  rcases Int.lt_or_le n (-330) with g | g
  · exfalso
    have hE := expo_ge r
    unfold scP scQ at hp
    rw [show (- -n).toNat = 0 by omega, Nat.pow_zero, Nat.mul_one] at hp
    have h1 : 2 ^ (-expo r).toNat ≤ 2 ^ 1074 := Nat.pow_le_pow_right (by decide) (by omega)
    have h2 : 10 ^ 324 ≤ 10 ^ (-n).toNat := Nat.pow_le_pow_right (by decide) (by omega)
    have h3 := ten324
    have h4 : 1 * 10 ^ (-n).toNat ≤ mant r * 2 ^ (expo r).toNat * 10 ^ (-n).toNat := Nat.mul_le_mul_right _ (Nat.mul_pos (mant_pos h0) (Nat.two_pow_pos _))
    generalize 10 ^ (-n).toNat = a at *
    generalize 2 ^ (-expo r).toNat = b at *
    generalize 2 ^ 1074 = c at *
    generalize 10 ^ 324 = d at *
    omega
  · exact g
set_option exponentiation.threshold 3000 in
theorem point_hi {r : Nat} {n : Int} (hr : r < 9218868437227405312) (hp : scQ r (1 - n) ≤ scP r (1 - n)) : n ≤ 330 := by
  rcases Int.lt_or_le 330 n with g | g
  · exfalso
    have hE := expo_le hr
    unfold scP scQ at hp
    rw [show (1 - n).toNat = 0 by omega, Nat.pow_zero, Nat.mul_one] at hp
    have h1 : 2 ^ (expo r).toNat ≤ 2 ^ 971 := Nat.pow_le_pow_right (by decide) (by omega)
    have h2 : 10 ^ 309 ≤ 10 ^ (-(1 - n)).toNat := Nat.pow_le_pow_right (by decide) (by omega)
    have h3 := ten309
    have h4 : 1 * 10 ^ (-(1 - n)).toNat ≤ 2 ^ (-expo r).toNat * 10 ^ (-(1 - n)).toNat := Nat.mul_le_mul_right _ (Nat.two_pow_pos _)
    have h5 : mant r * 2 ^ (expo r).toNat ≤ 9007199254740992 * 2 ^ 971 := Nat.mul_le_mul (Nat.le_of_lt (mant_lt r)) h1
    have h6 : 9007199254740992 * 2 ^ 971 = 2 ^ 1024 := by
      rw [show (9007199254740992 : Nat) = 2 ^ 53 from rfl, ← Nat.pow_add]
    generalize 10 ^ (-(1 - n)).toNat = a at *
    generalize 2 ^ (-expo r).toNat * a = b at *
    generalize mant r * 2 ^ (expo r).toNat = e at *
    generalize 2 ^ 971 = c' at *
    generalize 2 ^ 1024 = c at *
    generalize 10 ^ 309 = d at *
    omega
  · exact g

def lowAt (r : Nat) (n : Int) (k : Nat) : Nat := scP r (k - n) / scQ r (k - n)
def leftAt (r : Nat) (n : Int) (k : Nat) : Nat := scP r (k - n) % scQ r (k - n)
/-- The number l at the k-th digit's place tells the word. -/
def TellsAt (r : Nat) (n : Int) (k l : Nat) : Prop := Tells r (l * 10 ^ (n - k).toNat) (10 ^ (k - n).toNat)
/-- What is known of the point. -/
def PointIs (r : Nat) (n : Int) : Prop := scP r (-n) < scQ r (-n) ∧ scQ r (1 - n) ≤ scP r (1 - n)
def NoneAt (r : Nat) (n : Int) (k : Nat) : Prop := ∀ k', 1 ≤ k' → k' < k → ¬ TellsAt r n k' (lowAt r n k') ∧ ¬ TellsAt r n k' (lowAt r n k' + 1)

theorem tellsAt_in {r : Nat} {n : Int} {k l : Nat} (hn : -330 ≤ n) (hk : k ≤ 17) : TellsAt r n k l ↔ InI (cOf r) (lOf r) (hOf r) (l * U10 big ((n + 400).toNat - k)) := by
  have := tells_in (r := r) (D := l) (j := n - k) (by omega)
  rw [show -(n - (k : Int)) = k - n by omega, show (n - (k : Int) + 400).toNat = (n + 400).toNat - k by omega] at this
  exact this
theorem low_between {r : Nat} {n : Int} {k : Nat} (hn : -330 ≤ n) (hk : k ≤ 17) :
    lowAt r n k * U10 big ((n + 400).toNat - k) ≤ xOf r ∧ xOf r < (lowAt r n k + 1) * U10 big ((n + 400).toNat - k) := by
  have hQ := scQ_pos r (k - n)
  have a := sc_le1 (r := r) (k := k - n) (by omega) (lowAt r n k) 1
  have b := sc_le1 (r := r) (k := k - n) (by omega) (lowAt r n k + 1) 1
  rw [show (400 - ((k : Int) - n)).toNat = (n + 400).toNat - k by omega] at a b
  rw [Nat.one_mul, Nat.one_mul] at a b
  unfold lowAt at *
  have h1 := Nat.div_mul_le_self (scP r (k - n)) (scQ r (k - n))
  have h2 := Nat.lt_div_mul_add (a := scP r (k - n)) hQ
  refine ⟨a.2 h1, ?_⟩
  rw [Nat.add_mul (scP r (k - n) / scQ r (k - n)) 1 (scQ r (k - n))] at b
  omega
theorem low_uniq {U X a b : Nat} (h1 : a * U ≤ X) (h2 : X < (a + 1) * U) (h3 : b * U ≤ X) (h4 : X < (b + 1) * U) : a = b := by
  rcases Nat.lt_trichotomy a b with g | g | g
  · have : (a + 1) * U ≤ b * U := Nat.mul_le_mul_right _ g
    omega
  · exact g
  · have : (b + 1) * U ≤ a * U := Nat.mul_le_mul_right _ g
    omega
theorem point_u {r : Nat} {n : Int} (h : PointIs r n) (hn : -330 ≤ n) : xOf r < U10 big (n + 400).toNat ∧ U10 big ((n + 400).toNat - 1) ≤ xOf r := by
  have a := sc_le1 (r := r) (k := -n) (by omega) 1 1
  have b := sc_le1 (r := r) (k := 1 - n) (by omega) 1 1
  rw [show (400 - -n).toNat = (n + 400).toNat by omega] at a
  rw [show (400 - (1 - n)).toNat = (n + 400).toNat - 1 by omega] at b
  simp only [Nat.one_mul] at a b
  obtain ⟨h1, h2⟩ := h
  exact ⟨by omega, b.2 h2⟩
/-- Seventeen digits are enough. -/
theorem few_stop {r : Nat} {n : Int} (h0 : 0 < r) (hp : PointIs r n) (hn : -330 ≤ n) : TellsAt r n 17 (lowAt r n 17) ∨ TellsAt r n 17 (lowAt r n 17 + 1) := by
  rw [tellsAt_in hn (by omega), tellsAt_in hn (by omega)]
  obtain ⟨h1, h2⟩ := low_between (r := r) (k := 17) hn (by omega)
  refine seventeen h0 ?_ h1 h2
  have := (point_u hp hn).2
  rw [show (n + 400).toNat - 1 = (n + 400).toNat - 17 + 16 by omega, U10_add] at this
  exact this
theorem low_lt {r : Nat} {n : Int} {k : Nat} (hp : PointIs r n) (hn : -330 ≤ n) (hk : k ≤ 17) : lowAt r n k < 10 ^ k := by
  obtain ⟨h1, h2⟩ := low_between (r := r) (k := k) hn hk
  have h3 := (point_u hp hn).1
  rw [show (n + 400).toNat = (n + 400).toNat - k + k by omega, U10_add] at h3
  exact Nat.lt_of_mul_lt_mul_right (Nat.lt_of_le_of_lt h1 h3)
/-- The end of the search: the digits that Fewest gives are the shortest that tell the word. -/
theorem few_end {r : Nat} {n : Int} {k D : Nat} (h0 : 0 < r) (hp : PointIs r n) (hn : -330 ≤ n) (hk1 : 1 ≤ k) (hk : k ≤ 17) (hnone : NoneAt r n k)
    (hhit : TellsAt r n k (lowAt r n k) ∨ TellsAt r n k (lowAt r n k + 1))
    (hD : (D = lowAt r n k + 1 ∧ TellsAt r n k (lowAt r n k + 1) ∧ (TellsAt r n k (lowAt r n k) → scQ r (k - n) < 2 * leftAt r n k ∨ (2 * leftAt r n k = scQ r (k - n) ∧ lowAt r n k % 2 = 1))) ∨
      (D = lowAt r n k ∧ TellsAt r n k (lowAt r n k) ∧ (TellsAt r n k (lowAt r n k + 1) → 2 * leftAt r n k < scQ r (k - n) ∨ (2 * leftAt r n k = scQ r (k - n) ∧ lowAt r n k % 2 = 0)))) :
    10 ^ (k - 1) ≤ D ∧ D ≤ 10 ^ k ∧ (D < 10 ^ k → Shr r D (n - k)) ∧ (D = 10 ^ k → k = 1 ∧ Shr r 1 n) := by
  obtain ⟨l1, l2⟩ := low_between (r := r) (k := k) hn hk
  obtain ⟨p1, p2⟩ := point_u hp hn
  obtain ⟨e1, e2, e3, e4⟩ := ends_lt r h0
  have hlt : ∀ k', k' ≤ 17 → ∀ l, TellsAt r n k' l ↔ InI (cOf r) (lOf r) (hOf r) (l * U10 big ((n + 400).toNat - k')) := fun k' h l => tellsAt_in hn h
  rw [hlt k hk, hlt k hk] at hhit
  have hn0 : 17 ≤ (n + 400).toNat := by omega
  obtain ⟨n0, hn0e⟩ : ∃ n0, (n + 400).toNat = n0 := ⟨_, rfl⟩
  -- what is left against a half
  have hleft : ∀ a b : Nat, (a * U10 big (n0 - k) ≤ b * xOf r ↔ a * scQ r (k - n) ≤ b * scP r (k - n)) ∧ (b * xOf r ≤ a * U10 big (n0 - k) ↔ b * scP r (k - n) ≤ a * scQ r (k - n)) := by
    intro a b
    have h1 := sc_le1 (r := r) (k := k - n) (by omega) a b
    have h2 := sc_le2 (r := r) (k := k - n) (by omega) a b
    rw [show (400 - ((k : Int) - n)).toNat = n0 - k by omega] at h1 h2
    exact ⟨h1, h2⟩
  have hdm : lowAt r n k * scQ r (k - n) + leftAt r n k = scP r (k - n) := by
    unfold lowAt leftAt
    rw [Nat.mul_comm]
    exact Nat.div_add_mod _ _
  have f1 := hleft (lowAt r n k + (lowAt r n k + 1)) 2
  have hten : InI (cOf r) (lOf r) (hOf r) (U10 big n0) → k = 1 → lowAt r n k = 9 ∧ (InI (cOf r) (lOf r) (hOf r) (9 * U10 big (n0 - 1)) → 19 * U10 big (n0 - 1) < 2 * xOf r) := by
    intro h hk1'
    subst hk1'
    rw [hn0e] at p1 l1 l2
    exact ten_nine h0 p1 (by omega) l1 l2 h
  have hmin : ∀ k', 1 ≤ k' → k' < k → ∀ l, l * U10 big (n0 - k') ≤ xOf r → xOf r < (l + 1) * U10 big (n0 - k') → ¬ InI (cOf r) (lOf r) (hOf r) (l * U10 big (n0 - k')) ∧ ¬ InI (cOf r) (lOf r) (hOf r) ((l + 1) * U10 big (n0 - k')) := by
    intro k' h1 h2 l h3 h4
    obtain ⟨g1, g2⟩ := low_between (r := r) (k := k') hn (by omega)
    rw [hn0e] at g1 g2
    have := low_uniq h3 h4 g1 g2
    subst this
    have := hnone k' h1 h2
    rw [hlt k' (by omega), hlt k' (by omega), hn0e] at this
    exact this
  rw [hlt k hk, hlt k hk] at hD
  rw [hn0e] at p1 p2 l1 l2 hhit hD hn0
  have := ref_sh (D := D) big_pos e1 e2 e3 e4 p1 p2 hk1 (by omega) l1 l2 hmin hhit hten ?_
  · obtain ⟨r1, r2, r3, r4⟩ := this
    refine ⟨r1, r2, fun h => ⟨by omega, ?_⟩, fun h => ?_⟩
    · rw [show (n - (k : Int) + 400).toNat = n0 - k by omega]
      exact r3 h
    · obtain ⟨q1, q2⟩ := r4 h
      refine ⟨q1, by omega, ?_⟩
      rw [hn0e]
      exact q2
  · obtain ⟨U, hU⟩ : ∃ U, U10 big (n0 - k) = U := ⟨_, rfl⟩
    obtain ⟨Q, hQ⟩ : ∃ Q, scQ r (k - n) = Q := ⟨_, rfl⟩
    obtain ⟨P, hP⟩ : ∃ P, scP r (k - n) = P := ⟨_, rfl⟩
    obtain ⟨low, hlow⟩ : ∃ l, lowAt r n k = l := ⟨_, rfl⟩
    obtain ⟨left, hle⟩ : ∃ l, leftAt r n k = l := ⟨_, rfl⟩
    rw [hU, hQ, hP, hlow] at f1
    rw [hlow, hQ, hle, hP] at hdm
    rw [hU, hlow, hQ, hle] at hD
    rw [hU, hlow] at hhit ⊢
    have eQ : (low + (low + 1)) * Q = 2 * (low * Q) + Q := by grind
    rw [eQ] at f1
    rcases hD with ⟨d1, d2, d3⟩ | ⟨d1, d2, d3⟩
    · left
      refine ⟨d1, d2, fun h => ?_⟩
      have := d3 h
      omega
    · right
      refine ⟨d1, d2, fun h => ?_⟩
      have := d3 h
      omega
end Go.Proofs.YtmhbkilidpbenaaGreatDoor
