/- The plain law of the program's search for the shortest decimal number. Each lemma's conditions stand in its own statement. -/
import Derived.Test.YtmhbkilidpbenaaGreatDoorZa
import Derived.Test.YtmhbkilidpbenaaGreatDoorZd
namespace Go.Proofs.YtmhbkilidpbenaaGreatDoor

theorem rM_pos (e p : Int) : 0 < rM e p := Nat.mul_pos (Nat.two_pow_pos _) (Nat.pow_pos (by decide))
theorem rN_pos (e p : Int) : 0 < rN e p := Nat.mul_pos (Nat.two_pow_pos _) (Nat.pow_pos (by decide))
theorem rNM (e p : Int) (k : Nat) : rN e p * 2 ^ k * rM (e + k) p = rN (e + k) p * rM e p := by
  unfold rN rM
  have h : 2 ^ e.toNat * 2 ^ k * 2 ^ (-(e + k)).toNat = 2 ^ (e + k).toNat * 2 ^ (-e).toNat := by
    rw [← Nat.pow_add, ← Nat.pow_add, ← Nat.pow_add]
    congr 1
    omega
  generalize 10 ^ p.toNat = x
  generalize 10 ^ (-p).toNat = y
  calc 2 ^ e.toNat * x * 2 ^ k * (2 ^ (-(e + k)).toNat * y) = (2 ^ e.toNat * 2 ^ k * 2 ^ (-(e + k)).toNat) * (x * y) := by grind
    _ = 2 ^ (e + k).toNat * 2 ^ (-e).toNat * (x * y) := by rw [h]
    _ = _ := by grind
/-- The row's place in the table. -/
def rowAt (p : Int) : Nat := (p + 348).toNat
/-- The bounds of the power's table, at any ratio that stands for the same. -/
theorem row_bounds {p e : Int} {s hi lo : Nat} (hrow : rowOK (rowAt p) (hi, lo) = true) (h0 : -348 ≤ p) (hs : (s : Int) = -(e + l2 p + 3)) :
    rN (e + 2) p * (2 ^ s * (18446744073709551616 * 18446744073709551616)) + lo * rM (e + 2) p ≤ hi * 18446744073709551616 * rM (e + 2) p ∧
    hi * 18446744073709551616 * rM (e + 2) p < rN (e + 2) p * (2 ^ s * (18446744073709551616 * 18446744073709551616)) + lo * rM (e + 2) p + rM (e + 2) p ∧ hi < 18446744073709551616 ∧ lo < 18446744073709551616 := by
  have ep : ((rowAt p : Nat) : Int) - 348 = p := by unfold rowAt; omega
  unfold rowOK at hrow
  rw [ep] at hrow
  simp only [Bool.and_eq_true, Nat.ble_eq, Nat.blt_eq] at hrow
  obtain ⟨⟨⟨h1, h2⟩, h3⟩, h4⟩ := hrow
  have hr := rNM (e + 2) p (s + 128)
  rw [show e + 2 + ((s + 128 : Nat) : Int) = 127 - l2 p by omega] at hr
  have e128 : 2 ^ (s + 128) = 2 ^ s * (18446744073709551616 * 18446744073709551616) := by
    rw [Nat.pow_add]
  rw [e128] at hr
  have p0 := rM_pos (127 - l2 p) p
  have p1 := rM_pos (e + 2) p
  obtain ⟨M0, hM0⟩ : ∃ x, rM (127 - l2 p) p = x := ⟨_, rfl⟩
  obtain ⟨N0, hN0⟩ : ∃ x, rN (127 - l2 p) p = x := ⟨_, rfl⟩
  obtain ⟨M, hM⟩ : ∃ x, rM (e + 2) p = x := ⟨_, rfl⟩
  rw [hM0, hN0] at h1 h2
  rw [hM0, hN0, hM] at hr
  rw [hM0] at p0
  rw [hM] at p1 ⊢
  obtain ⟨A, hA⟩ : ∃ x, rN (e + 2) p * (2 ^ s * (18446744073709551616 * 18446744073709551616)) = x := ⟨_, rfl⟩
  rw [hA] at hr ⊢
  obtain ⟨h', hh'⟩ : ∃ x, hi * 18446744073709551616 = x := ⟨_, rfl⟩
  rw [hh'] at h1 h2 ⊢
  refine ⟨?_, ?_, h3, h4⟩
  · have := Nat.mul_le_mul_right M h1
    refine (Nat.mul_le_mul_right_iff p0).1 ?_
    have e1 : (A + lo * M) * M0 = (N0 + lo * M0) * M := by rw [Nat.add_mul, hr]; grind
    have e2 : h' * M * M0 = h' * M0 * M := by grind
    omega
  · have := (Nat.mul_lt_mul_right (a := M) p1).2 h2
    refine Nat.lt_of_mul_lt_mul_right (a := M0) ?_
    have e1 : (A + lo * M + M) * M0 = (N0 + lo * M0 + M0) * M := by rw [Nat.add_mul, Nat.add_mul, hr]; grind
    have e2 : h' * M * M0 = h' * M0 * M := by grind
    omega
/-- The scaling of X * 2^k, from a gap of X's own. -/
theorem usc_at {p e : Int} {s hi lo X k t : Nat} (hrow : rowOK (rowAt p) (hi, lo) = true) (h0 : -348 ≤ p) (hs : (s : Int) = -(e + l2 p + 3))
    (hX : 0 < X) (hx : X * 2 ^ k < 18446744073709551616) (ht : 2 ^ (t + 64) ≤ 2 ^ s * 18446744073709551616)
    (hgap : Gap (X * rN (e + 2 + k) p) (rM (e + 2 + k) p) (2 ^ (t + 64))) :
    usc (X * 2 ^ k) hi lo s = unr (X * rN (e + 2 + k) p) (rM (e + 2 + k) p) := by
  obtain ⟨b1, b2, _, b4⟩ := row_bounds hrow h0 hs
  have p1 := rM_pos (e + 2) p
  have p2 := rM_pos (e + 2 + k) p
  have hr := rNM (e + 2) p k
  have er : X * rN (e + 2 + k) p * rM (e + 2) p = X * 2 ^ k * rN (e + 2) p * rM (e + 2 + k) p := by
    rw [Nat.mul_assoc, ← hr]; grind
  have hg := (hgap.mono ht).ratio p2 p1 er
  rw [unr_ratio p2 p1 er]
  exact usc_exact (Nat.mul_pos hX (Nat.two_pow_pos _)) hx b4 p1 b1 b2 hg

def dminOf (c : Bool) (u : Nat) : Nat := if c then (u + 3) / 4 else (u + 4) / 4
def dmaxOf (c : Bool) (u : Nat) : Nat := if c then u / 4 else (u - 1) / 4
def rndOf (u : Nat) : Nat := (u + 1 + u / 4 % 2) / 4
/-- In units: the interval's ends and the middle, as multiples of Q. -/
theorem core_in {c : Bool} {B n N M Q xm xx : Nat} (hM : 0 < M) (hB : 0 < B) (hN : 0 < N) (hQ : Q * (4 * M) = U10 B n * N) (hxx : 0 < xx) (d : Nat) :
    InI c (xm * Q) (xx * Q) (d * U10 B n) ↔ dminOf c (unr (xm * N) M) ≤ d ∧ d ≤ dmaxOf c (unr (xx * N) M) := by
  have hU := U10_pos hB n
  obtain ⟨U, hUe⟩ : ∃ U, U10 B n = U := ⟨_, rfl⟩
  rw [hUe] at hU hQ ⊢
  have m4 : 0 < 4 * M := by omega
  have le1 : ∀ x : Nat, (x * Q ≤ d * U ↔ x * N ≤ d * (4 * M)) := by
    intro x
    have e1 : x * Q * (4 * M) = x * N * U := by rw [Nat.mul_assoc, hQ]; grind
    have e2 : d * U * (4 * M) = d * (4 * M) * U := by grind
    rw [← Nat.mul_le_mul_right_iff m4, e1, e2, Nat.mul_le_mul_right_iff hU]
  have le2 : ∀ x : Nat, (d * U ≤ x * Q ↔ d * (4 * M) ≤ x * N) := by
    intro x
    have e1 : x * Q * (4 * M) = x * N * U := by rw [Nat.mul_assoc, hQ]; grind
    have e2 : d * U * (4 * M) = d * (4 * M) * U := by grind
    rw [← Nat.mul_le_mul_right_iff m4, e1, e2, Nat.mul_le_mul_right_iff hU]
  unfold InI dminOf dmaxOf
  cases c with
  | true =>
    simp only [if_true, true_implies, reduceCtorEq, false_implies, and_true]
    rw [unr_ceil _ _ _ hM, unr_floor_le _ _ _ hM, le1, le2]
  | false =>
    simp only [Bool.false_eq_true, if_false, false_implies, true_implies, true_and]
    rw [unr_above _ _ _ hM, unr_below _ _ _ hM (Nat.mul_pos hxx hN)]
    have a := le1 xx
    have b := le2 xm
    constructor
    · intro h; omega
    · intro h; omega
theorem core_near {B n N M Q x0 : Nat} (hM : 0 < M) (hB : 0 < B) (hQ : Q * (4 * M) = U10 B n * N) :
    ∃ f, f * U10 B n ≤ x0 * Q ∧ x0 * Q < (f + 1) * U10 B n ∧
      ((rndOf (unr (x0 * N) M) = f + 1 ∧ ((f + (f + 1)) * U10 B n < 2 * (x0 * Q) ∨ ((f + (f + 1)) * U10 B n = 2 * (x0 * Q) ∧ f % 2 = 1))) ∨
       (rndOf (unr (x0 * N) M) = f ∧ (2 * (x0 * Q) < (f + (f + 1)) * U10 B n ∨ (2 * (x0 * Q) = (f + (f + 1)) * U10 B n ∧ f % 2 = 0)))) := by
  have hU := U10_pos hB n
  obtain ⟨U, hUe⟩ : ∃ U, U10 B n = U := ⟨_, rfl⟩
  rw [hUe] at hU hQ ⊢
  have m4 : 0 < 4 * M := by omega
  obtain ⟨f, hf⟩ : ∃ f, x0 * N / (4 * M) = f := ⟨_, rfl⟩
  have h := unr_round (x0 * N) M hM f hf
  have d0 := Nat.div_mul_le_self (x0 * N) (4 * M)
  have d1 := Nat.lt_div_mul_add (a := x0 * N) m4
  rw [hf] at d0 d1
  have tr : ∀ a b : Nat, (a * U ≤ b * (x0 * Q) ↔ a * (4 * M) ≤ b * (x0 * N)) := by
    intro a b
    have e1 : b * (x0 * Q) * (4 * M) = b * (x0 * N) * U := by rw [Nat.mul_assoc, Nat.mul_assoc x0, hQ]; grind
    have e2 : a * U * (4 * M) = a * (4 * M) * U := by grind
    rw [← Nat.mul_le_mul_right_iff m4, e1, e2, Nat.mul_le_mul_right_iff hU]
  have tr2 : ∀ a b : Nat, (b * (x0 * Q) ≤ a * U ↔ b * (x0 * N) ≤ a * (4 * M)) := by
    intro a b
    have e1 : b * (x0 * Q) * (4 * M) = b * (x0 * N) * U := by rw [Nat.mul_assoc, Nat.mul_assoc x0, hQ]; grind
    have e2 : a * U * (4 * M) = a * (4 * M) * U := by grind
    rw [← Nat.mul_le_mul_right_iff m4, e1, e2, Nat.mul_le_mul_right_iff hU]
  refine ⟨f, ?_, ?_, ?_⟩
  · have := (tr f 1).2 (by omega)
    omega
  · have := tr2 (f + 1) 1
    have := tr (f + 1) 1
    have e3 : (f + 1) * (4 * M) = f * (4 * M) + 4 * M := by rw [Nat.add_mul]; omega
    omega
  · unfold rndOf
    have a := tr (f + (f + 1)) 2
    have b := tr2 (f + (f + 1)) 2
    omega
/-- Both ends as far from the middle: a half of the words' distance, 2 * Q. -/
theorem short_reg {c : Bool} {B n N M Q m : Nat} (hM : 0 < M) (hB : 0 < B) (hN : 0 < N) (hQ : Q * (4 * M) = U10 B n * N) (hm : 0 < m)
    (hU1 : U10 B n ≤ 2 * Q) (hU2 : 2 * Q < 10 * U10 B n) :
    (0 < dminOf c (unr ((2 * m - 1) * N) M) ∧ dminOf c (unr ((2 * m - 1) * N) M) ≤ dmaxOf c (unr ((2 * m + 1) * N) M) ∧ dmaxOf c (unr ((2 * m + 1) * N) M) ≤ 5 * (2 * m + 1) ∧ (dminOf c (unr ((2 * m - 1) * N) M) < dmaxOf c (unr ((2 * m + 1) * N) M) → dminOf c (unr ((2 * m - 1) * N) M) ≤ rndOf (unr (2 * m * N) M) ∧ rndOf (unr (2 * m * N) M) ≤ dmaxOf c (unr ((2 * m + 1) * N) M))) ∧ ∀ D cc i, D = cc * 10 ^ i → cc % 10 ≠ 0 →
    (dminOf c (unr ((2 * m - 1) * N) M) ≤ dmaxOf c (unr ((2 * m + 1) * N) M) / 10 * 10 → D = dmaxOf c (unr ((2 * m + 1) * N) M) / 10 → Sh c ((2 * m - 1) * Q) (2 * m * Q) ((2 * m + 1) * Q) B cc (n + 1 + i)) ∧
    (dmaxOf c (unr ((2 * m + 1) * N) M) / 10 * 10 < dminOf c (unr ((2 * m - 1) * N) M) → D = (if dminOf c (unr ((2 * m - 1) * N) M) < dmaxOf c (unr ((2 * m + 1) * N) M) then rndOf (unr (2 * m * N) M) else dminOf c (unr ((2 * m - 1) * N) M)) → i = 0 ∧ Sh c ((2 * m - 1) * Q) (2 * m * Q) ((2 * m + 1) * Q) B D n) := by
  have hin := core_in (c := c) (xm := 2 * m - 1) (xx := 2 * m + 1) hM hB hN hQ (by omega)
  obtain ⟨f, hf0, hf1, hf⟩ := core_near (x0 := 2 * m) hM hB hQ
  have hnear := near_all hf0 hf1 (rndOf (unr (2 * m * N) M)) hf
  obtain ⟨dmin, hdmin⟩ : ∃ d, dminOf c (unr ((2 * m - 1) * N) M) = d := ⟨_, rfl⟩
  obtain ⟨dmax, hdmax⟩ : ∃ d, dmaxOf c (unr ((2 * m + 1) * N) M) = d := ⟨_, rfl⟩
  obtain ⟨rnd, hrnd⟩ : ∃ d, rndOf (unr (2 * m * N) M) = d := ⟨_, rfl⟩
  rw [hdmin, hdmax] at hin ⊢
  rw [hrnd] at hnear hf ⊢
  have hU := U10_pos hB n
  have eL : (2 * m - 1) * Q + Q = 2 * m * Q := by
    obtain ⟨k, rfl⟩ : ∃ k, m = k + 1 := ⟨m - 1, by omega⟩
    rw [show 2 * (k + 1) - 1 = 2 * k + 1 by omega, show 2 * (k + 1) = 2 * k + 1 + 1 by omega, Nat.add_mul (2 * k + 1) 1 Q]
    omega
  have eH : (2 * m + 1) * Q = 2 * m * Q + Q := by rw [Nat.add_mul, Nat.one_mul]
  -- the tie of an odd one does not arise
  have par : U10 B n = 2 * Q → 2 * (2 * m * Q) ≠ (f + (f + 1)) * U10 B n := by
    intro e h
    rw [e] at h hU
    have h2 : (2 * m) * (2 * Q) = (f + (f + 1)) * (2 * Q) := by rw [← h]; grind
    have := Nat.eq_of_mul_eq_mul_right (by omega) h2
    omega
  have rin : InI c ((2 * m - 1) * Q) ((2 * m + 1) * Q) (rnd * U10 B n) := by
    obtain ⟨U, hUe⟩ : ∃ U, U10 B n = U := ⟨_, rfl⟩
    rw [hUe] at hf0 hf1 hf hU1 par hU ⊢
    simp only [Nat.add_mul] at hf hf1 par
    constructor
    · intro _
      rcases hf with ⟨e, h⟩ | ⟨e, h⟩
      · rw [e, Nat.add_mul]; omega
      · rw [e]; omega
    · intro _
      rcases hf with ⟨e, h⟩ | ⟨e, h⟩
      · rw [e, Nat.add_mul]; omega
      · rw [e]; omega
  have hr := (hin rnd).1 rin
  have i1 := ((hin dmin).2 ⟨by omega, by omega⟩).le
  have i2 := ((hin dmax).2 ⟨by omega, by omega⟩).le
  refine ⟨⟨?_, by omega, ?_, fun _ => hr⟩, fun D cc i hD hcc => prog_sh (rnd := rnd) hin (by omega) ?_ (fun _ => hr) hnear hD hcc⟩
  · rcases Nat.eq_zero_or_pos dmin with g | g
    · exfalso
      rw [g, Nat.zero_mul] at i1
      have : 0 < (2 * m - 1) * Q := Nat.mul_pos (by omega) (by omega)
      omega
    · exact g
  · have k1 : (2 * m + 1) * (2 * Q) ≤ (2 * m + 1) * (10 * U10 B n) := Nat.mul_le_mul_left _ (Nat.le_of_lt hU2)
    have k2 : (2 * m + 1) * (2 * Q) = 2 * ((2 * m + 1) * Q) := by grind
    have k3 : (2 * m + 1) * (10 * U10 B n) = 2 * (5 * (2 * m + 1) * U10 B n) := by grind
    have k4 : dmax * U10 B n ≤ 5 * (2 * m + 1) * U10 B n := by omega
    exact Nat.le_of_mul_le_mul_right k4 hU
  rcases Nat.lt_or_ge dmax (dmin + 10) with g | g
  · exact g
  · exfalso
    have := Nat.mul_le_mul_right (U10 B n) g
    rw [Nat.add_mul] at this
    omega
/-- A power of two: the lower end is half as far as the upper. -/
theorem short_skew {B n N M Q x0 : Nat} (hM : 0 < M) (hB : 0 < B) (hN : 0 < N) (hQ : Q * (4 * M) = U10 B n * N) (hx0 : 0 < x0)
    (hx1 : 1 < x0) (hU1 : U10 B n ≤ 3 * Q) (hU2 : 3 * Q < 10 * U10 B n) :
    (0 < dminOf true (unr ((x0 - 1) * N) M) ∧ dminOf true (unr ((x0 - 1) * N) M) ≤ dmaxOf true (unr ((x0 + 2) * N) M) ∧ dmaxOf true (unr ((x0 + 2) * N) M) ≤ 4 * (x0 + 2) ∧ (dminOf true (unr ((x0 - 1) * N) M) < dmaxOf true (unr ((x0 + 2) * N) M) → dminOf true (unr ((x0 - 1) * N) M) ≤ rndOf (unr (x0 * N) M) ∧ rndOf (unr (x0 * N) M) ≤ dmaxOf true (unr ((x0 + 2) * N) M))) ∧ ∀ D cc i, D = cc * 10 ^ i → cc % 10 ≠ 0 →
    (dminOf true (unr ((x0 - 1) * N) M) ≤ dmaxOf true (unr ((x0 + 2) * N) M) / 10 * 10 → D = dmaxOf true (unr ((x0 + 2) * N) M) / 10 → Sh true ((x0 - 1) * Q) (x0 * Q) ((x0 + 2) * Q) B cc (n + 1 + i)) ∧
    (dmaxOf true (unr ((x0 + 2) * N) M) / 10 * 10 < dminOf true (unr ((x0 - 1) * N) M) → D = (if dminOf true (unr ((x0 - 1) * N) M) < dmaxOf true (unr ((x0 + 2) * N) M) then rndOf (unr (x0 * N) M) else dminOf true (unr ((x0 - 1) * N) M)) → i = 0 ∧ Sh true ((x0 - 1) * Q) (x0 * Q) ((x0 + 2) * Q) B D n) := by
  have hin := core_in (c := true) (xm := x0 - 1) (xx := x0 + 2) hM hB hN hQ (by omega)
  obtain ⟨f, hf0, hf1, hf⟩ := core_near (x0 := x0) hM hB hQ
  have hnear := near_all hf0 hf1 (rndOf (unr (x0 * N) M)) hf
  obtain ⟨dmin, hdmin⟩ : ∃ d, dminOf true (unr ((x0 - 1) * N) M) = d := ⟨_, rfl⟩
  obtain ⟨dmax, hdmax⟩ : ∃ d, dmaxOf true (unr ((x0 + 2) * N) M) = d := ⟨_, rfl⟩
  obtain ⟨rnd, hrnd⟩ : ∃ d, rndOf (unr (x0 * N) M) = d := ⟨_, rfl⟩
  rw [hdmin, hdmax] at hin ⊢
  rw [hrnd] at hnear hf ⊢
  have hU := U10_pos hB n
  have eL : (x0 - 1) * Q + Q = x0 * Q := by
    obtain ⟨k, rfl⟩ : ∃ k, x0 = k + 1 := ⟨x0 - 1, by omega⟩
    rw [show k + 1 - 1 = k by omega, Nat.add_mul k 1 Q]
    omega
  have eH : (x0 + 2) * Q = x0 * Q + 2 * Q := by rw [Nat.add_mul]
  have inn : ∀ d, (x0 - 1) * Q ≤ d * U10 B n → d * U10 B n ≤ (x0 + 2) * Q → dmin ≤ d ∧ d ≤ dmax := fun d a b => (hin d).1 ⟨fun _ => ⟨a, b⟩, fun h => by cases h⟩
  have inn2 : ∀ d, dmin ≤ d → d ≤ dmax → (x0 - 1) * Q ≤ d * U10 B n ∧ d * U10 B n ≤ (x0 + 2) * Q := fun d a b => ((hin d).2 ⟨a, b⟩).le
  obtain ⟨U, hUe⟩ : ∃ U, U10 B n = U := ⟨_, rfl⟩
  have f1 := inn f
  have f2 := inn (f + 1)
  have fr := inn rnd
  have hne : dmin ≤ dmax := by
    rw [hUe] at f1 f2 hf0 hf1 hU1
    simp only [Nat.add_mul] at f2 hf1
    by_cases g : (x0 - 1) * Q ≤ f * U
    · have := f1 g (by omega); omega
    · have := f2 (by omega) (by omega); omega
  have lo1 := inn2 dmin (by omega) hne
  have hi1 := inn2 dmax hne (by omega)
  have hrb : dmin < dmax → dmin ≤ rnd ∧ rnd ≤ dmax := by
    intro hlt
    have up1 := Nat.mul_le_mul_right (U10 B n) (show dmin + 1 ≤ dmax by omega)
    rw [hUe] at f1 f2 hf0 hf1 hU1 hf lo1 hi1 fr up1
    simp only [Nat.add_mul] at f2 hf1 hf up1
    rcases hf with ⟨e, h⟩ | ⟨e, h⟩
    · rw [e, Nat.add_mul] at fr
      rw [e]
      exact fr (by omega) (by omega)
    · rw [e] at fr ⊢
      refine fr ?_ (by omega)
      rcases Nat.lt_or_ge (f * U) ((x0 - 1) * Q) with g | g
      · exfalso
        have e1 : f + 1 ≤ dmin := by
          rcases Nat.lt_or_ge f dmin with k | k
          · exact k
          · have := Nat.mul_le_mul_right U k
            omega
        have := Nat.mul_le_mul_right U e1
        rw [Nat.add_mul] at this
        omega
      · exact g
  refine ⟨⟨?_, hne, ?_, hrb⟩, fun D cc i hD hcc => prog_sh (rnd := rnd) hin hne ?_ hrb hnear hD hcc⟩
  · rcases Nat.eq_zero_or_pos dmin with g | g
    · exfalso
      rw [g, Nat.zero_mul] at lo1
      have : 0 < (x0 - 1) * Q := Nat.mul_pos (by omega) (by omega)
      omega
    · exact g
  · have k1 : (x0 + 2) * (3 * Q) ≤ (x0 + 2) * (10 * U10 B n) := Nat.mul_le_mul_left _ (Nat.le_of_lt hU2)
    have k2 : (x0 + 2) * (3 * Q) = 3 * ((x0 + 2) * Q) := by grind
    have k3 : (x0 + 2) * (10 * U10 B n) ≤ 3 * (4 * (x0 + 2) * U10 B n) := by
      have : (x0 + 2) * (10 * U10 B n) ≤ (x0 + 2) * (12 * U10 B n) := Nat.mul_le_mul_left _ (by omega)
      have : (x0 + 2) * (12 * U10 B n) = 3 * (4 * (x0 + 2) * U10 B n) := by grind
      omega
    have k4 : dmax * U10 B n ≤ 4 * (x0 + 2) * U10 B n := by omega
    exact Nat.le_of_mul_le_mul_right k4 hU
  · rcases Nat.lt_or_ge dmax (dmin + 10) with g | g
    · exact g
    · exfalso
      have := Nat.mul_le_mul_right (U10 B n) g
      rw [Nat.add_mul] at this
      omega
end Go.Proofs.YtmhbkilidpbenaaGreatDoor
