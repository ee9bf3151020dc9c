/- The plain law of a word's shortest decimal number: what the program's search finds. Each lemma's conditions stand in its own statement. -/
import Derived.Test.YtmhbkilidpbenaaGreatDoorT
import Derived.Test.YtmhbkilidpbenaaGreatDoorZe
namespace Go.Proofs.YtmhbkilidpbenaaGreatDoor

/-- Ten to the 400. -/
def T4 : Nat := 10 ^ 400
set_option exponentiation.threshold 3000 in
theorem T4_pos : 0 < T4 := Nat.pow_pos (by decide)
/-- D times 10 to the j is the shortest decimal number that tells the word r. -/
def Shr (r D : Nat) (j : Int) : Prop :=
  -400 ≤ j ∧ Sh (decide (r % 2 = 0)) ((unt (r - 1) + unt r) * T4) (2 * unt r * T4) ((unt r + unt (r + 1)) * T4) big D (j + 400).toNat
set_option exponentiation.threshold 3000 in
theorem big_pos : 0 < big := Nat.two_pow_pos _
theorem Shr.uniq {r D D' : Nat} {j j' : Int} (h : Shr r D j) (h' : Shr r D' j') : D = D' ∧ j = j' := by
  obtain ⟨a, b⟩ := Sh.uniq big_pos h.2 h'.2
  have := h.1
  have := h'.1
  exact ⟨a, by omega⟩
theorem unt_eq (r : Nat) : unt r = mant r * 2 ^ (expo r + 1074).toNat := rfl
theorem unt_next (r : Nat) : unt (r + 1) = (mant r + 1) * 2 ^ (expo r + 1074).toNat := by
  unfold unt mant expo
  by_cases h1 : r + 1 < 4503599627370496
  · rw [if_pos h1, if_pos h1, if_pos (by omega), if_pos (by omega)]
  · by_cases h2 : r < 4503599627370496
    · have : r = 4503599627370495 := by omega
      subst this
      decide
    · rw [if_neg h1, if_neg h1, if_neg h2, if_neg h2]
      obtain ⟨q, hq⟩ : ∃ q, r / 4503599627370496 = q := ⟨_, rfl⟩
      obtain ⟨m, hm⟩ : ∃ m, r % 4503599627370496 = m := ⟨_, rfl⟩
      by_cases h3 : m = 4503599627370495
      · have e1 : (r + 1) / 4503599627370496 = q + 1 := by omega
        have e2 : (r + 1) % 4503599627370496 = 0 := by omega
        rw [e1, e2, hq, hm, show (((q + 1 : Nat) : Int) - 1075 + 1074).toNat = ((q : Int) - 1075 + 1074).toNat + 1 by omega, Nat.pow_succ]
        generalize 2 ^ ((q : Int) - 1075 + 1074).toNat = z at *
        subst h3
        omega
      · have e1 : (r + 1) / 4503599627370496 = q := by omega
        have e2 : (r + 1) % 4503599627370496 = m + 1 := by omega
        rw [e1, e2, hq, hm]
        rfl
/-- Below a word that is no power of two the distance is the same. -/
theorem unt_prev {r : Nat} (h0 : 0 < r) (h : ¬ (mant r = 4503599627370496 ∧ -1074 < expo r)) : unt (r - 1) = (mant r - 1) * 2 ^ (expo r + 1074).toNat := by
  unfold unt
  unfold mant expo at *
  by_cases h1 : r < 4503599627370496
  · rw [if_pos h1, if_pos h1, if_pos (by omega), if_pos (by omega)]
  · rw [if_neg h1] at h
    rw [if_neg h1] at h
    rw [if_neg h1, if_neg h1]
    by_cases h2 : r - 1 < 4503599627370496
    · have : r = 4503599627370496 := by omega
      subst this
      decide
    · rw [if_neg h2, if_neg h2]
      have hm : r % 4503599627370496 ≠ 0 := by
        intro hm
        apply h
        rw [hm]
        refine ⟨rfl, ?_⟩
        omega
      have e1 : (r - 1) / 4503599627370496 = r / 4503599627370496 := by omega
      have e2 : (r - 1) % 4503599627370496 = r % 4503599627370496 - 1 := by omega
      rw [e1, e2]
      congr 1
      omega
theorem unt_skew {r : Nat} (h : mant r = 4503599627370496 ∧ -1074 < expo r) : 2 * unt (r - 1) = (2 * mant r - 1) * 2 ^ (expo r + 1074).toNat := by
  obtain ⟨ha, hb⟩ := h
  unfold unt
  rw [ha]
  unfold mant expo at *
  by_cases h1 : r < 4503599627370496
  · rw [if_pos h1] at hb; omega
  · rw [if_neg h1] at ha hb
    rw [if_neg h1, if_neg (by omega), if_neg (by omega)]
    have e1 : (r - 1) / 4503599627370496 = r / 4503599627370496 - 1 := by omega
    have e2 : (r - 1) % 4503599627370496 = 4503599627370495 := by omega
    rw [e1, e2]
    obtain ⟨k, hk⟩ : ∃ k, ((r / 4503599627370496 : Nat) : Int) - 1075 + 1074 = ((k + 1 : Nat) : Int) := ⟨(((r / 4503599627370496 : Nat) : Int) - 1075 + 1074).toNat - 1, by omega⟩
    rw [show (((r / 4503599627370496 - 1 : Nat) : Int) - 1075 + 1074).toNat = k by omega, show (((r / 4503599627370496 : Nat) : Int) - 1075 + 1074).toNat = k + 1 by omega, Nat.pow_succ]
    generalize 2 ^ k = z
    omega
theorem par_mant (r : Nat) : mant r % 2 = r % 2 := by unfold mant; split <;> omega

/-- What is known of a place p at which the distance of the words is one digit. -/
theorem chk_reg {E : Int} (h0 : -1074 ≤ E) (h1 : E ≤ 971) :
    -348 ≤ -l10 E ∧ -l10 E < 348 ∧ 0 ≤ 8 - E - l2 (-l10 E) ∧ 8 - E - l2 (-l10 E) < 12 ∧ rM E (-l10 E) ≤ rN E (-l10 E) ∧ rN E (-l10 E) < 10 * rM E (-l10 E) ∧
      ∀ x, x < 18014398509481984 → Gap (x * rN (E + 1) (-l10 E)) (rM (E + 1) (-l10 E)) (2 ^ ((8 - E - l2 (-l10 E)).toNat + 64)) := by
  have h := chk_all E h0 h1
  unfold chkE chk1 at h
  simp only [Bool.and_eq_true, decide_eq_true_eq, Nat.ble_eq, Nat.blt_eq] at h
  obtain ⟨⟨⟨⟨⟨⟨⟨a, b⟩, c⟩, d⟩, e⟩, f⟩, g⟩, _⟩ := h
  exact ⟨a, b, c, d, e, f, euc_gap (rM_pos _ _) _ _ _ _ _ _ _ g⟩
theorem chk_skw {E : Int} (h0 : -1074 ≤ E) (h1 : E ≤ 971) :
    -348 ≤ -skw E ∧ -skw E < 348 ∧ 0 ≤ 8 - E - l2 (-skw E) ∧ 8 - E - l2 (-skw E) < 12 ∧ 4 * rM E (-skw E) ≤ 3 * rN E (-skw E) ∧ 3 * rN E (-skw E) < 40 * rM E (-skw E) ∧
      Gap (18014398509481983 * rN E (-skw E)) (rM E (-skw E)) (2 ^ ((8 - E - l2 (-skw E)).toNat + 64)) ∧
      Gap (18014398509481984 * rN E (-skw E)) (rM E (-skw E)) (2 ^ ((8 - E - l2 (-skw E)).toNat + 64)) ∧
      Gap (18014398509481986 * rN E (-skw E)) (rM E (-skw E)) (2 ^ ((8 - E - l2 (-skw E)).toNat + 64)) := by
  have h := chk_all E h0 h1
  unfold chkE chk2 at h
  simp only [Bool.and_eq_true, decide_eq_true_eq, Nat.ble_eq, Nat.blt_eq] at h
  obtain ⟨_, ⟨⟨⟨⟨⟨⟨⟨a, b⟩, c⟩, d⟩, e⟩, f⟩, g1⟩, g2⟩, g3⟩ := h
  exact ⟨a, b, c, d, e, f, gapB_gap g1, gapB_gap g2, gapB_gap g3⟩
theorem row_ok {p : Int} {hi lo : Nat} (h : Go.Pinned.pow10Rows[rowAt p]? = some (hi, lo)) : rowOK (rowAt p) (hi, lo) = true := by
  have := rowsOK_get _ 0 (rowAt p) (hi, lo) rows_ok h
  rwa [Nat.zero_add] at this
theorem row_get {p : Int} (h1 : p < 348) : ∃ hi lo, Go.Pinned.pow10Rows[rowAt p]? = some (hi, lo) := by
  have hl : rowAt p < Go.Pinned.pow10Rows.length := by rw [rows_len]; unfold rowAt; omega
  exact ⟨_, _, List.getElem?_eq_getElem hl⟩

/-- The common factor of the interval's ends. -/
def qOf (e : Int) : Nat := 2 ^ e.toNat * T4
theorem qOf_pos (e : Int) : 0 < qOf e := Nat.mul_pos (Nat.two_pow_pos _) T4_pos
set_option exponentiation.threshold 3000 in
theorem q_link {E p : Int} (k : Nat) (h0 : 0 ≤ E + 1074 - k) (hp : p ≤ 400) :
    qOf (E + 1074 - k) * (2 * 2 ^ k * rM E p) = U10 big (400 - p).toNat * rN E p := by
  unfold qOf rM rN U10 big T4
  have e1 : 2 ^ (E + 1074 - k).toNat * (2 * 2 ^ k) * 2 ^ (-E).toNat = 2 ^ 1075 * 2 ^ E.toNat := by
    have : (2 : Nat) * 2 ^ k = 2 ^ (k + 1) := by rw [Nat.pow_succ, Nat.mul_comm]
    rw [this, ← Nat.pow_add, ← Nat.pow_add, ← Nat.pow_add]
    congr 1
    omega
  have e2 : (10 : Nat) ^ 400 * 10 ^ (-p).toNat = 10 ^ (400 - p).toNat * 10 ^ p.toNat := by
    rw [← Nat.pow_add, ← Nat.pow_add]
    congr 1
    omega
  generalize 2 ^ 1075 = b1 at *
  generalize (10 : Nat) ^ 400 = b2 at *
  generalize 2 ^ (E + 1074 - k).toNat = a1 at *
  generalize 2 ^ k = a2 at *
  generalize 2 ^ (-E).toNat = a3 at *
  generalize 2 ^ E.toNat = a4 at *
  generalize 10 ^ (-p).toNat = a5 at *
  generalize 10 ^ (400 - p).toNat = a6 at *
  generalize 10 ^ p.toNat = a7 at *
  calc a1 * b2 * (2 * a2 * (a3 * a5)) = (a1 * (2 * a2) * a3) * (b2 * a5) := by grind
    _ = (b1 * a4) * (a6 * a7) := by rw [e1, e2]
    _ = _ := by grind
/-- The program's answer, from what it scales. -/
def ansD (dmin dmax rnd : Nat) : Nat := if dmin ≤ dmax / 10 * 10 then dmax / 10 else if dmin < dmax then rnd else dmin
def ansP (dmin dmax : Nat) (p : Int) : Int := if dmin ≤ dmax / 10 * 10 then 1 - p else -p
/-- What is to be known of the program's digits d and power of ten k. -/
def ShortOf (r d : Nat) (k : Int) : Prop := 0 < d ∧ d < 100000000000000000 ∧ -348 ≤ k ∧ k ≤ 349 ∧ ∀ (cc i : Nat), d = cc * 10 ^ i → cc % 10 ≠ 0 → Shr r cc (k + i)
theorem ans_short {r dmin dmax rnd : Nat} {p : Int} {c : Bool} {L X H : Nat} (hp0 : -348 ≤ p) (hp1 : p < 348)
    (hc : c = decide (r % 2 = 0)) (hL : (unt (r - 1) + unt r) * T4 = L) (hX : 2 * unt r * T4 = X) (hH : (unt r + unt (r + 1)) * T4 = H)
    (hlaw : ∀ D cc i, D = cc * 10 ^ i → cc % 10 ≠ 0 → (dmin ≤ dmax / 10 * 10 → D = dmax / 10 → Sh c L X H big cc ((400 - p).toNat + 1 + i)) ∧
      (dmax / 10 * 10 < dmin → D = (if dmin < dmax then rnd else dmin) → i = 0 ∧ Sh c L X H big D (400 - p).toNat))
    (hpos : 0 < dmin) (hbd : dmax < 100000000000000000) (hne : dmin ≤ dmax) (hrb : dmin < dmax → dmin ≤ rnd ∧ rnd ≤ dmax) :
    ShortOf r (ansD dmin dmax rnd) (ansP dmin dmax p) := by
  unfold ansD ansP ShortOf Shr
  rw [hL, hX, hH, ← hc]
  by_cases h : dmin ≤ dmax / 10 * 10
  · rw [if_pos h, if_pos h]
    refine ⟨by omega, by omega, by omega, by omega, fun cc i e hcc => ⟨by omega, ?_⟩⟩
    have := (hlaw _ cc i e hcc).1 h rfl
    rw [show (1 - p + (i : Int) + 400).toNat = (400 - p).toNat + 1 + i by omega]
    exact this
  · rw [if_neg h, if_neg h]
    refine ⟨?_, ?_, by omega, by omega, fun cc i e hcc => ⟨by omega, ?_⟩⟩
    · split
      · have := hrb (by assumption); omega
      · exact hpos
    · split
      · have := hrb (by assumption); omega
      · omega
    · obtain ⟨hi, this⟩ := (hlaw _ cc i e hcc).2 (by omega) rfl
      subst hi
      rw [Nat.pow_zero, Nat.mul_one] at e
      rw [← e, show (-p + ((0 : Nat) : Int) + 400).toNat = (400 - p).toNat by omega]
      exact this
end Go.Proofs.YtmhbkilidpbenaaGreatDoor
