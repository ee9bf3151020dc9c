/- The plain law of a word's shortest decimal number: what the program's search finds. Each lemma's conditions stand in its own statement. The program's search finds the shortest decimal number of every word. Each lemma's conditions stand in its own statement. Contracts of the small functions of the program's scaling. Each lemma's conditions stand in its own statement. -/
import Derived.Test.YtbcolebomgcphaaGreatFmtA
import Derived.Test.YtbcolebomgcphaaGreatFmtZ
import Derived.Laws.BitsAllLaws
import Derived.BigQuiet
import Derived.Deep.QuietTactic
namespace Go.Proofs.YtbcolebomgcphaaGreatFmt

/-- Ten to the 400. -/
def T4 : Nat := 10 ^ 400
set_option exponentiation.threshold 3000 in
theorem T4_pos : 0 < T4 := Nat.pow_pos (by decide)
/-- D times 10 to the j is the shortest decimal number that tells the word r. -/
def Shr (r D : Nat) (j : Int) : Prop :=
  -400 ≤ j ∧ Sh (decide (r % 2 = 0)) ((unt (r - 1) + unt r) * T4) (2 * unt r * T4) ((unt r + unt (r + 1)) * T4) big D (j + 400).toNat
set_option exponentiation.threshold 3000 in
theorem big_pos : 0 < big := Nat.two_pow_pos _
theorem unt_eq (r : Nat) : unt r = mant r * 2 ^ (expo r + 1074).toNat := rfl
theorem unt_next (r : Nat) : unt (r + 1) = (mant r + 1) * 2 ^ (expo r + 1074).toNat := by
  unfold unt mant expo
  by_cases h1 : r + 1 < 4503599627370496
  · rw [if_pos h1, if_pos h1, if_pos (by omega), if_pos (by omega)]
  · by_cases h2 : r < 4503599627370496
    · have : r = 4503599627370495 := by omega
      subst this
      decide
    · rw [if_neg h1, if_neg h1, if_neg h2, if_neg h2]
      obtain ⟨q, hq⟩ : ∃ q, r / 4503599627370496 = q := ⟨_, rfl⟩
      obtain ⟨m, hm⟩ : ∃ m, r % 4503599627370496 = m := ⟨_, rfl⟩
      by_cases h3 : m = 4503599627370495
      · have e1 : (r + 1) / 4503599627370496 = q + 1 := by omega
        have e2 : (r + 1) % 4503599627370496 = 0 := by omega
        rw [e1, e2, hq, hm, show (((q + 1 : Nat) : Int) - 1075 + 1074).toNat = ((q : Int) - 1075 + 1074).toNat + 1 by omega, Nat.pow_succ]
        generalize 2 ^ ((q : Int) - 1075 + 1074).toNat = z at *
        subst h3
        omega
      · have e1 : (r + 1) / 4503599627370496 = q := by omega
        have e2 : (r + 1) % 4503599627370496 = m + 1 := by omega
        rw [e1, e2, hq, hm]
        rfl
/-- Below a word that is no power of two the distance is the same. -/
theorem unt_prev {r : Nat} (h0 : 0 < r) (h : ¬ (mant r = 4503599627370496 ∧ -1074 < expo r)) : unt (r - 1) = (mant r - 1) * 2 ^ (expo r + 1074).toNat := by
  unfold unt
  unfold mant expo at *
  by_cases h1 : r < 4503599627370496
  · rw [if_pos h1, if_pos h1, if_pos (by omega), if_pos (by omega)]
  · rw [if_neg h1] at h
    rw [if_neg h1] at h
    rw [if_neg h1, if_neg h1]
    by_cases h2 : r - 1 < 4503599627370496
    · have : r = 4503599627370496 := by omega
      subst this
      decide
    · rw [if_neg h2, if_neg h2]
      have hm : r % 4503599627370496 ≠ 0 := by
        intro hm
        apply h
        rw [hm]
        refine ⟨rfl, ?_⟩
        omega
      have e1 : (r - 1) / 4503599627370496 = r / 4503599627370496 := by omega
      have e2 : (r - 1) % 4503599627370496 = r % 4503599627370496 - 1 := by omega
      rw [e1, e2]
      congr 1
      omega
theorem unt_skew {r : Nat} (h : mant r = 4503599627370496 ∧ -1074 < expo r) : 2 * unt (r - 1) = (2 * mant r - 1) * 2 ^ (expo r + 1074).toNat := by
  obtain ⟨ha, hb⟩ := h
  unfold unt
  rw [ha]
  unfold mant expo at *
  by_cases h1 : r < 4503599627370496
  · rw [if_pos h1] at hb; omega
  · rw [if_neg h1] at ha hb
    rw [if_neg h1, if_neg (by omega), if_neg (by omega)]
    have e1 : (r - 1) / 4503599627370496 = r / 4503599627370496 - 1 := by omega
    have e2 : (r - 1) % 4503599627370496 = 4503599627370495 := by omega
    rw [e1, e2]
    obtain ⟨k, hk⟩ : ∃ k, ((r / 4503599627370496 : Nat) : Int) - 1075 + 1074 = ((k + 1 : Nat) : Int) := ⟨(((r / 4503599627370496 : Nat) : Int) - 1075 + 1074).toNat - 1, by omega⟩
    rw [show (((r / 4503599627370496 - 1 : Nat) : Int) - 1075 + 1074).toNat = k by omega, show (((r / 4503599627370496 : Nat) : Int) - 1075 + 1074).toNat = k + 1 by omega, Nat.pow_succ]
    generalize 2 ^ k = z
    omega
theorem par_mant (r : Nat) : mant r % 2 = r % 2 := by unfold mant; split <;> omega

/-- What is known of a place p at which the distance of the words is one digit. -/
theorem chk_reg {E : Int} (h0 : -1074 ≤ E) (h1 : E ≤ 971) :
    -348 ≤ -l10 E ∧ -l10 E < 348 ∧ 0 ≤ 8 - E - l2 (-l10 E) ∧ 8 - E - l2 (-l10 E) < 12 ∧ rM E (-l10 E) ≤ rN E (-l10 E) ∧ rN E (-l10 E) < 10 * rM E (-l10 E) ∧
      ∀ x, x < 18014398509481984 → Gap (x * rN (E + 1) (-l10 E)) (rM (E + 1) (-l10 E)) (2 ^ ((8 - E - l2 (-l10 E)).toNat + 64)) := by
  have h := chk_all E h0 h1
  unfold chkE chk1 at h
  simp only [Bool.and_eq_true, decide_eq_true_eq, Nat.ble_eq, Nat.blt_eq] at h
  obtain ⟨⟨⟨⟨⟨⟨⟨a, b⟩, c⟩, d⟩, e⟩, f⟩, g⟩, _⟩ := h
  exact ⟨a, b, c, d, e, f, euc_gap (rM_pos _ _) _ _ _ _ _ _ _ g⟩
theorem chk_skw {E : Int} (h0 : -1074 ≤ E) (h1 : E ≤ 971) :
    -348 ≤ -skw E ∧ -skw E < 348 ∧ 0 ≤ 8 - E - l2 (-skw E) ∧ 8 - E - l2 (-skw E) < 12 ∧ 4 * rM E (-skw E) ≤ 3 * rN E (-skw E) ∧ 3 * rN E (-skw E) < 40 * rM E (-skw E) ∧
      Gap (18014398509481983 * rN E (-skw E)) (rM E (-skw E)) (2 ^ ((8 - E - l2 (-skw E)).toNat + 64)) ∧
      Gap (18014398509481984 * rN E (-skw E)) (rM E (-skw E)) (2 ^ ((8 - E - l2 (-skw E)).toNat + 64)) ∧
      Gap (18014398509481986 * rN E (-skw E)) (rM E (-skw E)) (2 ^ ((8 - E - l2 (-skw E)).toNat + 64)) := by
  have h := chk_all E h0 h1
  unfold chkE chk2 at h
  simp only [Bool.and_eq_true, decide_eq_true_eq, Nat.ble_eq, Nat.blt_eq] at h
  obtain ⟨_, ⟨⟨⟨⟨⟨⟨⟨a, b⟩, c⟩, d⟩, e⟩, f⟩, g1⟩, g2⟩, g3⟩ := h
  exact ⟨a, b, c, d, e, f, gapB_gap g1, gapB_gap g2, gapB_gap g3⟩
theorem row_ok {p : Int} {hi lo : Nat} (h : Go.Pinned.pow10Rows[rowAt p]? = some (hi, lo)) : rowOK (rowAt p) (hi, lo) = true := by
  have := rowsOK_get _ 0 (rowAt p) (hi, lo) rows_ok h
  rwa [Nat.zero_add] at this
theorem row_get {p : Int} (h1 : p < 348) : ∃ hi lo, Go.Pinned.pow10Rows[rowAt p]? = some (hi, lo) := by
  have hl : rowAt p < Go.Pinned.pow10Rows.length := by rw [rows_len]; unfold rowAt; omega
  exact ⟨_, _, List.getElem?_eq_getElem hl⟩

/-- The common factor of the interval's ends. -/
def qOf (e : Int) : Nat := 2 ^ e.toNat * T4
set_option exponentiation.threshold 3000 in
theorem q_link {E p : Int} (k : Nat) (h0 : 0 ≤ E + 1074 - k) (hp : p ≤ 400) :
    qOf (E + 1074 - k) * (2 * 2 ^ k * rM E p) = U10 big (400 - p).toNat * rN E p := by
  unfold qOf rM rN U10 big T4
  have e1 : 2 ^ (E + 1074 - k).toNat * (2 * 2 ^ k) * 2 ^ (-E).toNat = 2 ^ 1075 * 2 ^ E.toNat := by
    have : (2 : Nat) * 2 ^ k = 2 ^ (k + 1) := by rw [Nat.pow_succ, Nat.mul_comm]
    rw [this, ← Nat.pow_add, ← Nat.pow_add, ← Nat.pow_add]
    congr 1
    omega
  have e2 : (10 : Nat) ^ 400 * 10 ^ (-p).toNat = 10 ^ (400 - p).toNat * 10 ^ p.toNat := by
    rw [← Nat.pow_add, ← Nat.pow_add]
    congr 1
    omega
  generalize 2 ^ 1075 = b1 at *
  generalize (10 : Nat) ^ 400 = b2 at *
  generalize 2 ^ (E + 1074 - k).toNat = a1 at *
  generalize 2 ^ k = a2 at *
  generalize 2 ^ (-E).toNat = a3 at *
  generalize 2 ^ E.toNat = a4 at *
  generalize 10 ^ (-p).toNat = a5 at *
  generalize 10 ^ (400 - p).toNat = a6 at *
  generalize 10 ^ p.toNat = a7 at *
  calc a1 * b2 * (2 * a2 * (a3 * a5)) = (a1 * (2 * a2) * a3) * (b2 * a5) := by grind
    _ = (b1 * a4) * (a6 * a7) := by rw [e1, e2]
    _ = _ := by grind
/-- The program's answer, from what it scales. -/
def ansD (dmin dmax rnd : Nat) : Nat := if dmin ≤ dmax / 10 * 10 then dmax / 10 else if dmin < dmax then rnd else dmin
def ansP (dmin dmax : Nat) (p : Int) : Int := if dmin ≤ dmax / 10 * 10 then 1 - p else -p
/-- What is to be known of the program's digits d and power of ten k. -/
def ShortOf (r d : Nat) (k : Int) : Prop := 0 < d ∧ d < 100000000000000000 ∧ -348 ≤ k ∧ k ≤ 349 ∧ ∀ (cc i : Nat), d = cc * 10 ^ i → cc % 10 ≠ 0 → Shr r cc (k + i)
theorem ans_short {r dmin dmax rnd : Nat} {p : Int} {c : Bool} {L X H : Nat} (hp0 : -348 ≤ p) (hp1 : p < 348)
    (hc : c = decide (r % 2 = 0)) (hL : (unt (r - 1) + unt r) * T4 = L) (hX : 2 * unt r * T4 = X) (hH : (unt r + unt (r + 1)) * T4 = H)
    (hlaw : ∀ D cc i, D = cc * 10 ^ i → cc % 10 ≠ 0 → (dmin ≤ dmax / 10 * 10 → D = dmax / 10 → Sh c L X H big cc ((400 - p).toNat + 1 + i)) ∧
      (dmax / 10 * 10 < dmin → D = (if dmin < dmax then rnd else dmin) → i = 0 ∧ Sh c L X H big D (400 - p).toNat))
    (hpos : 0 < dmin) (hbd : dmax < 100000000000000000) (hne : dmin ≤ dmax) (hrb : dmin < dmax → dmin ≤ rnd ∧ rnd ≤ dmax) :
    ShortOf r (ansD dmin dmax rnd) (ansP dmin dmax p) := by
  unfold ansD ansP ShortOf Shr
  rw [hL, hX, hH, ← hc]
  by_cases h : dmin ≤ dmax / 10 * 10
  · rw [if_pos h, if_pos h]
    refine ⟨by omega, by omega, by omega, by omega, fun cc i e hcc => ⟨by omega, ?_⟩⟩
    have := (hlaw _ cc i e hcc).1 h rfl
    rw [show (1 - p + (i : Int) + 400).toNat = (400 - p).toNat + 1 + i by omega]
    exact this
  · rw [if_neg h, if_neg h]
    refine ⟨?_, ?_, by omega, by omega, fun cc i e hcc => ⟨by omega, ?_⟩⟩
    · split
      · have := hrb (by assumption); omega
      · exact hpos
    · split
      · have := hrb (by assumption); omega
      · omega
    · obtain ⟨hi, this⟩ := (hlaw _ cc i e hcc).2 (by omega) rfl
      subst hi
      rw [Nat.pow_zero, Nat.mul_one] at e
      rw [← e, show (-p + ((0 : Nat) : Int) + 400).toNat = (400 - p).toNat by omega]
      exact this
end Go.Proofs.YtbcolebomgcphaaGreatFmt

namespace Go.Proofs.YtbcolebomgcphaaGreatFmt

theorem unr_lt {A M b : Nat} (h : A < b * M) : unr A M ≤ b := by
  have hM : 0 < M := by
    rcases Nat.eq_zero_or_pos M with g | g
    · subst g; omega
    · exact g
  have := (Nat.div_lt_iff_lt_mul hM).2 h
  unfold unr
  split <;> omega
theorem rN_twenty {E p : Int} {k : Nat} (h : k * rN E p < 10 * k * rM E p) : rN (E + 1) p < 20 * rM (E + 1) p := by
  have hr := rNM E p 1
  have p0 := rM_pos E p
  have p1 := rM_pos (E + 1) p
  have hk : 0 < k := by
    rcases Nat.eq_zero_or_pos k with g | g
    · subst g; omega
    · exact g
  have h1 : k * rN E p < k * (10 * rM E p) := by rw [← Nat.mul_assoc, Nat.mul_comm k 10]; exact h
  have h2 := Nat.lt_of_mul_lt_mul_left h1
  have h3 := (Nat.mul_lt_mul_right (a := 2 * rM (E + 1) p) (by omega)).2 h2
  refine Nat.lt_of_mul_lt_mul_right (a := rM E p) ?_
  rw [show (E + ((1 : Nat) : Int)) = E + 1 from rfl] at hr
  rw [← hr]
  have e1 : rN E p * 2 ^ 1 * rM (E + 1) p = rN E p * (2 * rM (E + 1) p) := by rw [Nat.pow_one, Nat.mul_assoc]
  have e2 : 20 * rM (E + 1) p * rM E p = 10 * rM E p * (2 * rM (E + 1) p) := by grind
  omega
theorem unr_pos {A M : Nat} (_ : 0 < M) (hA : 0 < A) : 1 ≤ unr A M := by
  unfold unr
  split
  · rename_i h
    have := Nat.div_add_mod A M
    rcases Nat.eq_zero_or_pos (A / M) with g | g
    · rw [g, h] at this; omega
    · exact g
  · omega
theorem dmax_four {c : Bool} {u : Nat} (h : 0 < dmaxOf c u) : 4 ≤ u := by
  unfold dmaxOf at h
  split at h <;> omega
/-- A word that is no power of two (or the least): the program's answer is the shortest. -/
theorem reg_ans {r z s hi lo m : Nat} {E p : Int} (hr0 : 0 < r) (hr : r < 9218868437227405312) (hns : ¬ (mant r = 4503599627370496 ∧ -1074 < expo r)) (hm : mant r = m) (hE : expo r = E) (hp : -l10 E = p)
    (hz0 : 11 ≤ z) (hz : m * 2 ^ z + 2 ^ z ≤ 18446744073709551616) (hrow : Go.Pinned.pow10Rows[rowAt p]? = some (hi, lo)) (hs : (s : Int) = z - E - l2 p - 3) :
    usc ((2 * m - 1) * 2 ^ (z - 1)) hi lo s < 1152921504606846976 ∧ usc ((2 * m + 1) * 2 ^ (z - 1)) hi lo s < 1152921504606846976 ∧ usc (2 * m * 2 ^ (z - 1)) hi lo s < 1152921504606846976 ∧ 1 ≤ usc ((2 * m - 1) * 2 ^ (z - 1)) hi lo s ∧ 4 ≤ usc ((2 * m + 1) * 2 ^ (z - 1)) hi lo s ∧
    ShortOf r (ansD (dminOf (decide (r % 2 = 0)) (usc ((2 * m - 1) * 2 ^ (z - 1)) hi lo s)) (dmaxOf (decide (r % 2 = 0)) (usc ((2 * m + 1) * 2 ^ (z - 1)) hi lo s)) (rndOf (usc (2 * m * 2 ^ (z - 1)) hi lo s)))
      (ansP (dminOf (decide (r % 2 = 0)) (usc ((2 * m - 1) * 2 ^ (z - 1)) hi lo s)) (dmaxOf (decide (r % 2 = 0)) (usc ((2 * m + 1) * 2 ^ (z - 1)) hi lo s)) p) := by
  have hE0 := expo_ge r
  have hE1 := expo_le hr
  have hm0 := mant_pos hr0
  have hm1 := mant_lt r
  have hun := unt_next r
  have hup := unt_prev hr0 hns
  have hu0 := unt_eq r
  rw [hE] at hE0 hE1 hun hup hu0
  rw [hm] at hm0 hm1 hun hup hu0
  obtain ⟨c1, c2, c3, c4, c5, c6, c7⟩ := chk_reg hE0 hE1
  rw [hp] at c1 c2 c3 c4 c5 c6 c7
  have hro := row_ok hrow
  have hse : (s : Int) = -(E - z + l2 p + 3) := by omega
  have ht : 2 ^ ((8 - E - l2 p).toNat + 64) ≤ 2 ^ s * 18446744073709551616 := by
    rw [show (18446744073709551616 : Nat) = 2 ^ 64 from rfl, ← Nat.pow_add]
    exact Nat.pow_le_pow_right (by decide) (by omega)
  have e2k : E - z + 2 + ((z - 1 : Nat) : Int) = E + 1 := by omega
  have hzz : 2 ^ z = 2 * 2 ^ (z - 1) := by
    obtain ⟨k, rfl⟩ : ∃ k, z = k + 1 := ⟨z - 1, by omega⟩
    rw [Nat.pow_succ, Nat.mul_comm]
    rfl
  have hxb : ∀ X, X ≤ 2 * m + 1 → X * 2 ^ (z - 1) < 18446744073709551616 := by
    intro X hX
    have h1 : X * 2 ^ (z - 1) ≤ (2 * m + 1) * 2 ^ (z - 1) := Nat.mul_le_mul_right _ hX
    have h2 : m * 2 ^ z + 2 ^ z = (2 * m + 1) * 2 ^ (z - 1) + 2 ^ (z - 1) := by rw [hzz]; grind
    have := Nat.two_pow_pos (z - 1)
    omega
  have hu : ∀ X, 0 < X → X ≤ 2 * m + 1 → usc (X * 2 ^ (z - 1)) hi lo s = unr (X * rN (E + 1) p) (rM (E + 1) p) := by
    intro X h1 h2
    have := usc_at (e := E - z) (t := (8 - E - l2 p).toNat) (X := X) (k := z - 1) hro c1 hse h1 (hxb X h2) ht (by rw [e2k]; exact c7 X (by omega))
    rwa [e2k] at this
  have pM := rM_pos (E + 1) p
  have pN := rN_pos (E + 1) p
  have n20 : rN (E + 1) p < 20 * rM (E + 1) p := rN_twenty (k := 1) (by omega)
  have hb : ∀ X, X ≤ 2 * m + 1 → unr (X * rN (E + 1) p) (rM (E + 1) p) < 1152921504606846976 := by
    intro X hX
    have h1 : X * rN (E + 1) p ≤ (2 * m + 1) * rN (E + 1) p := Nat.mul_le_mul_right _ hX
    have h2 : (2 * m + 1) * rN (E + 1) p ≤ (2 * m + 1) * (20 * rM (E + 1) p) := Nat.mul_le_mul_left _ (Nat.le_of_lt n20)
    have h3 : (2 * m + 1) * (20 * rM (E + 1) p) = (20 * (2 * m + 1)) * rM (E + 1) p := by grind
    have := unr_lt (A := X * rN (E + 1) p) (M := rM (E + 1) p) (b := 20 * (2 * m + 1) + 1) (by rw [Nat.add_mul]; omega)
    omega
  rw [hu _ (by omega) (by omega), hu _ (by omega) (by omega), hu _ (by omega) (by omega)]
  refine ⟨hb _ (by omega), hb _ (by omega), hb _ (by omega), ?_⟩
  -- the interval's ends
  have hQ : qOf (E + 1074) * (4 * rM (E + 1) p) = U10 big (400 - p).toNat * rN (E + 1) p := by
    have := q_link (E := E + 1) (p := p) 1 (by omega) (by omega)
    rw [show E + 1 + 1074 - ((1 : Nat) : Int) = E + 1074 by omega] at this
    rw [← this, Nat.pow_one]
  have hQ2 : qOf (E + 1074) * (2 * rM E p) = U10 big (400 - p).toNat * rN E p := by
    have := q_link (E := E) (p := p) 0 (by omega) (by omega)
    rw [show E + 1074 - ((0 : Nat) : Int) = E + 1074 by omega] at this
    rw [← this, Nat.pow_zero, Nat.mul_one]
  have p0 := rM_pos E p
  obtain ⟨U, hU⟩ : ∃ U, U10 big (400 - p).toNat = U := ⟨_, rfl⟩
  have hQU1 : U ≤ 2 * qOf (E + 1074) := by
    refine (Nat.mul_le_mul_right_iff p0).1 ?_
    have h1 := Nat.mul_le_mul_left U c5
    rw [hU] at hQ2
    rw [← hQ2] at h1
    rw [show 2 * qOf (E + 1074) * rM E p = qOf (E + 1074) * (2 * rM E p) by grind]
    exact h1
  have hUpos : 0 < U := by rw [← hU]; exact U10_pos big_pos _
  have hQU2 : 2 * qOf (E + 1074) < 10 * U := by
    refine Nat.lt_of_mul_lt_mul_right (a := rM E p) ?_
    have h1 := (Nat.mul_lt_mul_left (a := U) hUpos).2 c6
    rw [hU] at hQ2
    rw [← hQ2] at h1
    rw [show 2 * qOf (E + 1074) * rM E p = qOf (E + 1074) * (2 * rM E p) by grind, show 10 * U * rM E p = U * (10 * rM E p) by grind]
    exact h1
  rw [← hU] at hQU1 hQU2
  obtain ⟨⟨f1, f2, f3, f4⟩, f5⟩ := short_reg (c := decide (r % 2 = 0)) (m := m) pM big_pos pN hQ hm0 hQU1 hQU2
  have hLe : (unt (r - 1) + unt r) * T4 = (2 * m - 1) * qOf (E + 1074) := by
    rw [hup, hu0, ← Nat.add_mul]
    unfold qOf
    rw [show m - 1 + m = 2 * m - 1 by omega]
    exact Nat.mul_assoc _ _ _
  have hXe : 2 * unt r * T4 = 2 * m * qOf (E + 1074) := by
    rw [hu0]
    unfold qOf
    rw [← Nat.mul_assoc 2 m]
    exact Nat.mul_assoc _ _ _
  have hHe : (unt r + unt (r + 1)) * T4 = (2 * m + 1) * qOf (E + 1074) := by
    rw [hun, hu0, ← Nat.add_mul]
    unfold qOf
    rw [show m + (m + 1) = 2 * m + 1 by omega]
    exact Nat.mul_assoc _ _ _
  have hbd : dmaxOf (decide (r % 2 = 0)) (unr ((2 * m + 1) * rN (E + 1) p) (rM (E + 1) p)) < 100000000000000000 := by
    clear hLe hXe hHe hQ hQ2 f5
    omega
  refine ⟨unr_pos pM (Nat.mul_pos (by omega) pN), ?_, ans_short c1 c2 rfl hLe hXe hHe f5 f1 hbd f2 f4⟩
  exact dmax_four (Nat.lt_of_lt_of_le f1 f2)
/-- A power of two. -/
theorem skw_ans {r s hi lo : Nat} {E p : Int} (hr : r < 9218868437227405312) (hns : mant r = 4503599627370496 ∧ -1074 < expo r) (hE : expo r = E) (hp : -skw E = p)
    (hrow : Go.Pinned.pow10Rows[rowAt p]? = some (hi, lo)) (hs : (s : Int) = 8 - E - l2 p) :
    usc 9223372036854775296 hi lo s < 1152921504606846976 ∧ usc 9223372036854776832 hi lo s < 1152921504606846976 ∧ usc 9223372036854775808 hi lo s < 1152921504606846976 ∧ 1 ≤ usc 9223372036854775296 hi lo s ∧ 4 ≤ usc 9223372036854776832 hi lo s ∧
    ShortOf r (ansD (dminOf true (usc 9223372036854775296 hi lo s)) (dmaxOf true (usc 9223372036854776832 hi lo s)) (rndOf (usc 9223372036854775808 hi lo s)))
      (ansP (dminOf true (usc 9223372036854775296 hi lo s)) (dmaxOf true (usc 9223372036854776832 hi lo s)) p) := by
  have hE0 := expo_ge r
  have hE1 := expo_le hr
  have hE2 := hns.2
  rw [hE] at hE0 hE1 hE2
  obtain ⟨c1, c2, c3, c4, c5, c6, c7, c8, c9⟩ := chk_skw hE0 hE1
  rw [hp] at c1 c2 c3 c4 c5 c6 c7 c8 c9
  have hro := row_ok hrow
  have hse : (s : Int) = -(E - 11 + l2 p + 3) := by omega
  have ht : 2 ^ ((8 - E - l2 p).toNat + 64) ≤ 2 ^ s * 18446744073709551616 := by
    rw [show (18446744073709551616 : Nat) = 2 ^ 64 from rfl, ← Nat.pow_add]
    exact Nat.pow_le_pow_right (by decide) (by omega)
  have e2k : E - 11 + 2 + ((9 : Nat) : Int) = E := by omega
  have hu : ∀ X x, X * 2 ^ 9 = x → 0 < X → x < 18446744073709551616 → Gap (X * rN E p) (rM E p) (2 ^ ((8 - E - l2 p).toNat + 64)) → usc x hi lo s = unr (X * rN E p) (rM E p) := by
    intro X x h0 h1 h2 h3
    subst h0
    have := usc_at (e := E - 11) (t := (8 - E - l2 p).toNat) (X := X) (k := 9) hro c1 hse h1 h2 ht (by rw [e2k]; exact h3)
    rwa [e2k] at this
  have pM := rM_pos E p
  have pN := rN_pos E p
  have u1 : usc 9223372036854775296 hi lo s = unr (18014398509481983 * rN E p) (rM E p) := hu 18014398509481983 _ (by simp) (by omega) (by omega) c7
  have u2 : usc 9223372036854776832 hi lo s = unr (18014398509481986 * rN E p) (rM E p) := hu 18014398509481986 _ (by simp) (by omega) (by omega) c9
  have u0 : usc 9223372036854775808 hi lo s = unr (18014398509481984 * rN E p) (rM E p) := hu 18014398509481984 _ (by simp) (by omega) (by omega) c8
  have hb : ∀ X, X ≤ 18014398509481986 → unr (X * rN E p) (rM E p) < 1152921504606846976 := by
    intro X hX
    have h1 : X * rN E p ≤ 18014398509481986 * rN E p := Nat.mul_le_mul_right _ hX
    have := unr_lt (A := X * rN E p) (M := rM E p) (b := 14 * 18014398509481986 + 1) (by omega)
    omega
  rw [u1, u2, u0]
  refine ⟨hb _ (by omega), hb _ (by omega), hb _ (by omega), ?_⟩
  have hQ : qOf (E + 1073) * (4 * rM E p) = U10 big (400 - p).toNat * rN E p := by
    have := q_link (E := E) (p := p) 1 (by omega) (by omega)
    rw [show E + 1074 - ((1 : Nat) : Int) = E + 1073 by omega] at this
    rw [← this, Nat.pow_one]
  obtain ⟨U, hU⟩ : ∃ U, U10 big (400 - p).toNat = U := ⟨_, rfl⟩
  have hUpos : 0 < U := by rw [← hU]; exact U10_pos big_pos _
  have hQU1 : U ≤ 3 * qOf (E + 1073) := by
    refine (Nat.mul_le_mul_right_iff (show 0 < 4 * rM E p by omega)).1 ?_
    have h1 := Nat.mul_le_mul_left U c5
    rw [hU] at hQ
    have e : U * (3 * rN E p) = 3 * qOf (E + 1073) * (4 * rM E p) := by rw [Nat.mul_assoc 3, hQ]; grind
    rw [← e]
    exact h1
  have hQU2 : 3 * qOf (E + 1073) < 10 * U := by
    refine Nat.lt_of_mul_lt_mul_right (a := 4 * rM E p) ?_
    have h1 := (Nat.mul_lt_mul_left (a := U) hUpos).2 c6
    rw [hU] at hQ
    have e : U * (3 * rN E p) = 3 * qOf (E + 1073) * (4 * rM E p) := by rw [Nat.mul_assoc 3, hQ]; grind
    rw [← e, show 10 * U * (4 * rM E p) = U * (40 * rM E p) by grind]
    exact h1
  rw [← hU] at hQU1 hQU2
  obtain ⟨⟨f1, f2, f3, f4⟩, f5⟩ := short_skew (x0 := 18014398509481984) pM big_pos pN hQ (by omega) (by omega) hQU1 hQU2
  have n1 : (18014398509481984 - 1 : Nat) = 18014398509481983 := by simp
  have n2 : (18014398509481984 + 2 : Nat) = 18014398509481986 := by simp
  rw [n1] at f1
  rw [n1, n2] at f2 f4 f5
  rw [n2] at f3
  clear n1 n2
  have hpar : true = decide (r % 2 = 0) := by
    have := par_mant r
    rw [hns.1] at this
    rw [← this]
    rfl
  obtain ⟨z, hz⟩ : ∃ z, (E + 1073).toNat = z := ⟨_, rfl⟩
  have hz1 : (E + 1074).toNat = z + 1 := by omega
  have hbd : dmaxOf true (unr (18014398509481986 * rN E p) (rM E p)) < 100000000000000000 := by
    clear hQ f5
    omega
  have hun := unt_next r
  have hup := unt_skew hns
  have hu0 := unt_eq r
  rw [hE] at hun hup hu0
  rw [hns.1] at hun hup hu0
  rw [hz1, Nat.pow_succ] at hun hup hu0
  obtain ⟨y, hy⟩ : ∃ y, 2 ^ z = y := ⟨_, rfl⟩
  have hqy : qOf (E + 1073) = y * T4 := by unfold qOf; rw [hz, hy]
  rw [hy] at hun hup hu0
  clear hz hz1 hE0 hE1 hE2 hQ hQU1 hQU2 f3 ht c3 c4 c5 c6 c7 c8 c9 hse hs hb hu hUpos hU u0 u1 u2 hro
  obtain ⟨a, ha⟩ : ∃ a, unt r = a := ⟨_, rfl⟩
  obtain ⟨b, hb⟩ : ∃ b, unt (r - 1) = b := ⟨_, rfl⟩
  obtain ⟨d, hd⟩ : ∃ d, unt (r + 1) = d := ⟨_, rfl⟩
  rw [ha] at hu0
  rw [hb] at hup
  rw [hd] at hun
  have ea : a = 9007199254740992 * y := by clear hpar hup hun hqy hbd f2 f4 f5; omega
  have eb : b = 9007199254740991 * y := by clear hpar hu0 hun hqy hbd f2 f4 f5; omega
  have ed : d = 9007199254740994 * y := by clear hpar hu0 hup hqy hbd f2 f4 f5; omega
  have hLe : (unt (r - 1) + unt r) * T4 = 18014398509481983 * qOf (E + 1073) := by
    rw [hqy, ← Nat.mul_assoc, ha, hb, ea, eb, ← Nat.add_mul]
  have hXe : 2 * unt r * T4 = 18014398509481984 * qOf (E + 1073) := by
    rw [hqy, ← Nat.mul_assoc, ha, ea, ← Nat.mul_assoc]
  have hHe : (unt r + unt (r + 1)) * T4 = 18014398509481986 * qOf (E + 1073) := by
    rw [hqy, ← Nat.mul_assoc, ha, hd, ea, ed, ← Nat.add_mul]
  exact ⟨unr_pos pM (Nat.mul_pos (by omega) pN), dmax_four (Nat.lt_of_lt_of_le f1 f2), ans_short c1 c2 hpar hLe hXe hHe f5 f1 hbd f2 f4⟩
end Go.Proofs.YtbcolebomgcphaaGreatFmt

namespace Go.Proofs.YtbcolebomgcphaaGreatFmt
open Go.RowKit

set_option maxRecDepth 100000 in
theorem log10pow2_any (x : Int) (w : World) (h0 : -100000 ≤ x) (h1 : x ≤ 100000) : Calls Tryz.prog 121 #[.int .i64 x] w fun e w' => e = .returned (.int .i64 (l10 x)) ∧ w = w' := by
  unfold l10
  go_enter Tryz.func121, Tryz.ntmps121
  go_wp2
  go_ret
  exact ⟨rfl, rfl⟩
set_option maxRecDepth 100000 in
theorem log2pow10_any (x : Int) (w : World) (h0 : -100000 ≤ x) (h1 : x ≤ 100000) : Calls Tryz.prog 156 #[.int .i64 x] w fun e w' => e = .returned (.int .i64 (l2 x)) ∧ w = w' := by
  unfold l2
  go_enter Tryz.func156, Tryz.ntmps156
  go_wp2
  go_ret
  exact ⟨rfl, rfl⟩
set_option maxRecDepth 100000 in
theorem skewed_any (x : Int) (w : World) (h0 : -100000 ≤ x) (h1 : x ≤ 100000) : Calls Tryz.prog 154 #[.int .i64 x] w fun e w' => e = .returned (.int .i64 (skw x)) ∧ w = w' := by
  unfold skw
  go_enter Tryz.func154, Tryz.ntmps154
  go_wp2
  go_ret
  exact ⟨rfl, rfl⟩
theorem bool2u_t (w : World) : Calls Tryz.prog 194 #[.bool true] w fun e w' => e = .returned (.int .u64 1) ∧ w' = w := by
  go_enter Tryz.func194, Tryz.ntmps194
  go_wp2
  go_ret
  exact ⟨rfl, rfl⟩
theorem bool2u_f (w : World) : Calls Tryz.prog 194 #[.bool false] w fun e w' => e = .returned (.int .u64 0) ∧ w' = w := by
  go_enter Tryz.func194, Tryz.ntmps194
  go_wp2
  go_ret
  exact ⟨rfl, rfl⟩
theorem or_one (q : Nat) (h : q < 18446744073709551616) : bits .or .u64 (q : Int) 1 = ((q / 2 * 2 + 1 : Nat) : Int) := by
  have e := u64_or_nat q 1 h (by omega)
  have e2 : q ||| 1 = q / 2 * 2 + 1 := by
    have h1 : (q ||| 1) / 2 = q / 2 := by rw [Nat.or_div_two]; simp
    have h2 : (q ||| 1) % 2 = 1 := by rw [Nat.or_mod_two_eq_one]; right; rfl
    omega
  rw [e2] at e
  exact e
theorem or_zero (q : Nat) (h : q < 18446744073709551616) : bits .or .u64 (q : Int) 0 = (q : Int) := by
  have e := u64_or_nat q 0 h (by omega)
  rw [Nat.or_zero] at e
  exact e
theorem and_one (q : Int) (h0 : 0 ≤ q) (h : q < 18446744073709551616) : bits .and .u64 q 1 = q % 2 :=
  bits_mask .u64 64 (by decide) (fun n h0 h1 => IntWalk.u64_in n (by omega)) 1 (by decide) q h0 h
theorem u64_wrap (n : Int) (h0 : 0 ≤ n) (h1 : n < 18446744073709551616) : IntKind.u64.wrap n = n := IntWalk.u64_in n (by omega)
theorem u64_neg (n : Int) (h0 : -18446744073709551616 ≤ n) (h1 : n < 0) : IntKind.u64.wrap n = n + 18446744073709551616 := by
  simp [IntKind.wrap, IntKind.bits, IntKind.signed]; omega
set_option maxRecDepth 100000 in
theorem nudge_any (u : Nat) (d : Int) (w : World) (h : u < 1152921504606846976) (hu : 0 < u) (hd0 : -1 ≤ d) (hd1 : d ≤ 1) : Calls Tryz.prog 158 #[.int .u64 u, .int .i64 d] w fun e w' => e = .returned (.int .u64 ((u : Int) + d)) ∧ w = w' := by
  have e : IntKind.u64.wrap ((u : Int) + IntKind.u64.wrap d) = (u : Int) + d := by
    rcases Int.lt_or_le d 0 with g | g
    · rw [u64_neg d (by omega) g]
      simp only [IntKind.wrap, IntKind.bits, IntKind.signed]
      simp
      omega
    · rw [u64_wrap d g (by omega), u64_wrap _ (by omega) (by omega)]
  have HE := Lib.hid e
  clear e
  go_enter Tryz.func158, Tryz.ntmps158
  go_wp2
  go_ret
  rw [HE.out]
  exact ⟨rfl, rfl⟩
set_option maxRecDepth 100000 in
theorem ceil_any (u : Nat) (w : World) (h : u < 1152921504606846978) : Calls Tryz.prog 159 #[.int .u64 u] w fun e w' => e = .returned (.int .u64 (((u + 3) / 4 : Nat) : Int)) ∧ w = w' := by
  go_enter Tryz.func159, Tryz.ntmps159
  go_wp2
  go_ret
  exact ⟨ret_int (by omega), rfl⟩
set_option maxRecDepth 100000 in
theorem ufloor_any (u : Nat) (w : World) (h : u < 1152921504606846978) : Calls Tryz.prog 160 #[.int .u64 u] w fun e w' => e = .returned (.int .u64 ((u / 4 : Nat) : Int)) ∧ w = w' := by
  go_enter Tryz.func160, Tryz.ntmps160
  go_wp2
  go_ret
  exact ⟨ret_int (by omega), rfl⟩
set_option maxRecDepth 100000 in
theorem uround_any (u : Nat) (w : World) (h : u < 1152921504606846978) : Calls Tryz.prog 161 #[.int .u64 u] w fun e w' => e = .returned (.int .u64 (rndOf u : Nat)) ∧ w = w' := by
  have e1 := and_one ((u : Int) / 4) (by omega) (by omega)
  have e2 : IntKind.u64.wrap ((u : Int) + 1 + (u : Int) / 4 % 2) = (u : Int) + 1 + (u : Int) / 4 % 2 := u64_wrap _ (by omega) (by omega)
  go_enter Tryz.func161, Tryz.ntmps161
  go_wp2
  go_ret
  exact ⟨ret_int (by unfold rndOf; omega), rfl⟩

theorem mul_hi_le (x lo : Nat) (hx : x < 18446744073709551616) (hl : lo < 18446744073709551616) : x * lo / 18446744073709551616 + 2 ≤ 18446744073709551616 := by
  have h : x * lo ≤ 18446744073709551615 * 18446744073709551615 := Nat.mul_le_mul (by omega) (by omega)
  omega
theorem cast_shr (H s : Nat) : (H : Int) / 2 ^ s = ((H / 2 ^ s : Nat) : Int) := by
  rw [Int.natCast_ediv, Int.natCast_pow]
  rfl
theorem cast_shl (Q s : Nat) : (Q : Int) * 2 ^ s = ((Q * 2 ^ s : Nat) : Int) := by
  rw [Int.natCast_mul, Int.natCast_pow]
  rfl
set_option maxRecDepth 100000 in
set_option maxHeartbeats 1600000 in
theorem uscale_any (x hi lo s g : Nat) (w : World) (hx : x < 18446744073709551616) (hh : hi < 18446744073709551616) (hl : lo < 18446744073709551616) (hs : s < 64) (hH1 : 1 ≤ x * hi / 18446744073709551616)
    (k0 : w.cell? ⟨g, 0, none⟩ = some (.int .u64 hi)) (k1 : w.cell? ⟨g, 1, none⟩ = some (.int .u64 lo)) (k2 : w.cell? ⟨g, 2, none⟩ = some (.int .i64 s)) :
    Calls Tryz.prog 157 #[.int .u64 x, .pointer (some ⟨g, 0, none⟩)] w fun e w' => e = .returned (.int .u64 (usc x hi lo s : Nat)) ∧ ∃ q, w' = w.drewN q := by
  have c1 := Tryz.bits_Mul64 x hi hx hh w
  have c2 := Tryz.bits_Mul64 x lo hx hl
  have hD2b := mul_hi_le x lo hx hl
  have hDb : x * hi % 18446744073709551616 < 18446744073709551616 := Nat.mod_lt _ (by omega)
  have hHb : x * hi / 18446744073709551616 < 18446744073709551616 := by
    rw [Nat.div_lt_iff_lt_mul (by omega)]
    exact Nat.mul_lt_mul'' hx hh
  have husc : usc x hi lo s = usc x hi lo s := rfl
  conv at husc => rhs; unfold usc
  obtain ⟨H, hH⟩ : ∃ H, x * hi / 18446744073709551616 = H := ⟨_, rfl⟩
  obtain ⟨D, hD⟩ : ∃ D, x * hi % 18446744073709551616 = D := ⟨_, rfl⟩
  obtain ⟨D2, hD2⟩ : ∃ D2, x * lo / 18446744073709551616 = D2 := ⟨_, rfl⟩
  obtain ⟨L2, hL2⟩ : ∃ L2, x * lo % 18446744073709551616 = L2 := ⟨_, rfl⟩
  rw [hH] at hH1 hHb
  rw [hD] at hDb
  rw [hD2] at hD2b
  rw [hH, hD] at c1
  rw [hD2, hL2] at c2
  rw [hH, hD, hD2] at husc
  clear hH hD hD2 hL2
  have ms : bits .and .i64 (s : Int) 63 = (s : Int) := by
    have e : bits .and .i64 (s : Int) 63 = (s : Int) % 64 := bits_mask .i64 63 (by decide) (fun n h0 h1 => IntWalk.i64_in n (by omega)) 6 (by decide) (s : Int) (by omega) (by omega)
    rw [e]; omega
  have hQ := cast_shr H s
  obtain ⟨Q, hQe⟩ : ∃ Q, H / 2 ^ s = Q := ⟨_, rfl⟩
  rw [hQe] at hQ husc
  have hR := cast_shl Q s
  have hQH : Q ≤ H := by rw [← hQe]; exact Nat.div_le_self _ _
  have hR0 : Q * 2 ^ s + H % 2 ^ s = H := by rw [← hQe, Nat.mul_comm]; exact Nat.div_add_mod _ _
  obtain ⟨R, hRe⟩ : ∃ R, Q * 2 ^ s = R := ⟨_, rfl⟩
  rw [hRe] at hR hR0
  have hwR : IntKind.u64.wrap (R : Int) = (R : Int) := u64_wrap _ (by omega) (by omega)
  have o1 := or_one Q (by omega)
  obtain ⟨V, hV⟩ : ∃ V, usc x hi lo s = V := ⟨_, rfl⟩
  rw [hV] at husc ⊢
  by_cases hz : H % 2 ^ s = 0
  · rw [if_pos hz] at husc
    have hRH : R = H := by omega
    have ht : ((R : Int) != (H : Int)) = false := by simp; omega
    by_cases hlt : D < D2
    · rw [if_pos hlt] at husc
      have hdt : decide ((D : Int) < (D2 : Int)) = true := decide_eq_true (by omega)
      have hdt2 : decide (D < D2) = true := decide_eq_true hlt
      have hsub : IntKind.u64.wrap ((H : Int) - 1) = ((H - 1 : Nat) : Int) := by rw [u64_wrap _ (by omega) (by omega)]; omega
      have hQ1 := cast_shr (H - 1) s
      obtain ⟨Q1, hQ1e⟩ : ∃ Q1, (H - 1) / 2 ^ s = Q1 := ⟨_, rfl⟩
      have hQ1b : Q1 ≤ H - 1 := by rw [← hQ1e]; exact Nat.div_le_self _ _
      rw [hQ1e] at hQ1 husc
      obtain ⟨H1, hH1e⟩ : ∃ H1, H - 1 = H1 := ⟨_, rfl⟩
      rw [hH1e] at hsub hQ1
      have hdd : IntKind.u64.wrap ((D : Int) - (D2 : Int)) = (D : Int) - D2 + 18446744073709551616 := u64_neg _ (by omega) (by omega)
      have hgt : decide ((1 : Int) < (D : Int) - D2 + 18446744073709551616) = true := decide_eq_true (by omega)
      have o2 := or_one Q1 (by omega)
      have HU := Lib.hid husc
      clear husc hV hz hR0 hRe hQe hQ1e hH1e hlt hRH
      go_enter Tryz.func157, Tryz.ntmps157
      go_wp2_with fail
      refine c1.mono ?_
      rintro e1 w1 ⟨rfl, rfl⟩
      go_wp2_with fail
      refine (c2 _).mono ?_
      rintro e2 w2 ⟨rfl, rfl⟩
      go_wp2_with fail
      refine (bool2u_t _).mono ?_
      rintro e3 w3 ⟨rfl, rfl⟩
      go_wp2
      go_quiet ((go_at_call 194; exact Calls.quiet_of_same (bool2u_t _)))
      go_wp2
      go_ret
      exact ⟨ret_int (by (rw [HU.out]) <;> first | assumption | omega | rfl), _, rfl⟩
    · rw [if_neg hlt] at husc
      have hdt : decide ((D : Int) < (D2 : Int)) = false := decide_eq_false (by omega)
      have hdt2 : decide (D < D2) = false := decide_eq_false hlt
      have hsub : IntKind.u64.wrap ((H : Int) - 0) = (H : Int) := by rw [Int.sub_zero]; exact u64_wrap _ (by omega) (by omega)
      have hdd : IntKind.u64.wrap ((D : Int) - (D2 : Int)) = (D : Int) - D2 := u64_wrap _ (by omega) (by omega)
      by_cases hle : D - D2 ≤ 1
      · rw [if_pos hle] at husc
        have hgt : decide ((1 : Int) < (D : Int) - D2) = false := decide_eq_false (by omega)
        have o2 := or_zero Q (by omega)
        have HU := Lib.hid husc
        clear husc hV hz hR0 hRe hQe hlt hRH hle
        go_enter Tryz.func157, Tryz.ntmps157
        go_wp2_with fail
        refine c1.mono ?_
        rintro e1 w1 ⟨rfl, rfl⟩
        go_wp2_with fail
        refine (c2 _).mono ?_
        rintro e2 w2 ⟨rfl, rfl⟩
        go_wp2_with fail
        refine (bool2u_f _).mono ?_
        rintro e3 w3 ⟨rfl, rfl⟩
        go_wp2
        go_quiet ((go_at_call 194; exact Calls.quiet_of_same (bool2u_f _)))
        go_wp2
        go_ret
        exact ⟨ret_int (by (rw [HU.out]) <;> first | assumption | omega | rfl), _, rfl⟩
      · rw [if_neg hle] at husc
        have hgt : decide ((1 : Int) < (D : Int) - D2) = true := decide_eq_true (by omega)
        have HU := Lib.hid husc
        clear husc hV hz hR0 hRe hQe hlt hRH hle
        go_enter Tryz.func157, Tryz.ntmps157
        go_wp2_with fail
        refine c1.mono ?_
        rintro e1 w1 ⟨rfl, rfl⟩
        go_wp2_with fail
        refine (c2 _).mono ?_
        rintro e2 w2 ⟨rfl, rfl⟩
        go_wp2_with fail
        refine (bool2u_f _).mono ?_
        rintro e3 w3 ⟨rfl, rfl⟩
        go_wp2
        go_quiet ((go_at_call 194; exact Calls.quiet_of_same (bool2u_t _)))
        go_wp2
        go_ret
        exact ⟨ret_int (by (rw [HU.out]) <;> first | assumption | omega | rfl), _, rfl⟩
  · rw [if_neg hz] at husc
    have ht : ((R : Int) != (H : Int)) = true := by simp; omega
    have HU := Lib.hid husc
    clear husc hV hz hR0 hRe hQe
    go_enter Tryz.func157, Tryz.ntmps157
    go_wp2_with fail
    refine c1.mono ?_
    rintro e1 w1 ⟨rfl, rfl⟩
    go_wp2
    go_ret
    exact ⟨ret_int (by (rw [HU.out]) <;> first | assumption | omega | rfl), 0, rfl⟩
end Go.Proofs.YtbcolebomgcphaaGreatFmt
