/- The program's search finds the shortest decimal number of every word. Each lemma's conditions stand in its own statement. -/
import Derived.Test.YtmhbkilidpbenaaGreatDoorZf
namespace Go.Proofs.YtmhbkilidpbenaaGreatDoor

theorem unr_lt {A M b : Nat} (h : A < b * M) : unr A M ≤ b := by
  have hM : 0 < M := by
    rcases Nat.eq_zero_or_pos M with g | g
    · subst g; omega
    · exact g
  have := (Nat.div_lt_iff_lt_mul hM).2 h
  unfold unr
  split <;> omega
theorem rN_twenty {E p : Int} {k : Nat} (h : k * rN E p < 10 * k * rM E p) : rN (E + 1) p < 20 * rM (E + 1) p := by
  have hr := rNM E p 1
  have p0 := rM_pos E p
  have p1 := rM_pos (E + 1) p
  have hk : 0 < k := by
    rcases Nat.eq_zero_or_pos k with g | g
    · subst g; omega
    · exact g
  have h1 : k * rN E p < k * (10 * rM E p) := by rw [← Nat.mul_assoc, Nat.mul_comm k 10]; exact h
  have h2 := Nat.lt_of_mul_lt_mul_left h1
  have h3 := (Nat.mul_lt_mul_right (a := 2 * rM (E + 1) p) (by omega)).2 h2
  refine Nat.lt_of_mul_lt_mul_right (a := rM E p) ?_
  rw [show (E + ((1 : Nat) : Int)) = E + 1 from rfl] at hr
  rw [← hr]
  have e1 : rN E p * 2 ^ 1 * rM (E + 1) p = rN E p * (2 * rM (E + 1) p) := by rw [Nat.pow_one, Nat.mul_assoc]
  have e2 : 20 * rM (E + 1) p * rM E p = 10 * rM E p * (2 * rM (E + 1) p) := by grind
  omega
theorem unr_pos {A M : Nat} (_ : 0 < M) (hA : 0 < A) : 1 ≤ unr A M := by
  unfold unr
  split
  · rename_i h
    have := Nat.div_add_mod A M
    rcases Nat.eq_zero_or_pos (A / M) with g | g
    · rw [g, h] at this; omega
    · exact g
  · omega
theorem dmax_four {c : Bool} {u : Nat} (h : 0 < dmaxOf c u) : 4 ≤ u := by
  unfold dmaxOf at h
  split at h <;> omega
/-- A word that is no power of two (or the least): the program's answer is the shortest. -/
theorem reg_ans {r z s hi lo m : Nat} {E p : Int} (hr0 : 0 < r) (hr : r < 9218868437227405312) (hns : ¬ (mant r = 4503599627370496 ∧ -1074 < expo r)) (hm : mant r = m) (hE : expo r = E) (hp : -l10 E = p)
    (hz0 : 11 ≤ z) (hz : m * 2 ^ z + 2 ^ z ≤ 18446744073709551616) (hrow : Go.Pinned.pow10Rows[rowAt p]? = some (hi, lo)) (hs : (s : Int) = z - E - l2 p - 3) :
    usc ((2 * m - 1) * 2 ^ (z - 1)) hi lo s < 1152921504606846976 ∧ usc ((2 * m + 1) * 2 ^ (z - 1)) hi lo s < 1152921504606846976 ∧ usc (2 * m * 2 ^ (z - 1)) hi lo s < 1152921504606846976 ∧ 1 ≤ usc ((2 * m - 1) * 2 ^ (z - 1)) hi lo s ∧ 4 ≤ usc ((2 * m + 1) * 2 ^ (z - 1)) hi lo s ∧
    ShortOf r (ansD (dminOf (decide (r % 2 = 0)) (usc ((2 * m - 1) * 2 ^ (z - 1)) hi lo s)) (dmaxOf (decide (r % 2 = 0)) (usc ((2 * m + 1) * 2 ^ (z - 1)) hi lo s)) (rndOf (usc (2 * m * 2 ^ (z - 1)) hi lo s)))
      (ansP (dminOf (decide (r % 2 = 0)) (usc ((2 * m - 1) * 2 ^ (z - 1)) hi lo s)) (dmaxOf (decide (r % 2 = 0)) (usc ((2 * m + 1) * 2 ^ (z - 1)) hi lo s)) p) := by
  have hE0 := expo_ge r
  have hE1 := expo_le hr
  have hm0 := mant_pos hr0
  have hm1 := mant_lt r
  have hun := unt_next r
  have hup := unt_prev hr0 hns
  have hu0 := unt_eq r
  rw [hE] at hE0 hE1 hun hup hu0
  rw [hm] at hm0 hm1 hun hup hu0
  obtain ⟨c1, c2, c3, c4, c5, c6, c7⟩ := chk_reg hE0 hE1
  rw [hp] at c1 c2 c3 c4 c5 c6 c7
  have hro := row_ok hrow
  have hse : (s : Int) = -(E - z + l2 p + 3) := by omega
  have ht : 2 ^ ((8 - E - l2 p).toNat + 64) ≤ 2 ^ s * 18446744073709551616 := by
    rw [show (18446744073709551616 : Nat) = 2 ^ 64 from rfl, ← Nat.pow_add]
    exact Nat.pow_le_pow_right (by decide) (by omega)
  have e2k : E - z + 2 + ((z - 1 : Nat) : Int) = E + 1 := by omega
  have hzz : 2 ^ z = 2 * 2 ^ (z - 1) := by
    obtain ⟨k, rfl⟩ : ∃ k, z = k + 1 := ⟨z - 1, by omega⟩
    rw [Nat.pow_succ, Nat.mul_comm]
    rfl
  have hxb : ∀ X, X ≤ 2 * m + 1 → X * 2 ^ (z - 1) < 18446744073709551616 := by
    intro X hX
    have h1 : X * 2 ^ (z - 1) ≤ (2 * m + 1) * 2 ^ (z - 1) := Nat.mul_le_mul_right _ hX
    have h2 : m * 2 ^ z + 2 ^ z = (2 * m + 1) * 2 ^ (z - 1) + 2 ^ (z - 1) := by rw [hzz]; grind
    have := Nat.two_pow_pos (z - 1)
    omega
  have hu : ∀ X, 0 < X → X ≤ 2 * m + 1 → usc (X * 2 ^ (z - 1)) hi lo s = unr (X * rN (E + 1) p) (rM (E + 1) p) := by
    intro X h1 h2
    have := usc_at (e := E - z) (t := (8 - E - l2 p).toNat) (X := X) (k := z - 1) hro c1 hse h1 (hxb X h2) ht (by rw [e2k]; exact c7 X (by omega))
    rwa [e2k] at this
  have pM := rM_pos (E + 1) p
  have pN := rN_pos (E + 1) p
  have n20 : rN (E + 1) p < 20 * rM (E + 1) p := rN_twenty (k := 1) (by omega)
  have hb : ∀ X, X ≤ 2 * m + 1 → unr (X * rN (E + 1) p) (rM (E + 1) p) < 1152921504606846976 := by
    intro X hX
    have h1 : X * rN (E + 1) p ≤ (2 * m + 1) * rN (E + 1) p := Nat.mul_le_mul_right _ hX
    have h2 : (2 * m + 1) * rN (E + 1) p ≤ (2 * m + 1) * (20 * rM (E + 1) p) := Nat.mul_le_mul_left _ (Nat.le_of_lt n20)
    have h3 : (2 * m + 1) * (20 * rM (E + 1) p) = (20 * (2 * m + 1)) * rM (E + 1) p := by grind
    have := unr_lt (A := X * rN (E + 1) p) (M := rM (E + 1) p) (b := 20 * (2 * m + 1) + 1) (by rw [Nat.add_mul]; omega)
    omega
  rw [hu _ (by omega) (by omega), hu _ (by omega) (by omega), hu _ (by omega) (by omega)]
  refine ⟨hb _ (by omega), hb _ (by omega), hb _ (by omega), ?_⟩
  -- the interval's ends
  have hQ : qOf (E + 1074) * (4 * rM (E + 1) p) = U10 big (400 - p).toNat * rN (E + 1) p := by
    have := q_link (E := E + 1) (p := p) 1 (by omega) (by omega)
    rw [show E + 1 + 1074 - ((1 : Nat) : Int) = E + 1074 by omega] at this
    rw [← this, Nat.pow_one]
  have hQ2 : qOf (E + 1074) * (2 * rM E p) = U10 big (400 - p).toNat * rN E p := by
    have := q_link (E := E) (p := p) 0 (by omega) (by omega)
    rw [show E + 1074 - ((0 : Nat) : Int) = E + 1074 by omega] at this
    rw [← this, Nat.pow_zero, Nat.mul_one]
  have p0 := rM_pos E p
  obtain ⟨U, hU⟩ : ∃ U, U10 big (400 - p).toNat = U := ⟨_, rfl⟩
  have hQU1 : U ≤ 2 * qOf (E + 1074) := by
    refine (Nat.mul_le_mul_right_iff p0).1 ?_
    have h1 := Nat.mul_le_mul_left U c5
    rw [hU] at hQ2
    rw [← hQ2] at h1
    rw [show 2 * qOf (E + 1074) * rM E p = qOf (E + 1074) * (2 * rM E p) by grind]
    exact h1
  have hUpos : 0 < U := by rw [← hU]; exact U10_pos big_pos _
  have hQU2 : 2 * qOf (E + 1074) < 10 * U := by
    refine Nat.lt_of_mul_lt_mul_right (a := rM E p) ?_
    have h1 := (Nat.mul_lt_mul_left (a := U) hUpos).2 c6
    rw [hU] at hQ2
    rw [← hQ2] at h1
    rw [show 2 * qOf (E + 1074) * rM E p = qOf (E + 1074) * (2 * rM E p) by grind, show 10 * U * rM E p = U * (10 * rM E p) by grind]
    exact h1
  rw [← hU] at hQU1 hQU2
  obtain ⟨⟨f1, f2, f3, f4⟩, f5⟩ := short_reg (c := decide (r % 2 = 0)) (m := m) pM big_pos pN hQ hm0 hQU1 hQU2
  have hLe : (unt (r - 1) + unt r) * T4 = (2 * m - 1) * qOf (E + 1074) := by
    rw [hup, hu0, ← Nat.add_mul]
    unfold qOf
    rw [show m - 1 + m = 2 * m - 1 by omega]
    exact Nat.mul_assoc _ _ _
  have hXe : 2 * unt r * T4 = 2 * m * qOf (E + 1074) := by
    rw [hu0]
    unfold qOf
    rw [← Nat.mul_assoc 2 m]
    exact Nat.mul_assoc _ _ _
  have hHe : (unt r + unt (r + 1)) * T4 = (2 * m + 1) * qOf (E + 1074) := by
    rw [hun, hu0, ← Nat.add_mul]
    unfold qOf
    rw [show m + (m + 1) = 2 * m + 1 by omega]
    exact Nat.mul_assoc _ _ _
  have hbd : dmaxOf (decide (r % 2 = 0)) (unr ((2 * m + 1) * rN (E + 1) p) (rM (E + 1) p)) < 100000000000000000 := by
    clear hLe hXe hHe hQ hQ2 f5
    omega
  refine ⟨unr_pos pM (Nat.mul_pos (by omega) pN), ?_, ans_short c1 c2 rfl hLe hXe hHe f5 f1 hbd f2 f4⟩
  exact dmax_four (Nat.lt_of_lt_of_le f1 f2)
/-- A power of two. -/
theorem skw_ans {r s hi lo : Nat} {E p : Int} (hr : r < 9218868437227405312) (hns : mant r = 4503599627370496 ∧ -1074 < expo r) (hE : expo r = E) (hp : -skw E = p)
    (hrow : Go.Pinned.pow10Rows[rowAt p]? = some (hi, lo)) (hs : (s : Int) = 8 - E - l2 p) :
    usc 9223372036854775296 hi lo s < 1152921504606846976 ∧ usc 9223372036854776832 hi lo s < 1152921504606846976 ∧ usc 9223372036854775808 hi lo s < 1152921504606846976 ∧ 1 ≤ usc 9223372036854775296 hi lo s ∧ 4 ≤ usc 9223372036854776832 hi lo s ∧
    ShortOf r (ansD (dminOf true (usc 9223372036854775296 hi lo s)) (dmaxOf true (usc 9223372036854776832 hi lo s)) (rndOf (usc 9223372036854775808 hi lo s)))
      (ansP (dminOf true (usc 9223372036854775296 hi lo s)) (dmaxOf true (usc 9223372036854776832 hi lo s)) p) := by
  have hE0 := expo_ge r
  have hE1 := expo_le hr
  have hE2 := hns.2
  rw [hE] at hE0 hE1 hE2
  obtain ⟨c1, c2, c3, c4, c5, c6, c7, c8, c9⟩ := chk_skw hE0 hE1
  rw [hp] at c1 c2 c3 c4 c5 c6 c7 c8 c9
  have hro := row_ok hrow
  have hse : (s : Int) = -(E - 11 + l2 p + 3) := by omega
  have ht : 2 ^ ((8 - E - l2 p).toNat + 64) ≤ 2 ^ s * 18446744073709551616 := by
    rw [show (18446744073709551616 : Nat) = 2 ^ 64 from rfl, ← Nat.pow_add]
    exact Nat.pow_le_pow_right (by decide) (by omega)
  have e2k : E - 11 + 2 + ((9 : Nat) : Int) = E := by omega
  have hu : ∀ X x, X * 2 ^ 9 = x → 0 < X → x < 18446744073709551616 → Gap (X * rN E p) (rM E p) (2 ^ ((8 - E - l2 p).toNat + 64)) → usc x hi lo s = unr (X * rN E p) (rM E p) := by
    intro X x h0 h1 h2 h3
    subst h0
    have := usc_at (e := E - 11) (t := (8 - E - l2 p).toNat) (X := X) (k := 9) hro c1 hse h1 h2 ht (by rw [e2k]; exact h3)
    rwa [e2k] at this
  have pM := rM_pos E p
  have pN := rN_pos E p
  have u1 : usc 9223372036854775296 hi lo s = unr (18014398509481983 * rN E p) (rM E p) := hu 18014398509481983 _ (by simp) (by omega) (by omega) c7
  have u2 : usc 9223372036854776832 hi lo s = unr (18014398509481986 * rN E p) (rM E p) := hu 18014398509481986 _ (by simp) (by omega) (by omega) c9
  have u0 : usc 9223372036854775808 hi lo s = unr (18014398509481984 * rN E p) (rM E p) := hu 18014398509481984 _ (by simp) (by omega) (by omega) c8
  have hb : ∀ X, X ≤ 18014398509481986 → unr (X * rN E p) (rM E p) < 1152921504606846976 := by
    intro X hX
    have h1 : X * rN E p ≤ 18014398509481986 * rN E p := Nat.mul_le_mul_right _ hX
    have := unr_lt (A := X * rN E p) (M := rM E p) (b := 14 * 18014398509481986 + 1) (by omega)
    omega
  rw [u1, u2, u0]
  refine ⟨hb _ (by omega), hb _ (by omega), hb _ (by omega), ?_⟩
  have hQ : qOf (E + 1073) * (4 * rM E p) = U10 big (400 - p).toNat * rN E p := by
    have := q_link (E := E) (p := p) 1 (by omega) (by omega)
    rw [show E + 1074 - ((1 : Nat) : Int) = E + 1073 by omega] at this
    rw [← this, Nat.pow_one]
  obtain ⟨U, hU⟩ : ∃ U, U10 big (400 - p).toNat = U := ⟨_, rfl⟩
  have hUpos : 0 < U := by rw [← hU]; exact U10_pos big_pos _
  have hQU1 : U ≤ 3 * qOf (E + 1073) := by
    refine (Nat.mul_le_mul_right_iff (show 0 < 4 * rM E p by omega)).1 ?_
    have h1 := Nat.mul_le_mul_left U c5
    rw [hU] at hQ
    have e : U * (3 * rN E p) = 3 * qOf (E + 1073) * (4 * rM E p) := by rw [Nat.mul_assoc 3, hQ]; grind
    rw [← e]
    exact h1
  have hQU2 : 3 * qOf (E + 1073) < 10 * U := by
    refine Nat.lt_of_mul_lt_mul_right (a := 4 * rM E p) ?_
    have h1 := (Nat.mul_lt_mul_left (a := U) hUpos).2 c6
    rw [hU] at hQ
    have e : U * (3 * rN E p) = 3 * qOf (E + 1073) * (4 * rM E p) := by rw [Nat.mul_assoc 3, hQ]; grind
    rw [← e, show 10 * U * (4 * rM E p) = U * (40 * rM E p) by grind]
    exact h1
  rw [← hU] at hQU1 hQU2
  obtain ⟨⟨f1, f2, f3, f4⟩, f5⟩ := short_skew (x0 := 18014398509481984) pM big_pos pN hQ (by omega) (by omega) hQU1 hQU2
  have n1 : (18014398509481984 - 1 : Nat) = 18014398509481983 := by simp
  have n2 : (18014398509481984 + 2 : Nat) = 18014398509481986 := by simp
  rw [n1] at f1
  rw [n1, n2] at f2 f4 f5
  rw [n2] at f3
  clear n1 n2
  have hpar : true = decide (r % 2 = 0) := by
    have := par_mant r
    rw [hns.1] at this
    rw [← this]
    rfl
  obtain ⟨z, hz⟩ : ∃ z, (E + 1073).toNat = z := ⟨_, rfl⟩
  have hz1 : (E + 1074).toNat = z + 1 := by omega
  have hbd : dmaxOf true (unr (18014398509481986 * rN E p) (rM E p)) < 100000000000000000 := by
    clear hQ f5
    omega
  have hun := unt_next r
  have hup := unt_skew hns
  have hu0 := unt_eq r
  rw [hE] at hun hup hu0
  rw [hns.1] at hun hup hu0
  rw [hz1, Nat.pow_succ] at hun hup hu0
  obtain ⟨y, hy⟩ : ∃ y, 2 ^ z = y := ⟨_, rfl⟩
  have hqy : qOf (E + 1073) = y * T4 := by unfold qOf; rw [hz, hy]
  rw [hy] at hun hup hu0
  clear hz hz1 hE0 hE1 hE2 hQ hQU1 hQU2 f3 ht c3 c4 c5 c6 c7 c8 c9 hse hs hb hu hUpos hU u0 u1 u2 hro
  obtain ⟨a, ha⟩ : ∃ a, unt r = a := ⟨_, rfl⟩
  obtain ⟨b, hb⟩ : ∃ b, unt (r - 1) = b := ⟨_, rfl⟩
  obtain ⟨d, hd⟩ : ∃ d, unt (r + 1) = d := ⟨_, rfl⟩
  rw [ha] at hu0
  rw [hb] at hup
  rw [hd] at hun
  have ea : a = 9007199254740992 * y := by clear hpar hup hun hqy hbd f2 f4 f5; omega
  have eb : b = 9007199254740991 * y := by clear hpar hu0 hun hqy hbd f2 f4 f5; omega
  have ed : d = 9007199254740994 * y := by clear hpar hu0 hup hqy hbd f2 f4 f5; omega
  have hLe : (unt (r - 1) + unt r) * T4 = 18014398509481983 * qOf (E + 1073) := by
    rw [hqy, ← Nat.mul_assoc, ha, hb, ea, eb, ← Nat.add_mul]
  have hXe : 2 * unt r * T4 = 18014398509481984 * qOf (E + 1073) := by
    rw [hqy, ← Nat.mul_assoc, ha, ea, ← Nat.mul_assoc]
  have hHe : (unt r + unt (r + 1)) * T4 = 18014398509481986 * qOf (E + 1073) := by
    rw [hqy, ← Nat.mul_assoc, ha, hd, ea, ed, ← Nat.add_mul]
  exact ⟨unr_pos pM (Nat.mul_pos (by omega) pN), dmax_four (Nat.lt_of_lt_of_le f1 f2), ans_short c1 c2 hpar hLe hXe hHe f5 f1 hbd f2 f4⟩
end Go.Proofs.YtmhbkilidpbenaaGreatDoor
