/- The contracts of Text at whole numbers; what NumShort asks of memory. Each lemma's conditions stand in its own statement. -/
import Derived.Test.YtbcolebomgcphaaGreatFmtRl
import Derived.Test.YtbcolebomgcphaaGreatFmtTi
import Derived.Test.YtbcolebomgcphaaGreatFmtTe
namespace Go.Proofs.YtbcolebomgcphaaGreatFmt
open Go.RowKit Go.Sort

/-- What the law's function asks of memory. -/
structure Env (w : World) : Prop where
  hS : Start w
  hT : RdTab w
  hE : ErTab w
  hU : Lib.Utf8Tabs 7 8 w
theorem Env.below {w w' : World} (h : Env w) (hb : Below w.heap.size w w') : Env w' :=
  ⟨h.hS.below hb (Nat.le_refl _), h.hT.below hb (Nat.le_refl _), h.hE.below hb (Nat.le_refl _), Dr.Tabs.below h.hU hb (Dr.Tabs.lt h.hU)⟩
/-- The text of a whole number. -/
def intZ (e : Int) : List Int := if e < 0 then 45 :: decZ e.natAbs else decZ e.natAbs
set_option exponentiation.threshold 3000 in
theorem fl_pos {K : Nat} (h0 : 0 < K) (h : K ≤ 1000) : 0 < floatOfInt .f64 (K : Int) ∧ floatOfInt .f64 (K : Int) < 4845873199050653696 := by
  have hu := unt_fl (K := K) h0 (by omega)
  obtain ⟨f, hf⟩ : ∃ f, floatOfInt .f64 (K : Int) = f := ⟨_, rfl⟩
  rw [hf] at hu ⊢
  constructor
  · rcases Nat.eq_zero_or_pos f with g | g
    · exfalso
      rw [g, show unt 0 = 0 by decide] at hu
      have := Nat.mul_pos h0 (Nat.two_pow_pos 1074)
      omega
    · exact g
  · rcases Nat.lt_or_ge f 4845873199050653696 with g | g
    · exact g
    · exfalso
      have h1 := unt_le g
      rw [hu] at h1
      have h2 : unt 4845873199050653696 = 9007199254740992 * 2 ^ 1074 := by decide +kernel
      rw [h2] at h1
      have h3 : K * 2 ^ 1074 < 9007199254740992 * 2 ^ 1074 := (Nat.mul_lt_mul_right (Nat.two_pow_pos _)).2 (by omega)
      exact absurd (Nat.lt_of_le_of_lt h1 h3) (Nat.lt_irrefl _)
theorem fl_neg (K : Nat) (h0 : 0 < K) : floatOfInt .f64 (-(K : Int)) = 9223372036854775808 + floatOfInt .f64 (K : Int) := by
  show Ieee.double.nearest (decide (-(K : Int) < 0)) (-(K : Int)).natAbs 0 = 9223372036854775808 + Ieee.double.nearest (decide ((K : Int) < 0)) (K : Int).natAbs 0
  rw [decide_eq_true (by omega), decide_eq_false (by omega), Int.natAbs_neg, nearest_neg]
theorem text_int (e : Int) (h0 : -1000 ≤ e) (h1 : e ≤ 1000) (w : World) (hS : Start w) : Calls Tryz.prog 5 #[.float .f64 (floatOfInt .f64 e)] w (StrIs w (· = strOfNums (intZ e))) := by
  rcases Int.lt_trichotomy e 0 with g | g | g
  · obtain ⟨K, rfl⟩ : ∃ K : Nat, e = -(K : Int) := ⟨(-e).toNat, by omega⟩
    obtain ⟨f0, f1⟩ := fl_pos (K := K) (by omega) (by omega)
    have hu := unt_fl (K := K) (by omega) (by omega)
    rw [fl_neg K (by omega)]
    refine (text_neg _ w f0 (by omega) hS).mono ?_
    rintro e w' ⟨s, ⟨D, j, hs, rfl⟩, rfl, hb⟩
    refine ⟨_, ?_, rfl, hb⟩
    rw [shr_whole hs f0 (K := K) (by omega) (by omega) f1 hu]
    unfold intZ
    rw [if_pos g, Int.natAbs_neg, Int.natAbs_natCast]
  · subst g
    have h : Calls Tryz.prog 9 #[.float .f64 0] w (OddIs w ⟨#[48]⟩ true) := odd_walk 0 9223372036854775808 false false false true ⟨#[48]⟩ true w (by decide) (by decide) (by decide) (by decide) (by decide) rfl
    exact text_odd 0 _ w h
  · obtain ⟨K, rfl⟩ : ∃ K : Nat, e = (K : Int) := ⟨e.toNat, by omega⟩
    obtain ⟨f0, f1⟩ := fl_pos (K := K) (by omega) (by omega)
    have hu := unt_fl (K := K) (by omega) (by omega)
    refine (text_pos _ w f0 (by omega) hS).mono ?_
    rintro e w' ⟨D, j, hs, rfl, _, hb⟩
    refine ⟨_, ?_, rfl, hb⟩
    show strOfNums (textZ D j) = _
    rw [shr_whole hs f0 (K := K) (by omega) (by omega) f1 hu]
    unfold intZ
    rw [if_neg (by omega), Int.natAbs_natCast]
theorem ext_int (e : Int) (h0 : -1000 ≤ e) (h1 : e ≤ 1000) : ExT (101 :: intZ e) e := by
  right
  refine ⟨by omega, by omega, ?_⟩
  unfold intZ
  by_cases g : e < 0
  · rw [if_pos g]; exact .inl ⟨rfl, g⟩
  · rw [if_neg g]; exact .inr (.inr ⟨rfl, by omega⟩)
theorem int_len (e : Int) (h0 : -1000 ≤ e) (h1 : e ≤ 1000) : (intZ e).length ≤ 5 := by
  have h := (dec_len (D := e.natAbs) (k := 4) (by omega) (by decide)).2
  unfold intZ
  split
  · simp; omega
  · omega
/-- Read at digits with an exponent. -/
theorem read_dec_pos (S : Nat) (e : Int) (h0 : 0 < S) (hS : S < 100000000000000000) (e0 : -1000 ≤ e) (e1 : e ≤ 1000) (w : World) (hw : Env w) :
    Calls Tryz.prog 6 #[.string (strOfNums (decZ S ++ 101 :: intZ e))] w (VlIs (fun z => ∃ y, RqIs S e y ∧ z = y) w) := by
  have hl := (dec_len (D := S) (k := 17) (by omega) (by decide)).2
  have hi := int_len e e0 e1
  exact read_text_pos (decZ S) (101 :: intZ e) e S e ⟨decZ S, [], IsDig.dec S, dec_pos S, fun z hz => by simp at hz, .inl rfl⟩ (ext_int e e0 e1) (rd_plain h0 (by omega) e) h0 (by omega) e0 e1 (by rw [List.length_append]; simp; omega) (noHex_dec h0 _) w hw.hU hw.hT hw.hE
theorem read_dec_neg (S : Nat) (e : Int) (h0 : 0 < S) (hS : S < 100000000000000000) (e0 : -1000 ≤ e) (e1 : e ≤ 1000) (w : World) (hw : Env w) :
    Calls Tryz.prog 6 #[.string (strOfNums (45 :: (decZ S ++ 101 :: intZ e)))] w (VlIs (fun z => ∃ y, RqIs S e y ∧ z = 9223372036854775808 + y) w) := by
  have hl := (dec_len (D := S) (k := 17) (by omega) (by decide)).2
  have hi := int_len e e0 e1
  exact read_text_neg (decZ S) (101 :: intZ e) e S e ⟨decZ S, [], IsDig.dec S, dec_pos S, fun z hz => by simp at hz, .inl rfl⟩ (ext_int e e0 e1) (rd_plain h0 (by omega) e) h0 (by omega) e0 e1 (by rw [List.length_append]; simp; omega) (noHex_dec h0 _) w hw.hU hw.hT hw.hE
/-- Read at a number's own text: the number. -/
theorem read_own_pos {r D : Nat} {j : Int} (h : Shr r D j) (h0 : 0 < r) (h1 : r < 9218868437227405312) (w : World) (hw : Env w) (hn : (textZ D j).length ≤ 900) :
    Calls Tryz.prog 6 #[.string (strOfNums (textZ D j))] w (VlIs (fun z => z = r) w) := by
  obtain ⟨b0, b1, b2, b3⟩ := shr_bounds h h0 h1
  have hl := (dec_len (D := D) (k := 18) (by omega) (by decide)).2
  obtain ⟨mp, ex, x, e, hex, hr, _, hsh⟩ := text_read b0 hl (show -1000 ≤ j by omega) (show j ≤ 1000 by omega)
  have hh := text_noHex b0 j
  rw [e] at hn hh ⊢
  refine (read_text_pos mp ex x D j hsh hex hr b0 b1 (by omega) (by omega) hn hh w hw.hU hw.hT hw.hE).mono ?_
  rintro e w' ⟨z, rfl, ⟨y, hy, rfl⟩, hb⟩
  exact ⟨_, rfl, read_is h h0 h1 hy.1, hb⟩
theorem read_own_neg {r D : Nat} {j : Int} (h : Shr r D j) (h0 : 0 < r) (h1 : r < 9218868437227405312) (w : World) (hw : Env w) (hn : (textZ D j).length ≤ 900) :
    Calls Tryz.prog 6 #[.string (strOfNums (45 :: textZ D j))] w (VlIs (fun z => z = 9223372036854775808 + r) w) := by
  obtain ⟨b0, b1, b2, b3⟩ := shr_bounds h h0 h1
  have hl := (dec_len (D := D) (k := 18) (by omega) (by decide)).2
  obtain ⟨mp, ex, x, e, hex, hr, _, hsh⟩ := text_read b0 hl (show -1000 ≤ j by omega) (show j ≤ 1000 by omega)
  have hh := text_noHex b0 j
  rw [e] at hn hh ⊢
  refine (read_text_neg mp ex x D j hsh hex hr b0 b1 (by omega) (by omega) hn hh w hw.hU hw.hT hw.hE).mono ?_
  rintro e w' ⟨z, rfl, ⟨y, hy, rfl⟩, hb⟩
  exact ⟨_, rfl, by rw [read_is h h0 h1 hy.1], hb⟩
theorem shr_len {r D : Nat} {j : Int} (h : Shr r D j) (h0 : 0 < r) (h1 : r < 9218868437227405312) : (textZ D j).length ≤ 100 := by
  obtain ⟨b0, b1, b2, b3⟩ := shr_bounds h h0 h1
  obtain ⟨l1, l2⟩ := dec_len (D := D) (k := 18) (by omega) (by decide)
  rw [text_txt]
  exact txt_len l1 l2 (by omega) (by omega)
/-- digitsOf at a number's own text. -/
theorem digits_own {r D : Nat} {j : Int} (h : Shr r D j) (h0 : 0 < r) (h1 : r < 9218868437227405312) (w : World) : Calls Tryz.prog 7 #[.string (strOfNums (textZ D j))] w (DoIs w (decZ D) (j + (decZ D).length)) := by
  obtain ⟨b0, b1, b2, b3⟩ := shr_bounds h h0 h1
  have hl := (dec_len (D := D) (k := 18) (by omega) (by decide)).2
  obtain ⟨mp, ex, x, e, hex, _, _, hsh⟩ := text_read b0 hl (show -1000 ≤ j by omega) (show j ≤ 1000 by omega)
  have hB := isB_of_dig (plain_app (plain_mp hsh) (plain_ex hex))
  have hn := shr_len h h0 h1
  have hd := text_digits b0 hl (show -1000 ≤ j by omega) (show j ≤ 1000 by omega) dgStart rfl
  rw [← e] at hB
  exact digits_of_walk (textZ D j) w hB (by omega) D _ hd (shr_last h)
theorem digits_own_neg {r D : Nat} {j : Int} (h : Shr r D j) (h0 : 0 < r) (h1 : r < 9218868437227405312) (w : World) : Calls Tryz.prog 7 #[.string (strOfNums (45 :: textZ D j))] w (DoIs w (decZ D) (j + (decZ D).length)) := by
  obtain ⟨b0, b1, b2, b3⟩ := shr_bounds h h0 h1
  have hl := (dec_len (D := D) (k := 18) (by omega) (by decide)).2
  obtain ⟨mp, ex, x, e, hex, _, _, hsh⟩ := text_read b0 hl (show -1000 ≤ j by omega) (show j ≤ 1000 by omega)
  have hB := isB_of_dig (plain_app (plain_mp hsh) (plain_ex hex))
  have hn := shr_len h h0 h1
  have hd := text_digits b0 hl (show -1000 ≤ j by omega) (show j ≤ 1000 by omega) dgStart rfl
  rw [← e] at hB
  have hB2 : ∀ z ∈ 45 :: textZ D j, 0 ≤ z ∧ z < 256 := fun z hz => by
    rcases List.mem_cons.1 hz with g | hz
    · omega
    · exact hB z hz
  exact digits_of_walk (45 :: textZ D j) w hB2 (by rw [List.length_cons]; omega) D _ hd (shr_last h)
end Go.Proofs.YtbcolebomgcphaaGreatFmt
