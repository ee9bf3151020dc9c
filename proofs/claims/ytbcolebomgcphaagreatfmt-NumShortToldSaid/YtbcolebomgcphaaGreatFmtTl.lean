/- The law's function at a number above 0. Each lemma's conditions stand in its own statement. The law's function at a number below 0. Each lemma's conditions stand in its own statement. The law's function at every word. Each lemma's conditions stand in its own statement. -/
import Derived.Test.YtbcolebomgcphaaGreatFmtTk
namespace Go.Proofs.YtbcolebomgcphaaGreatFmt
open Go.RowKit Go.Sort

def TrueIs (w : World) (e : Ending) (w' : World) : Prop := e = .returned (.bool true) ∧ Below w.heap.size w w'
set_option maxRecDepth 100000 in
set_option maxHeartbeats 3200000 in
theorem short_pos (r : Nat) (w : World) (h0 : 0 < r) (h1 : r < 9218868437227405312) (hw : Env w) : Calls Tryz.prog 3 #[.int .u64 r] w (TrueIs w) := by
  have hx := fun n W => ext_from 4 (.inl rfl) n W
  have c1 := text_pos r w h0 h1 hw.hS
  have o1 : (FloatKind.f64.format.order r r != some .eq) = false := pos_self h1
  have oz := pos_zero h0 h1
  have o2 : (FloatKind.f64.format.order r 0 == some .eq) = false := by rw [oz]; rfl
  have o3 : (FloatKind.f64.format.order r 9218868437227405311 == some .gt) = false := pos_max h1
  have o4 : (FloatKind.f64.format.order r 18442240474082181119 == some .lt) = false := by
    rw [show (18442240474082181119 : Nat) = 9223372036854775808 + 9218868437227405311 from rfl, pos_order h1 (by decide) (by decide)]; rfl
  have o5 : (FloatKind.f64.format.order r 0 == some .lt) = false := by rw [oz]; rfl
  have HW := Lib.hid hw
  have H0 := Lib.hid h0
  have H1 := Lib.hid h1
  clear hw oz h0 h1
  go_enter Tryz.func3, Tryz.ntmps3
  go_wp2_with fail
  refine c1.mono ?_
  rintro e w1 ⟨D, j, hsh, rfl, hlen, b1⟩
  have E1 := HW.out.below b1
  have c2 := read_own_pos hsh H0.out H1.out w1 E1 (by omega)
  have HS := Lib.hid hsh
  have B1 := Lib.hid b1
  clear c1 hlen hsh b1
  go_wp2_with fail
  refine c2.mono ?_
  rintro e w2 ⟨z, rfl, hz, b2⟩
  obtain rfl : r = z := hz.symm
  have B2 := Lib.hid (B1.out.trans (b2.mono B1.out.size))
  have E2 := E1.below b2
  have c3 := digits_own HS.out H0.out H1.out w2
  obtain ⟨k0, k1, k2, k3⟩ := shr_bounds HS.out H0.out H1.out
  obtain ⟨L, hL⟩ : ∃ L, (decZ D).length = L := ⟨_, rfl⟩
  have hL2 := (dec_len (D := D) (k := 18) (by omega) (by decide)).2
  have hL1 := dec_pos D
  rw [hL] at c3 hL1 hL2
  have hdz : (strOfNums (decZ D)).size = L := by rw [str_size, hL]
  obtain ⟨ds, hds⟩ : ∃ ds, strOfNums (decZ D) = ds := ⟨_, rfl⟩
  have HDS := Lib.hid hds
  unfold DoIs at c3
  rw [hds] at c3 hdz
  have HL := Lib.hid hL
  have HE2 := Lib.hid E2
  clear c2 b2 E1 E2 hL hds
  go_wp2_with fail
  refine c3.mono ?_
  rintro e w2' ⟨rfl, rfl⟩
  clear c3
  by_cases hD : D < 10
  · have hL3 : L = 1 := by
      have := (dec_len (D := D) (k := 1) (by omega) (by decide)).2
      rw [HL.out] at this
      omega
    subst hL3
    go_wp2
    go_ret
    exact ⟨rfl, B2.out⟩
  · obtain ⟨q1, q2⟩ := dec_short (D := D) (by omega)
    rw [HL.out] at q1 q2
    obtain ⟨S, hSe⟩ : ∃ S, D / 10 = S := ⟨_, rfl⟩
    rw [hSe] at q1 q2
    obtain ⟨m, rfl⟩ : ∃ m, L = m + 1 := ⟨L - 1, by omega⟩
    rw [Nat.add_sub_cancel] at q1 q2
    have hS0 : 0 < S := by omega
    have hS1 : S + 1 < 100000000000000000 := by omega
    have hm0 : 0 < m := by have := dec_pos S; omega
    have hsh : ds.extract 0 m = strOfNums (decZ S) := by rw [← HDS.out, str_take, q1]
    obtain ⟨sh, hshe⟩ : ∃ sh, strOfNums (decZ S) = sh := ⟨_, rfl⟩
    have hshz : sh.size = m := by rw [← hshe, str_size, q2]
    rw [hshe] at hsh
    obtain ⟨e, he⟩ : ∃ e, j + 1 = e := ⟨_, rfl⟩
    have e0 : -1000 ≤ e := by omega
    have e1 : e ≤ 1000 := by omega
    rw [show j + ((m + 1 : Nat) : Int) = e + m by omega]
    have c4 := text_int e e0 e1 w2' HE2.out.hS
    have HQ2 := Lib.hid q2
    have HSH := Lib.hid hshe
    have HJ := Lib.hid he
    have l1 : ((m + 1 : Nat) : Int) = (m : Int) + 1 := by omega
    clear q1 q2 hSe hshe he
    go_wp2_with fail
    refine c4.mono ?_
    rintro x w3 ⟨te, hte, rfl, b3⟩
    have B3 := Lib.hid (B2.out.trans (b3.mono B2.out.size))
    have E3 := HE2.out.below b3
    have htz : te.size ≤ 5 := by rw [hte, str_size]; exact int_len e e0 e1
    have HTE := Lib.hid hte
    have c5 := read_dec_pos S e hS0 (by omega) e0 e1 w3 E3
    have hlow : (⟨#[]⟩ : ByteArray) ++ sh ++ ⟨#[101]⟩ ++ te = strOfNums (decZ S ++ 101 :: intZ e) := by
      rw [← HSH.out, HTE.out]
      show strOfNums [] ++ strOfNums (decZ S) ++ strOfNums [101] ++ strOfNums (intZ e) = _
      rw [str_app, str_app, str_app]
      congr 1
      simp
    rw [← hlow] at c5
    have HE3 := Lib.hid E3
    clear c4 b3 E3 hte hlow
    go_wp2_with fail
    refine c5.mono ?_
    rintro x w4 ⟨lo, rfl, ⟨y, hy, hyl⟩, b4⟩
    obtain rfl : lo = y := hyl
    have B4 := Lib.hid (B3.out.trans (b4.mono B3.out.size))
    have E4 := HE3.out.below b4
    have hlo : lo ≠ r := read_not HS.out H0.out H1.out (by rw [HJ.out]; exact hy.1)
    have r1 : (FloatKind.f64.format.order lo r != some .eq) = true := by rw [eq_word hy.2 H1.out]; exact decide_eq_true hlo
    have hm40 : (decZ S).length ≤ 40 := by have := HQ2.out; omega
    have c6 := more_any S w4 hm40
    rw [HSH.out] at c6
    have hupl := (dec_len (D := S + 1) (k := 17) (by omega) (by decide)).2
    obtain ⟨up, hup⟩ : ∃ up, strOfNums (decZ (S + 1)) = up := ⟨_, rfl⟩
    have hupz : up.size ≤ 17 := by rw [← hup, str_size]; exact hupl
    unfold MrIs at c6
    rw [hup] at c6
    have HUP := Lib.hid hup
    have HE4 := Lib.hid E4
    clear c5 b4 E4 hy hlo hm40 hupl hup
    go_wp2_with fail
    refine c6.mono ?_
    rintro x w5 ⟨rfl, b5⟩
    have B5 := Lib.hid (B4.out.trans (b5.mono B4.out.size))
    have E5 := HE4.out.below b5
    have c7 := read_dec_pos (S + 1) e (by omega) hS1 e0 e1 w5 E5
    have hhigh : (⟨#[]⟩ : ByteArray) ++ up ++ ⟨#[101]⟩ ++ te = strOfNums (decZ (S + 1) ++ 101 :: intZ e) := by
      rw [← HUP.out, HTE.out]
      show strOfNums [] ++ strOfNums (decZ (S + 1)) ++ strOfNums [101] ++ strOfNums (intZ e) = _
      rw [str_app, str_app, str_app]
      congr 1
      simp
    rw [← hhigh] at c7
    clear c6 b5 E5 hhigh
    go_wp2_with fail
    refine c7.mono ?_
    rintro x w6 ⟨hi, rfl, ⟨y, hy, hyl⟩, b6⟩
    obtain rfl : hi = y := hyl
    have B6 := Lib.hid (B5.out.trans (b6.mono B5.out.size))
    have hhi : hi ≠ r := read_not HS.out H0.out H1.out (by rw [HJ.out]; exact hy.1)
    have r2 : (FloatKind.f64.format.order hi r != some .eq) = true := by rw [eq_word hy.2 H1.out]; exact decide_eq_true hhi
    clear c7 b6 hy hhi
    go_wp2
    go_ret
    exact ⟨rfl, B6.out⟩
end Go.Proofs.YtbcolebomgcphaaGreatFmt

namespace Go.Proofs.YtbcolebomgcphaaGreatFmt
open Go.RowKit Go.Sort

set_option maxRecDepth 100000 in
set_option maxHeartbeats 3200000 in
theorem short_neg (r b : Nat) (w : World) (h0 : 0 < r) (h1 : r < 9218868437227405312) (hb : 9223372036854775808 + r = b) (hw : Env w) : Calls Tryz.prog 3 #[.int .u64 b] w (TrueIs w) := by
  have hx := fun n W => ext_from 4 (.inl rfl) n W
  have c1 := text_neg r w h0 h1 hw.hS
  have o1 := neg_self h1
  have oz := neg_zero h0 h1
  have o3 := neg_max h0 h1
  have o4 : (FloatKind.f64.format.order (9223372036854775808 + r) 18442240474082181119 == some .lt) = false := by
    rw [show (18442240474082181119 : Nat) = 9223372036854775808 + 9218868437227405311 from rfl, neg_order2 h1 (by decide)]
    rcases Nat.lt_or_ge r 9218868437227405311 with g | g
    · rw [Nat.compare_eq_gt.2 g]; rfl
    · rw [Nat.compare_eq_eq.2 (by omega)]; rfl
  rw [hb] at c1 o1 oz o3 o4
  have o2 : (FloatKind.f64.format.order b 0 == some .eq) = false := by rw [oz]; rfl
  have o5 : (FloatKind.f64.format.order b 0 == some .lt) = true := by rw [oz]; rfl
  have HBb := Lib.hid hb
  have HW := Lib.hid hw
  have H0 := Lib.hid h0
  have H1 := Lib.hid h1
  clear hw oz h0 h1 hb
  go_enter Tryz.func3, Tryz.ntmps3
  go_wp2_with fail
  refine c1.mono ?_
  rintro e w1 ⟨_, ⟨D, j, hsh, rfl⟩, rfl, b1⟩
  have E1 := HW.out.below b1
  have hlen := shr_len hsh H0.out H1.out
  have hsz := str_size (45 :: textZ D j)
  have c2 := read_own_neg hsh H0.out H1.out w1 E1 (by omega)
  rw [HBb.out] at c2
  have HS := Lib.hid hsh
  have B1 := Lib.hid b1
  clear c1 hlen hsh b1 hsz
  go_wp2_with fail
  refine c2.mono ?_
  rintro e w2 ⟨z, rfl, hz, b2⟩
  obtain rfl : b = z := hz.symm
  have B2 := Lib.hid (B1.out.trans (b2.mono B1.out.size))
  have E2 := E1.below b2
  have c3 := digits_own_neg HS.out H0.out H1.out w2
  obtain ⟨k0, k1, k2, k3⟩ := shr_bounds HS.out H0.out H1.out
  obtain ⟨L, hL⟩ : ∃ L, (decZ D).length = L := ⟨_, rfl⟩
  have hL2 := (dec_len (D := D) (k := 18) (by omega) (by decide)).2
  have hL1 := dec_pos D
  rw [hL] at c3 hL1 hL2
  have hdz : (strOfNums (decZ D)).size = L := by rw [str_size, hL]
  obtain ⟨ds, hds⟩ : ∃ ds, strOfNums (decZ D) = ds := ⟨_, rfl⟩
  have HDS := Lib.hid hds
  unfold DoIs at c3
  rw [hds] at c3 hdz
  have HL := Lib.hid hL
  have HE2 := Lib.hid E2
  clear c2 b2 E1 E2 hL hds
  go_wp2_with fail
  refine c3.mono ?_
  rintro e w2' ⟨rfl, rfl⟩
  clear c3
  by_cases hD : D < 10
  · have hL3 : L = 1 := by
      have := (dec_len (D := D) (k := 1) (by omega) (by decide)).2
      rw [HL.out] at this
      omega
    subst hL3
    go_wp2
    go_ret
    exact ⟨rfl, B2.out⟩
  · obtain ⟨q1, q2⟩ := dec_short (D := D) (by omega)
    rw [HL.out] at q1 q2
    obtain ⟨S, hSe⟩ : ∃ S, D / 10 = S := ⟨_, rfl⟩
    rw [hSe] at q1 q2
    obtain ⟨m, rfl⟩ : ∃ m, L = m + 1 := ⟨L - 1, by omega⟩
    rw [Nat.add_sub_cancel] at q1 q2
    have hS0 : 0 < S := by omega
    have hS1 : S + 1 < 100000000000000000 := by omega
    have hm0 : 0 < m := by have := dec_pos S; omega
    have hsh : ds.extract 0 m = strOfNums (decZ S) := by rw [← HDS.out, str_take, q1]
    obtain ⟨sh, hshe⟩ : ∃ sh, strOfNums (decZ S) = sh := ⟨_, rfl⟩
    have hshz : sh.size = m := by rw [← hshe, str_size, q2]
    rw [hshe] at hsh
    obtain ⟨e, he⟩ : ∃ e, j + 1 = e := ⟨_, rfl⟩
    have e0 : -1000 ≤ e := by omega
    have e1 : e ≤ 1000 := by omega
    rw [show j + ((m + 1 : Nat) : Int) = e + m by omega]
    have c4 := text_int e e0 e1 w2' HE2.out.hS
    have HQ2 := Lib.hid q2
    have HSH := Lib.hid hshe
    have HJ := Lib.hid he
    have l1 : ((m + 1 : Nat) : Int) = (m : Int) + 1 := by omega
    clear q1 q2 hSe hshe he
    go_wp2_with fail
    refine c4.mono ?_
    rintro x w3 ⟨te, hte, rfl, b3⟩
    have B3 := Lib.hid (B2.out.trans (b3.mono B2.out.size))
    have E3 := HE2.out.below b3
    have htz : te.size ≤ 5 := by rw [hte, str_size]; exact int_len e e0 e1
    have HTE := Lib.hid hte
    have c5 := read_dec_neg S e hS0 (by omega) e0 e1 w3 E3
    have hlow : (⟨#[45]⟩ : ByteArray) ++ sh ++ ⟨#[101]⟩ ++ te = strOfNums (45 :: (decZ S ++ 101 :: intZ e)) := by
      rw [← HSH.out, HTE.out]
      show strOfNums [45] ++ strOfNums (decZ S) ++ strOfNums [101] ++ strOfNums (intZ e) = _
      rw [str_app, str_app, str_app]
      congr 1
      simp
    rw [← hlow] at c5
    have HE3 := Lib.hid E3
    clear c4 b3 E3 hte hlow
    go_wp2_with fail
    refine c5.mono ?_
    rintro x w4 ⟨lo, rfl, ⟨y, hy, hyl⟩, b4⟩
    have B4 := Lib.hid (B3.out.trans (b4.mono B3.out.size))
    have E4 := HE3.out.below b4
    have hlo : y ≠ r := read_not HS.out H0.out H1.out (by rw [HJ.out]; exact hy.1)
    have r1 : (FloatKind.f64.format.order lo b != some .eq) = true := by rw [hyl, ← HBb.out, eq_nword hy.2 H1.out]; exact decide_eq_true hlo
    have hm40 : (decZ S).length ≤ 40 := by have := HQ2.out; omega
    have c6 := more_any S w4 hm40
    rw [HSH.out] at c6
    have hupl := (dec_len (D := S + 1) (k := 17) (by omega) (by decide)).2
    obtain ⟨up, hup⟩ : ∃ up, strOfNums (decZ (S + 1)) = up := ⟨_, rfl⟩
    have hupz : up.size ≤ 17 := by rw [← hup, str_size]; exact hupl
    unfold MrIs at c6
    rw [hup] at c6
    have HUP := Lib.hid hup
    have HE4 := Lib.hid E4
    clear c5 b4 E4 hy hyl hlo hm40 hupl hup
    go_wp2_with fail
    refine c6.mono ?_
    rintro x w5 ⟨rfl, b5⟩
    have B5 := Lib.hid (B4.out.trans (b5.mono B4.out.size))
    have E5 := HE4.out.below b5
    have c7 := read_dec_neg (S + 1) e (by omega) hS1 e0 e1 w5 E5
    have hhigh : (⟨#[45]⟩ : ByteArray) ++ up ++ ⟨#[101]⟩ ++ te = strOfNums (45 :: (decZ (S + 1) ++ 101 :: intZ e)) := by
      rw [← HUP.out, HTE.out]
      show strOfNums [45] ++ strOfNums (decZ (S + 1)) ++ strOfNums [101] ++ strOfNums (intZ e) = _
      rw [str_app, str_app, str_app]
      congr 1
      simp
    rw [← hhigh] at c7
    clear c6 b5 E5 hhigh
    go_wp2_with fail
    refine c7.mono ?_
    rintro x w6 ⟨hi, rfl, ⟨y, hy, hyl⟩, b6⟩
    have B6 := Lib.hid (B5.out.trans (b6.mono B5.out.size))
    have hhi : y ≠ r := read_not HS.out H0.out H1.out (by rw [HJ.out]; exact hy.1)
    have r2 : (FloatKind.f64.format.order hi b != some .eq) = true := by rw [hyl, ← HBb.out, eq_nword hy.2 H1.out]; exact decide_eq_true hhi
    clear c7 b6 hy hyl hhi
    go_wp2
    go_ret
    exact ⟨rfl, B6.out⟩
end Go.Proofs.YtbcolebomgcphaaGreatFmt

namespace Go.Proofs.YtbcolebomgcphaaGreatFmt
open Go.RowKit Go.Sort

set_option maxRecDepth 100000 in
set_option maxHeartbeats 1600000 in
theorem short_nan (b : Nat) (w : World) (cT : Calls Tryz.prog 5 #[.float .f64 b] w (StrIs w (· = ⟨#[78, 97, 78]⟩))) (cR : ∀ W, Below w.heap.size w W → Calls Tryz.prog 6 #[.string ⟨#[78, 97, 78]⟩] W (FlIs W 9221120237041090561))
    (o1 : (FloatKind.f64.format.order b b != some .eq) = true) : Calls Tryz.prog 3 #[.int .u64 b] w (TrueIs w) := by
  have hx := fun n W => ext_from 4 (.inl rfl) n W
  have o2 : (FloatKind.f64.format.order 9221120237041090561 9221120237041090561 != some .eq) = true := by decide +kernel
  have e1 : (⟨#[78, 97, 78]⟩ : ByteArray).toList = [78, 97, 78] := ByteArray.toList_eq _
  have CR := Lib.hid cR
  clear cR
  go_enter Tryz.func3, Tryz.ntmps3
  go_wp2_with fail
  refine cT.mono ?_
  rintro e w1 ⟨_, rfl, rfl, b1⟩
  have c2 := CR.out w1 b1
  have B1 := Lib.hid b1
  clear cT b1
  go_wp2_with fail
  refine c2.mono ?_
  rintro e w2 ⟨rfl, b2⟩
  have B2 := Lib.hid (B1.out.trans (b2.mono B1.out.size))
  clear c2 b2
  go_wp2
  go_ret
  exact ⟨rfl, B2.out⟩
set_option maxRecDepth 100000 in
set_option maxHeartbeats 1600000 in
theorem short_out (b y : Nat) (s : ByteArray) (z g l : Bool) (w : World) (cT : Calls Tryz.prog 5 #[.float .f64 b] w (StrIs w (· = s))) (cR : ∀ W, Below w.heap.size w W → Calls Tryz.prog 6 #[.string s] W (FlIs W y))
    (o1 : (FloatKind.f64.format.order b b != some .eq) = false) (o2 : (FloatKind.f64.format.order b y != some .eq) = false) (oz : (FloatKind.f64.format.order b 0 == some .eq) = z)
    (og : (FloatKind.f64.format.order b 9218868437227405311 == some .gt) = g) (ol : (FloatKind.f64.format.order b 18442240474082181119 == some .lt) = l) (h : (z || g || l) = true) : Calls Tryz.prog 3 #[.int .u64 b] w (TrueIs w) := by
  have hx := fun n W => ext_from 4 (.inl rfl) n W
  have CR := Lib.hid cR
  have HH := Lib.hid h
  clear cR h
  cases z
  · cases g
    · cases l
      · exact absurd HH.out (by decide)
      · go_enter Tryz.func3, Tryz.ntmps3
        go_wp2_with fail
        refine cT.mono ?_
        rintro e w1 ⟨_, rfl, rfl, b1⟩
        have c2 := CR.out w1 b1
        have B1 := Lib.hid b1
        clear cT b1
        go_wp2_with fail
        refine c2.mono ?_
        rintro e w2 ⟨rfl, b2⟩
        have B2 := Lib.hid (B1.out.trans (b2.mono B1.out.size))
        clear c2 b2
        go_wp2
        go_ret
        exact ⟨rfl, B2.out⟩
    · go_enter Tryz.func3, Tryz.ntmps3
      go_wp2_with fail
      refine cT.mono ?_
      rintro e w1 ⟨_, rfl, rfl, b1⟩
      have c2 := CR.out w1 b1
      have B1 := Lib.hid b1
      clear cT b1
      go_wp2_with fail
      refine c2.mono ?_
      rintro e w2 ⟨rfl, b2⟩
      have B2 := Lib.hid (B1.out.trans (b2.mono B1.out.size))
      clear c2 b2
      go_wp2
      go_ret
      exact ⟨rfl, B2.out⟩
  · go_enter Tryz.func3, Tryz.ntmps3
    go_wp2_with fail
    refine cT.mono ?_
    rintro e w1 ⟨_, rfl, rfl, b1⟩
    have c2 := CR.out w1 b1
    have B1 := Lib.hid b1
    clear cT b1
    go_wp2_with fail
    refine c2.mono ?_
    rintro e w2 ⟨rfl, b2⟩
    have B2 := Lib.hid (B1.out.trans (b2.mono B1.out.size))
    clear c2 b2
    go_wp2
    go_ret
    exact ⟨rfl, B2.out⟩
theorem read_nan (W : World) (h : Env W) : Calls Tryz.prog 6 #[.string ⟨#[78, 97, 78]⟩] W (FlIs W 9221120237041090561) :=
  rd_nan W (Dr.trim_same [78, 97, 78] W h.hU (fun x hx => by unfold Dr.PlainU; simp at hx; omega) (by decide) (by decide))
theorem read_infp (W : World) (h : Env W) : Calls Tryz.prog 6 #[.string ⟨#[73, 110, 102, 105, 110, 105, 116, 121]⟩] W (FlIs W 9218868437227405312) :=
  rd_inf _ W (Dr.trim_same [73, 110, 102, 105, 110, 105, 116, 121] W h.hU (fun x hx => by unfold Dr.PlainU; simp at hx; omega) (by decide) (by decide)) (by decide)
    (fun W => hex_first _ W (by decide) (by decide) 73 ⟨by decide, rfl⟩ (by decide)) (fun W => signed_plain _ W (by decide) (by decide))
theorem read_infm (W : World) (h : Env W) : Calls Tryz.prog 6 #[.string ⟨#[45, 73, 110, 102, 105, 110, 105, 116, 121]⟩] W (FlIs W 18442240474082181120) :=
  rd_minf _ W (Dr.trim_same [45, 73, 110, 102, 105, 110, 105, 116, 121] W h.hU (fun x hx => by unfold Dr.PlainU; simp at hx; omega) (by decide) (by decide)) (by decide)
    (fun W => hex_first _ W (by decide) (by decide) 45 ⟨by decide, rfl⟩ (by decide)) (fun W => signed_minus _ _ W (by decide) (by decide) (by decide) rfl)
theorem read_null (W : World) (h : Env W) : Calls Tryz.prog 6 #[.string ⟨#[48]⟩] W (FlIs W 0) := by
  refine (read_zero_text W h.hU h.hT h.hE).mono ?_
  rintro e w' ⟨z, rfl, ⟨y, hy, rfl⟩, hb⟩
  subst hy
  exact ⟨rfl, hb⟩
/-- THE LAW: true at every word. -/
theorem law_any (b : Nat) (hb : b < 18446744073709551616) (w : World) (hw : Env w) : Calls Tryz.prog 3 #[.int .u64 b] w (TrueIs w) := by
  have hc : 9218868437227405312 < b % 9223372036854775808 ∨ b = 9218868437227405312 ∨ b = 18442240474082181120 ∨ b = 0 ∨ b = 9223372036854775808 ∨ (0 < b ∧ b < 9218868437227405312)
      ∨ ∃ r, b = 9223372036854775808 + r ∧ 0 < r ∧ r < 9218868437227405312 := by
    by_cases g : ∃ r, b = 9223372036854775808 + r ∧ 0 < r ∧ r < 9218868437227405312
    · exact Or.inr (Or.inr (Or.inr (Or.inr (Or.inr (Or.inr g)))))
    · have : ¬ (9223372036854775808 < b ∧ b < 18442240474082181120) := fun k => g ⟨b - 9223372036854775808, by omega, by omega, by omega⟩
      omega
  rcases hc with h | rfl | rfl | rfl | rfl | ⟨h0, hr⟩ | ⟨r, rfl, h0, hr⟩
  · have e : (FloatKind.f64.format.order b b != some .eq) = true := by rw [nan_order h]; rfl
    exact short_nan b w (text_odd b _ w (odd_walk b _ true _ _ _ _ true w rfl e rfl rfl rfl rfl)) (fun W hW => read_nan W (hw.below hW)) e
  · exact short_out _ 9218868437227405312 _ false true false w (text_odd _ _ w (odd_walk _ _ false true _ _ _ true w rfl (by decide +kernel) (by decide +kernel) rfl rfl rfl)) (fun W hW => read_infp W (hw.below hW))
      (by decide +kernel) (by decide +kernel) (by decide +kernel) (by decide +kernel) (by decide +kernel) rfl
  · exact short_out _ 18442240474082181120 _ false false true w (text_odd _ _ w (odd_walk _ _ false false true _ _ true w rfl (by decide +kernel) (by decide +kernel) (by decide +kernel) rfl rfl)) (fun W hW => read_infm W (hw.below hW))
      (by decide +kernel) (by decide +kernel) (by decide +kernel) (by decide +kernel) (by decide +kernel) rfl
  · exact short_out _ 0 _ true false false w (text_odd _ _ w (odd_walk _ _ false false false true _ true w rfl (by decide +kernel) (by decide +kernel) (by decide +kernel) (by decide +kernel) rfl)) (fun W hW => read_null W (hw.below hW))
      (by decide +kernel) (by decide +kernel) (by decide +kernel) (by decide +kernel) (by decide +kernel) rfl
  · exact short_out _ 0 _ true false false w (text_odd _ _ w (odd_walk _ _ false false false true _ true w rfl (by decide +kernel) (by decide +kernel) (by decide +kernel) (by decide +kernel) rfl)) (fun W hW => read_null W (hw.below hW))
      (by decide +kernel) (by decide +kernel) (by decide +kernel) (by decide +kernel) (by decide +kernel) rfl
  · exact short_pos b w h0 hr hw
  · exact short_neg r _ w h0 hr rfl hw
end Go.Proofs.YtbcolebomgcphaaGreatFmt
