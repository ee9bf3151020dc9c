/- The plain law of a number's text by its ranges; contracts of Trunc and of Text on numbers above 0. Each lemma's conditions stand in its own statement. -/
import Derived.Test.YtmhbkilidpbenaaGreatDoorXm
namespace Go.Proofs.YtmhbkilidpbenaaGreatDoor
open Go.RowKit

/-- A number's text from its digits and the place of its point. -/
def txt (l : List Int) (p : Int) : List Int :=
  if (l.length : Int) ≤ p ∧ p ≤ 21 then l ++ List.replicate (p - l.length).toNat 48
  else if 0 < p ∧ p ≤ 21 then l.take p.toNat ++ [46] ++ l.drop p.toNat
  else if -6 < p ∧ p ≤ 0 then [48, 46] ++ List.replicate (-p).toNat 48 ++ l
  else dotZ l ++ [101] ++ sgnZ (p - 1)
theorem text_txt (D : Nat) (j : Int) : textZ D j = txt (decZ D) (j + (decZ D).length) := by
  unfold textZ txt
  rw [show (j + ((decZ D).length : Int) - ((decZ D).length : Int)).toNat = j.toNat by congr 1; omega]
theorem txt_a {l : List Int} {k c : Nat} (hk : l.length = k) (h : (k : Int) + c ≤ 21) : txt l ((k : Int) + c) = l ++ List.replicate c 48 := by
  unfold txt
  rw [if_pos (by omega), show ((k : Int) + c - (l.length : Int)).toNat = c by omega]
theorem txt_b {l : List Int} {q : Nat} (h : q < l.length) (h0 : 0 < q) (h1 : q ≤ 21) : txt l (q : Int) = l.take q ++ [46] ++ l.drop q := by
  unfold txt
  rw [if_neg (by omega), if_pos (by omega), Int.toNat_natCast]
theorem txt_c {l : List Int} {c : Nat} (h : c < 6) (hl : 0 < l.length) : txt l (-(c : Int)) = [48, 46] ++ List.replicate c 48 ++ l := by
  unfold txt
  rw [if_neg (by omega), if_neg (by omega), if_pos (by omega), show (- -(c : Int)).toNat = c by omega]
theorem txt_e {l : List Int} {p : Int} (h : 21 < p ∨ p ≤ -6) (hl : 0 < l.length) : txt l p = dotZ l ++ [101] ++ sgnZ (p - 1) := by
  unfold txt
  rw [if_neg (by omega), if_neg (by omega), if_neg (by omega)]
/-- What both texts answer for a number above 0. -/
def TxIs (w : World) (r : Nat) (e : Ending) (w' : World) : Prop := ∃ (D : Nat) (j : Int), Shr r D j ∧ e = .returned (.string (strOfNums (textZ D j))) ∧ (textZ D j).length ≤ 100 ∧ Below w.heap.size w w'
theorem sgn_size (x : Int) (h0 : -1000 ≤ x) (h1 : x ≤ 1000) : (strOfNums (sgnZ x)).size ≤ 5 ∧ (strOfNums (101 :: sgnZ x)).size ≤ 6 := by
  have := decZ_small (u := x.natAbs) (by omega)
  rw [str_size, str_size]
  unfold sgnZ
  simp
  omega
theorem txt_len {l : List Int} {p : Int} (h1 : 1 ≤ l.length) (h2 : l.length ≤ 18) (p0 : -400 ≤ p) (p1 : p ≤ 420) : (txt l p).length ≤ 100 := by
  have e1 := (sgn_size (p - 1) (by omega) (by omega)).1
  rw [str_size] at e1
  have e2 : (dotZ l).length ≤ 19 := by
    unfold dotZ
    split
    · omega
    · simp; omega
  unfold txt
  split
  · simp; omega
  · split
    · simp; omega
    · split
      · simp; omega
      · simp; omega
theorem TxIs.mk {w w' : World} {r D : Nat} {j p : Int} {l : List Int} {s : ByteArray} (h : Shr r D j) (hl : decZ D = l) (hp : j + (l.length : Int) = p) (hs : s = strOfNums (txt l p)) (h1 : 1 ≤ l.length) (h2 : l.length ≤ 18) (p0 : -400 ≤ p) (p1 : p ≤ 420) (hb : Below w.heap.size w w') : TxIs w r (.returned (.string s)) w' := by
  have e : textZ D j = txt l p := by rw [text_txt, hl, hp]
  refine ⟨D, j, h, ?_, ?_, hb⟩
  · rw [e, hs]
  · rw [e]; exact txt_len h1 h2 p0 p1
theorem compare_self (r : Nat) : compare r r = .eq := Nat.compare_eq_eq.2 rfl
theorem pos_self {r : Nat} (hr : r < 9218868437227405312) : (FloatKind.f64.format.order r r != some .eq) = false := by
  show (Ieee.double.order r r != some .eq) = false
  rw [order_any (by omega) (by omega), compare_self]; rfl
theorem pos_max {r : Nat} (hr : r < 9218868437227405312) : (FloatKind.f64.format.order r 9218868437227405311 == some .gt) = false := by
  show (Ieee.double.order r 9218868437227405311 == some .gt) = false
  rw [order_any (by omega) (by decide)]
  rcases Nat.lt_or_ge r 9218868437227405311 with h | h
  · rw [Nat.compare_eq_lt.2 h]; rfl
  · rw [Nat.compare_eq_eq.2 (by omega)]; rfl
theorem neg_max {r : Nat} (h0 : 0 < r) (hr : r < 9218868437227405312) : (FloatKind.f64.format.order (9223372036854775808 + r) 9218868437227405311 == some .gt) = false := by
  rw [neg_order h0 hr (by decide)]; rfl
theorem pos_zero {r : Nat} (h0 : 0 < r) (hr : r < 9218868437227405312) : FloatKind.f64.format.order r 0 = some .gt := by
  show Ieee.double.order r 0 = _
  rw [order_any (by omega) (by decide), Nat.compare_eq_gt.2 h0]
theorem odd_pos (r : Nat) (w : World) (h0 : 0 < r) (hr : r < 9218868437227405312) : Calls Tryz.prog 7 #[.float .f64 r] w (OddIs w ⟨#[]⟩ false) :=
  odd_walk r _ false false false false ⟨#[]⟩ false w rfl (pos_self hr) (pos_max hr) (by rw [neg_pos (by omega)]; exact neg_max h0 hr) (by rw [pos_zero h0 hr]; rfl) rfl
theorem oddr_pos (r : Nat) (w : World) (h0 : 0 < r) (hr : r < 9218868437227405312) : Calls Tryz.prog 12 #[.float .f64 r] w (OddIs w ⟨#[]⟩ false) :=
  odd_ref r false false false false ⟨#[]⟩ false w (pos_self hr) (by rw [pos_zero h0 hr]; rfl) (pos_max hr)
    (by rw [show (18442240474082181119 : Nat) = 9223372036854775808 + 9218868437227405311 from rfl, pos_order hr (by decide) (by decide)]; rfl) rfl
set_option maxRecDepth 100000 in
theorem trunc_any (r : Nat) (w : World) (hr : r < 4845873199050653696) : Calls Tryz.prog 13 #[.float .f64 r] w fun e w' => e = .returned (.float .f64 (floatOfInt .f64 (trK r : Int))) ∧ w = w' := by
  have hx := ext_trunc r w hr
  obtain ⟨t, ht⟩ : ∃ t, floatOfInt .f64 (trK r : Int) = t := ⟨_, rfl⟩
  rw [ht] at hx ⊢
  clear ht hr
  go_enter Tryz.func13, Tryz.ntmps13
  go_wp2
  go_ret
  exact ⟨rfl, rfl⟩
set_option maxRecDepth 100000 in
set_option maxHeartbeats 1600000 in
theorem text_pos (r : Nat) (w : World) (h0 : 0 < r) (hr : r < 9218868437227405312) (hS : Start w) : Calls Tryz.prog 5 #[.float .f64 r] w (TxIs w r) := by
  have c1 := odd_pos r w h0 hr
  have c2 := digits_prog r w h0 hr hS
  have hlt : (FloatKind.f64.format.order r 0 == some .lt) = false := by rw [pos_zero h0 hr]; rfl
  have g1 := fun _ : True => hlt
  have HS := Lib.hid hS
  clear h0 hr hS hlt
  go_enter Tryz.func5, Tryz.ntmps5
  go_wp2_with fail
  refine c1.mono ?_
  rintro e w1 ⟨rfl, rfl⟩
  clear c1
  go_wp2_with fail
  refine c2.mono ?_
  rintro e w2 ⟨D, j, hsh, rfl, d0, d1, j0, j1, b2⟩
  obtain ⟨k1, k2, _, _⟩ := fmtE_len d1 0
  have HS2 := Lib.hid (HS.out.below b2 (Nat.le_refl _))
  obtain ⟨l, hl⟩ : ∃ l, decZ D = l := ⟨_, rfl⟩
  rw [hl] at k1 k2 ⊢
  obtain ⟨k, hk⟩ : ∃ k, l.length = k := ⟨_, rfl⟩
  have hs := str_size l
  rw [hk] at k1 k2 hs ⊢
  obtain ⟨p, hp⟩ : ∃ p, j + (k : Int) = p := ⟨_, rfl⟩
  rw [hp]
  have hp0 : -400 ≤ p := by omega
  have hp1 : p ≤ 420 := by omega
  have fin : ∀ s w', s = strOfNums (txt l p) → Below w.heap.size w w' → TxIs w r (.returned (.string s)) w' := fun _ _ a b => TxIs.mk hsh hl (by rw [hk, hp]) a (by omega) (by omega) hp0 hp1 b
  have hcases : 21 < p ∨ ((k : Int) ≤ p ∧ p ≤ 21) ∨ (0 < p ∧ p < k) ∨ (-6 < p ∧ p ≤ 0) ∨ p ≤ -6 := by omega
  have B := Lib.hid b2
  have HB := Lib.hid hk
  have FIN := Lib.hid fin
  clear c2 hsh hl hp d0 d1 j0 j1 b2 hk fin
  have armE : (21 < p ∨ p ≤ -6) → (strOfNums (dotZ l)).size ≤ 100 := fun _ => by
    rw [str_size]; unfold dotZ; split
    · have := HB.out; omega
    · have := HB.out; simp; omega
  rcases hcases with h | h | h | h | h
  · have hz := armE (Or.inl h)
    have T := Lib.hid (txt_e (l := l) (Or.inl h) (by have := HB.out; omega))
    have c3 := point_prog l (by have := HB.out; omega) (by have := HB.out; omega) w2
    clear armE
    go_wp2_with fail
    refine c3.mono ?_
    rintro e w3 ⟨rfl, q, hq⟩
    have hb3 := Lib.hid (hq ▸ below_drewN B.out q)
    have HS3 := Lib.hid (hq ▸ HS2.out.below (below_drewN (Below.refl w2.heap.size w2) q) (Nat.le_refl _))
    have c4 := exponent_prog (p - 1) (by omega) (by omega) w3 HS3.out.2.1
    clear hq c3
    have hz4 := (sgn_size (p - 1) (by omega) (by omega)).2
    go_wp2_with fail
    refine c4.mono ?_
    rintro e w4 ⟨rfl, b4⟩
    have B4 := Lib.hid (hb3.out.trans (b4.mono hb3.out.size))
    clear b4 c4
    go_wp2
    go_ret
    refine FIN.out _ _ ?_ B4.out
    show strOfNums (dotZ l) ++ strOfNums ([101] ++ sgnZ (p - 1)) = _
    rw [T.out, str_app, List.append_assoc]
  · obtain ⟨h, h'⟩ := h
    obtain ⟨c, hc⟩ : ∃ c : Nat, p = (k : Int) + c := ⟨(p - k).toNat, by omega⟩
    subst hc
    have g2 := fun _ : True => (show (k : Int) + c - k = c by omega)
    have hc21 : c ≤ 21 := by omega
    have T := Lib.hid (txt_a HB.out h')
    have hs2 : (strOfNums (List.replicate c 48)).size = c := by rw [str_size, List.length_replicate]
    clear armE
    go_wp2_with fail
    refine (repeat_zero c (by omega) w2).mono ?_
    rintro e w3 ⟨rfl, b3⟩
    have B3 := Lib.hid (B.out.trans (b3.mono B.out.size))
    clear b3
    go_wp2
    go_ret
    exact FIN.out _ _ (by rw [T.out, str_app]) B3.out
  · obtain ⟨h, h'⟩ := h
    obtain ⟨q, hq⟩ : ∃ q : Nat, p = q := ⟨p.toNat, by omega⟩
    subst hq
    have T := Lib.hid (txt_b (l := l) (q := q) (by have := HB.out; omega) (by omega) (by omega))
    have HD := Lib.hid (hs ▸ str_drop l q)
    clear armE
    go_wp2
    go_quiet (fail)
    go_wp2
    go_ret
    refine FIN.out _ _ ?_ (below_drewN B.out _)
    show (strOfNums l).extract 0 q ++ strOfNums [46] ++ (strOfNums l).extract q k = _
    rw [T.out, HD.out, str_take, str_app, str_app]
  · obtain ⟨h, h'⟩ := h
    obtain ⟨c, hc⟩ : ∃ c : Nat, p = -(c : Int) := ⟨(-p).toNat, by omega⟩
    subst hc
    have g2 := fun _ : True => (show - -(c : Int) = c by omega)
    have hc6 : c < 6 := by omega
    have T := Lib.hid (txt_c (l := l) hc6 (by have := HB.out; omega))
    have hs2 : (strOfNums (List.replicate c 48)).size = c := by rw [str_size, List.length_replicate]
    clear armE
    go_wp2_with fail
    refine (repeat_zero c (by omega) w2).mono ?_
    rintro e w3 ⟨rfl, b3⟩
    have B3 := Lib.hid (B.out.trans (b3.mono B.out.size))
    clear b3
    go_wp2
    go_ret
    refine FIN.out _ _ ?_ B3.out
    show strOfNums [48, 46] ++ strOfNums (List.replicate c 48) ++ strOfNums l = _
    rw [T.out, str_app, str_app]
  · have hz := armE (Or.inr h)
    have T := Lib.hid (txt_e (l := l) (Or.inr h) (by have := HB.out; omega))
    have c3 := point_prog l (by have := HB.out; omega) (by have := HB.out; omega) w2
    clear armE
    go_wp2_with fail
    refine c3.mono ?_
    rintro e w3 ⟨rfl, q, hq⟩
    have hb3 := Lib.hid (hq ▸ below_drewN B.out q)
    have HS3 := Lib.hid (hq ▸ HS2.out.below (below_drewN (Below.refl w2.heap.size w2) q) (Nat.le_refl _))
    have c4 := exponent_prog (p - 1) (by omega) (by omega) w3 HS3.out.2.1
    clear hq c3
    have hz4 := (sgn_size (p - 1) (by omega) (by omega)).2
    go_wp2_with fail
    refine c4.mono ?_
    rintro e w4 ⟨rfl, b4⟩
    have B4 := Lib.hid (hb3.out.trans (b4.mono hb3.out.size))
    clear b4 c4
    go_wp2
    go_ret
    refine FIN.out _ _ ?_ B4.out
    show strOfNums (dotZ l) ++ strOfNums ([101] ++ sgnZ (p - 1)) = _
    rw [T.out, str_app, List.append_assoc]
end Go.Proofs.YtmhbkilidpbenaaGreatDoor
