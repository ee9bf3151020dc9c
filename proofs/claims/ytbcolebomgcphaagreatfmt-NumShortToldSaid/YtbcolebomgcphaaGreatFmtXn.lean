/- The plain law of a number's text by its ranges; contracts of Trunc and of Text on numbers above 0. Each lemma's conditions stand in its own statement. The law's function: both texts are one, for every word. Each lemma's conditions stand in its own statement. The plain law of reading digits: what the reader of a decimal text has found after each byte. Each lemma's conditions stand in its own statement. -/
import Derived.Test.YtbcolebomgcphaaGreatFmtXh
namespace Go.Proofs.YtbcolebomgcphaaGreatFmt
open Go.RowKit

/-- A number's text from its digits and the place of its point. -/
def txt (l : List Int) (p : Int) : List Int :=
  if (l.length : Int) ≤ p ∧ p ≤ 21 then l ++ List.replicate (p - l.length).toNat 48
  else if 0 < p ∧ p ≤ 21 then l.take p.toNat ++ [46] ++ l.drop p.toNat
  else if -6 < p ∧ p ≤ 0 then [48, 46] ++ List.replicate (-p).toNat 48 ++ l
  else dotZ l ++ [101] ++ sgnZ (p - 1)
theorem text_txt (D : Nat) (j : Int) : textZ D j = txt (decZ D) (j + (decZ D).length) := by
  unfold textZ txt
  rw [show (j + ((decZ D).length : Int) - ((decZ D).length : Int)).toNat = j.toNat by congr 1; omega]
theorem txt_a {l : List Int} {k c : Nat} (hk : l.length = k) (h : (k : Int) + c ≤ 21) : txt l ((k : Int) + c) = l ++ List.replicate c 48 := by
  unfold txt
  rw [if_pos (by omega), show ((k : Int) + c - (l.length : Int)).toNat = c by omega]
theorem txt_b {l : List Int} {q : Nat} (h : q < l.length) (h0 : 0 < q) (h1 : q ≤ 21) : txt l (q : Int) = l.take q ++ [46] ++ l.drop q := by
  unfold txt
  rw [if_neg (by omega), if_pos (by omega), Int.toNat_natCast]
theorem txt_c {l : List Int} {c : Nat} (h : c < 6) (hl : 0 < l.length) : txt l (-(c : Int)) = [48, 46] ++ List.replicate c 48 ++ l := by
  unfold txt
  rw [if_neg (by omega), if_neg (by omega), if_pos (by omega), show (- -(c : Int)).toNat = c by omega]
theorem txt_e {l : List Int} {p : Int} (h : 21 < p ∨ p ≤ -6) (hl : 0 < l.length) : txt l p = dotZ l ++ [101] ++ sgnZ (p - 1) := by
  unfold txt
  rw [if_neg (by omega), if_neg (by omega), if_neg (by omega)]
/-- What both texts answer for a number above 0. -/
def TxIs (w : World) (r : Nat) (e : Ending) (w' : World) : Prop := ∃ (D : Nat) (j : Int), Shr r D j ∧ e = .returned (.string (strOfNums (textZ D j))) ∧ (textZ D j).length ≤ 100 ∧ Below w.heap.size w w'
theorem sgn_size (x : Int) (h0 : -1000 ≤ x) (h1 : x ≤ 1000) : (strOfNums (sgnZ x)).size ≤ 5 ∧ (strOfNums (101 :: sgnZ x)).size ≤ 6 := by
  have := decZ_small (u := x.natAbs) (by omega)
  rw [str_size, str_size]
  unfold sgnZ
  simp
  omega
theorem txt_len {l : List Int} {p : Int} (h1 : 1 ≤ l.length) (h2 : l.length ≤ 18) (p0 : -400 ≤ p) (p1 : p ≤ 420) : (txt l p).length ≤ 100 := by
  have e1 := (sgn_size (p - 1) (by omega) (by omega)).1
  rw [str_size] at e1
  have e2 : (dotZ l).length ≤ 19 := by
    unfold dotZ
    split
    · omega
    · simp; omega
  unfold txt
  split
  · simp; omega
  · split
    · simp; omega
    · split
      · simp; omega
      · simp; omega
theorem TxIs.mk {w w' : World} {r D : Nat} {j p : Int} {l : List Int} {s : ByteArray} (h : Shr r D j) (hl : decZ D = l) (hp : j + (l.length : Int) = p) (hs : s = strOfNums (txt l p)) (h1 : 1 ≤ l.length) (h2 : l.length ≤ 18) (p0 : -400 ≤ p) (p1 : p ≤ 420) (hb : Below w.heap.size w w') : TxIs w r (.returned (.string s)) w' := by
  have e : textZ D j = txt l p := by rw [text_txt, hl, hp]
  refine ⟨D, j, h, ?_, ?_, hb⟩
  · rw [e, hs]
  · rw [e]; exact txt_len h1 h2 p0 p1
theorem compare_self (r : Nat) : compare r r = .eq := Nat.compare_eq_eq.2 rfl
theorem pos_self {r : Nat} (hr : r < 9218868437227405312) : (FloatKind.f64.format.order r r != some .eq) = false := by
  show (Ieee.double.order r r != some .eq) = false
  rw [order_any (by omega) (by omega), compare_self]; rfl
theorem pos_max {r : Nat} (hr : r < 9218868437227405312) : (FloatKind.f64.format.order r 9218868437227405311 == some .gt) = false := by
  show (Ieee.double.order r 9218868437227405311 == some .gt) = false
  rw [order_any (by omega) (by decide)]
  rcases Nat.lt_or_ge r 9218868437227405311 with h | h
  · rw [Nat.compare_eq_lt.2 h]; rfl
  · rw [Nat.compare_eq_eq.2 (by omega)]; rfl
theorem neg_max {r : Nat} (h0 : 0 < r) (hr : r < 9218868437227405312) : (FloatKind.f64.format.order (9223372036854775808 + r) 9218868437227405311 == some .gt) = false := by
  rw [neg_order h0 hr (by decide)]; rfl
theorem pos_zero {r : Nat} (h0 : 0 < r) (hr : r < 9218868437227405312) : FloatKind.f64.format.order r 0 = some .gt := by
  show Ieee.double.order r 0 = _
  rw [order_any (by omega) (by decide), Nat.compare_eq_gt.2 h0]
theorem odd_pos (r : Nat) (w : World) (h0 : 0 < r) (hr : r < 9218868437227405312) : Calls Tryz.prog 9 #[.float .f64 r] w (OddIs w ⟨#[]⟩ false) :=
  odd_walk r _ false false false false ⟨#[]⟩ false w rfl (pos_self hr) (pos_max hr) (by rw [neg_pos (by omega)]; exact neg_max h0 hr) (by rw [pos_zero h0 hr]; rfl) rfl
set_option maxRecDepth 100000 in
set_option maxHeartbeats 1600000 in
theorem text_pos (r : Nat) (w : World) (h0 : 0 < r) (hr : r < 9218868437227405312) (hS : Start w) : Calls Tryz.prog 5 #[.float .f64 r] w (TxIs w r) := by
  have c1 := odd_pos r w h0 hr
  have c2 := digits_prog r w h0 hr hS
  have hlt : (FloatKind.f64.format.order r 0 == some .lt) = false := by rw [pos_zero h0 hr]; rfl
  have g1 := fun _ : True => hlt
  have HS := Lib.hid hS
  clear h0 hr hS hlt
  go_enter Tryz.func5, Tryz.ntmps5
  go_wp2_with fail
  refine c1.mono ?_
  rintro e w1 ⟨rfl, rfl⟩
  clear c1
  go_wp2_with fail
  refine c2.mono ?_
  rintro e w2 ⟨D, j, hsh, rfl, d0, d1, j0, j1, b2⟩
  obtain ⟨k1, k2, _, _⟩ := fmtE_len d1 0
  have HS2 := Lib.hid (HS.out.below b2 (Nat.le_refl _))
  obtain ⟨l, hl⟩ : ∃ l, decZ D = l := ⟨_, rfl⟩
  rw [hl] at k1 k2 ⊢
  obtain ⟨k, hk⟩ : ∃ k, l.length = k := ⟨_, rfl⟩
  have hs := str_size l
  rw [hk] at k1 k2 hs ⊢
  obtain ⟨p, hp⟩ : ∃ p, j + (k : Int) = p := ⟨_, rfl⟩
  rw [hp]
  have hp0 : -400 ≤ p := by omega
  have hp1 : p ≤ 420 := by omega
  have fin : ∀ s w', s = strOfNums (txt l p) → Below w.heap.size w w' → TxIs w r (.returned (.string s)) w' := fun _ _ a b => TxIs.mk hsh hl (by rw [hk, hp]) a (by omega) (by omega) hp0 hp1 b
  have hcases : 21 < p ∨ ((k : Int) ≤ p ∧ p ≤ 21) ∨ (0 < p ∧ p < k) ∨ (-6 < p ∧ p ≤ 0) ∨ p ≤ -6 := by omega
  have B := Lib.hid b2
  have HB := Lib.hid hk
  have FIN := Lib.hid fin
  clear c2 hsh hl hp d0 d1 j0 j1 b2 hk fin
  have armE : (21 < p ∨ p ≤ -6) → (strOfNums (dotZ l)).size ≤ 100 := fun _ => by
    rw [str_size]; unfold dotZ; split
    · have := HB.out; omega
    · have := HB.out; simp; omega
  rcases hcases with h | h | h | h | h
  · have hz := armE (Or.inl h)
    have T := Lib.hid (txt_e (l := l) (Or.inl h) (by have := HB.out; omega))
    have c3 := point_prog l (by have := HB.out; omega) (by have := HB.out; omega) w2
    clear armE
    go_wp2_with fail
    refine c3.mono ?_
    rintro e w3 ⟨rfl, q, hq⟩
    have hb3 := Lib.hid (hq ▸ below_drewN B.out q)
    have HS3 := Lib.hid (hq ▸ HS2.out.below (below_drewN (Below.refl w2.heap.size w2) q) (Nat.le_refl _))
    have c4 := exponent_prog (p - 1) (by omega) (by omega) w3 HS3.out.2.1
    clear hq c3
    have hz4 := (sgn_size (p - 1) (by omega) (by omega)).2
    go_wp2_with fail
    refine c4.mono ?_
    rintro e w4 ⟨rfl, b4⟩
    have B4 := Lib.hid (hb3.out.trans (b4.mono hb3.out.size))
    clear b4 c4
    go_wp2
    go_ret
    refine FIN.out _ _ ?_ B4.out
    show strOfNums (dotZ l) ++ strOfNums ([101] ++ sgnZ (p - 1)) = _
    rw [T.out, str_app, List.append_assoc]
  · obtain ⟨h, h'⟩ := h
    obtain ⟨c, hc⟩ : ∃ c : Nat, p = (k : Int) + c := ⟨(p - k).toNat, by omega⟩
    subst hc
    have g2 := fun _ : True => (show (k : Int) + c - k = c by omega)
    have hc21 : c ≤ 21 := by omega
    have T := Lib.hid (txt_a HB.out h')
    have hs2 : (strOfNums (List.replicate c 48)).size = c := by rw [str_size, List.length_replicate]
    clear armE
    go_wp2_with fail
    refine (repeat_zero c (by omega) w2).mono ?_
    rintro e w3 ⟨rfl, b3⟩
    have B3 := Lib.hid (B.out.trans (b3.mono B.out.size))
    clear b3
    go_wp2
    go_ret
    exact FIN.out _ _ (by rw [T.out, str_app]) B3.out
  · obtain ⟨h, h'⟩ := h
    obtain ⟨q, hq⟩ : ∃ q : Nat, p = q := ⟨p.toNat, by omega⟩
    subst hq
    have T := Lib.hid (txt_b (l := l) (q := q) (by have := HB.out; omega) (by omega) (by omega))
    have HD := Lib.hid (hs ▸ str_drop l q)
    clear armE
    go_wp2
    go_quiet (fail)
    go_wp2
    go_ret
    refine FIN.out _ _ ?_ (below_drewN B.out _)
    show (strOfNums l).extract 0 q ++ strOfNums [46] ++ (strOfNums l).extract q k = _
    rw [T.out, HD.out, str_take, str_app, str_app]
  · obtain ⟨h, h'⟩ := h
    obtain ⟨c, hc⟩ : ∃ c : Nat, p = -(c : Int) := ⟨(-p).toNat, by omega⟩
    subst hc
    have g2 := fun _ : True => (show - -(c : Int) = c by omega)
    have hc6 : c < 6 := by omega
    have T := Lib.hid (txt_c (l := l) hc6 (by have := HB.out; omega))
    have hs2 : (strOfNums (List.replicate c 48)).size = c := by rw [str_size, List.length_replicate]
    clear armE
    go_wp2_with fail
    refine (repeat_zero c (by omega) w2).mono ?_
    rintro e w3 ⟨rfl, b3⟩
    have B3 := Lib.hid (B.out.trans (b3.mono B.out.size))
    clear b3
    go_wp2
    go_ret
    refine FIN.out _ _ ?_ B3.out
    show strOfNums [48, 46] ++ strOfNums (List.replicate c 48) ++ strOfNums l = _
    rw [T.out, str_app, str_app]
  · have hz := armE (Or.inr h)
    have T := Lib.hid (txt_e (l := l) (Or.inr h) (by have := HB.out; omega))
    have c3 := point_prog l (by have := HB.out; omega) (by have := HB.out; omega) w2
    clear armE
    go_wp2_with fail
    refine c3.mono ?_
    rintro e w3 ⟨rfl, q, hq⟩
    have hb3 := Lib.hid (hq ▸ below_drewN B.out q)
    have HS3 := Lib.hid (hq ▸ HS2.out.below (below_drewN (Below.refl w2.heap.size w2) q) (Nat.le_refl _))
    have c4 := exponent_prog (p - 1) (by omega) (by omega) w3 HS3.out.2.1
    clear hq c3
    have hz4 := (sgn_size (p - 1) (by omega) (by omega)).2
    go_wp2_with fail
    refine c4.mono ?_
    rintro e w4 ⟨rfl, b4⟩
    have B4 := Lib.hid (hb3.out.trans (b4.mono hb3.out.size))
    clear b4 c4
    go_wp2
    go_ret
    refine FIN.out _ _ ?_ B4.out
    show strOfNums (dotZ l) ++ strOfNums ([101] ++ sgnZ (p - 1)) = _
    rw [T.out, str_app, List.append_assoc]
end Go.Proofs.YtbcolebomgcphaaGreatFmt

namespace Go.Proofs.YtbcolebomgcphaaGreatFmt
open Go.RowKit

/-- A string that has the property, and nothing else changed. -/
def StrIs (w : World) (Q : ByteArray → Prop) (e : Ending) (w' : World) : Prop := ∃ s, Q s ∧ e = .returned (.string s) ∧ Below w.heap.size w w'
set_option maxRecDepth 100000 in
theorem text_odd (b : Nat) (s : ByteArray) (w : World) (h : Calls Tryz.prog 9 #[.float .f64 b] w (OddIs w s true)) : Calls Tryz.prog 5 #[.float .f64 b] w (StrIs w (· = s)) := by
  go_enter Tryz.func5, Tryz.ntmps5
  go_wp2_with fail
  refine h.mono ?_
  rintro e w1 ⟨rfl, rfl⟩
  clear h
  go_wp2
  go_ret
  exact ⟨_, rfl, rfl, Below.refl _ _⟩
def PosQ (r : Nat) (s : ByteArray) : Prop := ∃ (D : Nat) (j : Int), Shr r D j ∧ s = strOfNums (textZ D j)
def NegQ (r : Nat) (s : ByteArray) : Prop := ∃ (D : Nat) (j : Int), Shr r D j ∧ s = strOfNums (45 :: textZ D j)
theorem posQ_of {w w' : World} {r : Nat} {e : Ending} (h : TxIs w r e w') : StrIs w (PosQ r) e w' := by
  obtain ⟨D, j, hs, rfl, _, hb⟩ := h
  exact ⟨_, ⟨D, j, hs, rfl⟩, rfl, hb⟩
theorem neg_self {r : Nat} (hr : r < 9218868437227405312) : (FloatKind.f64.format.order (9223372036854775808 + r) (9223372036854775808 + r) != some .eq) = false := by
  rw [neg_order2 hr hr, compare_self]; rfl
theorem neg_zero {r : Nat} (h0 : 0 < r) (hr : r < 9218868437227405312) : FloatKind.f64.format.order (9223372036854775808 + r) 0 = some .lt := neg_order h0 hr (by decide)
theorem odd_neg (r : Nat) (w : World) (h0 : 0 < r) (hr : r < 9218868437227405312) : Calls Tryz.prog 9 #[.float .f64 (9223372036854775808 + r)] w (OddIs w ⟨#[]⟩ false) :=
  odd_walk _ r false false false false ⟨#[]⟩ false w (neg_neg' (by omega)) (neg_self hr) (neg_max h0 hr) (pos_max hr) (by rw [neg_zero h0 hr]; rfl) rfl
theorem neg_str (l : List Int) : strOfNums [45] ++ strOfNums l = strOfNums (45 :: l) := by rw [str_app]; rfl
set_option maxRecDepth 100000 in
theorem text_neg (r : Nat) (w : World) (h0 : 0 < r) (hr : r < 9218868437227405312) (hS : Start w) : Calls Tryz.prog 5 #[.float .f64 (9223372036854775808 + r)] w (StrIs w (NegQ r)) := by
  have c1 := odd_neg r w h0 hr
  have c2 := text_pos r w h0 hr hS
  have hlt : (FloatKind.f64.format.order (9223372036854775808 + r) 0 == some .lt) = true := by rw [neg_zero h0 hr]; rfl
  have hn := run_neg (9223372036854775808 + r) w
  rw [neg_neg' (by omega)] at hn
  obtain ⟨b, hb⟩ : ∃ b, 9223372036854775808 + r = b := ⟨_, rfl⟩
  rw [hb] at c1 hlt hn ⊢
  have g1 := fun _ : True => hlt
  clear h0 hr hS hlt hb
  go_enter Tryz.func5, Tryz.ntmps5
  go_wp2_with fail
  refine c1.mono ?_
  rintro e w1 ⟨rfl, rfl⟩
  clear c1
  go_wp2_with fail
  refine c2.mono ?_
  rintro e w2 ⟨D, j, hsh, rfl, hlen, b2⟩
  have hsz := str_size (textZ D j)
  have HS := Lib.hid hsh
  have B := Lib.hid b2
  clear c2 hsh b2
  go_wp2
  go_ret
  exact ⟨_, ⟨D, j, HS.out, neg_str _⟩, rfl, B.out⟩
end Go.Proofs.YtbcolebomgcphaaGreatFmt

namespace Go.Proofs.YtbcolebomgcphaaGreatFmt
open Go.RowKit Go.Sort

/-- What the reader has found: a point? a digit? how many digits that count, how many of them were taken; where the point stands; the number; was a digit that is not 0 left out? -/
structure RdSt where
  dot : Bool
  dig : Bool
  nd : Nat
  ndm : Nat
  dp : Int
  m : Nat
  tr : Bool
def rdStart : RdSt := ⟨false, false, 0, 0, 0, 0, false⟩
def rdStep (s : RdSt) (c : Int) : RdSt :=
  if c = 46 then ⟨true, s.dig, s.nd, s.ndm, s.nd, s.m, s.tr⟩
  else if c = 48 ∧ s.nd = 0 then ⟨s.dot, true, s.nd, s.ndm, s.dp - 1, s.m, s.tr⟩
  else if s.ndm < 19 then ⟨s.dot, true, s.nd + 1, s.ndm + 1, s.dp, s.m * 10 + (c - 48).toNat, s.tr⟩
  else ⟨s.dot, true, s.nd + 1, s.ndm, s.dp, s.m, s.tr || c != 48⟩
def rdFold (s : RdSt) (l : List Int) : RdSt := l.foldl rdStep s
theorem rdFold_app (s : RdSt) (a b : List Int) : rdFold s (a ++ b) = rdFold (rdFold s a) b := List.foldl_append
theorem rdFold_snoc (s : RdSt) (a : List Int) (c : Int) : rdFold s (a ++ [c]) = rdStep (rdFold s a) c := by rw [rdFold_app]; rfl
/-- The number that digits write. -/
def valZ (l : List Int) : Nat := l.foldl (fun v c => v * 10 + (c - 48).toNat) 0
theorem valZ_snoc (l : List Int) (c : Int) : valZ (l ++ [c]) = valZ l * 10 + (c - 48).toNat := by unfold valZ; rw [List.foldl_append]; rfl
theorem snoc_ind {P : List Int → Prop} (h0 : P []) (h1 : ∀ l c, P l → P (l ++ [c])) (l : List Int) : P l := by
  have : ∀ r : List Int, P r.reverse := by
    intro r
    induction r with
    | nil => exact h0
    | cons c r ih => rw [List.reverse_cons]; exact h1 _ _ ih
  have h := this l.reverse
  rwa [List.reverse_reverse] at h
theorem valZ_app (a b : List Int) : valZ (a ++ b) = valZ a * 10 ^ b.length + valZ b := by
  refine snoc_ind (P := fun b => valZ (a ++ b) = valZ a * 10 ^ b.length + valZ b) (by simp [valZ]) (fun b c ih => ?_) b
  · rw [← List.append_assoc, valZ_snoc, valZ_snoc, ih, List.length_append, List.length_singleton, Nat.pow_succ]
    grind
theorem decZ_snoc (D : Nat) (h : 10 ≤ D) : decZ D = decZ (D / 10) ++ [((D % 10 : Nat) : Int) + 48] := by
  unfold decZ
  rw [if_neg (by omega), if_neg (by omega), leD_pos (by omega), List.reverse_cons, asc_append]
  rfl
theorem decZ_one_digit (D : Nat) (h : D < 10) : decZ D = [((D : Nat) : Int) + 48] := by
  unfold decZ
  rcases Nat.eq_zero_or_pos D with g | g
  · subst g; rfl
  · rw [if_neg (by omega), leD_pos g, Nat.div_eq_of_lt h, leD_zero, Nat.mod_eq_of_lt h]
    rfl
theorem valZ_dec (D : Nat) : valZ (decZ D) = D := by
  induction D using Nat.strongRecOn with
  | _ D ih =>
    rcases Nat.lt_or_ge D 10 with h | h
    · rw [decZ_one_digit D h]
      show 0 * 10 + (((D : Nat) : Int) + 48 - 48).toNat = D
      omega
    · rw [decZ_snoc D h, valZ_snoc, ih (D / 10) (by omega)]
      omega
theorem valZ_zeros (c : Nat) : valZ (List.replicate c 48) = 0 := by
  induction c with
  | zero => rfl
  | succ c ih => rw [List.replicate_succ', valZ_snoc, ih]; rfl
def IsDig (l : List Int) : Prop := ∀ z ∈ l, 48 ≤ z ∧ z ≤ 57
theorem IsDig.app {a b : List Int} (ha : IsDig a) (hb : IsDig b) : IsDig (a ++ b) := fun z hz => (List.mem_append.1 hz).elim (ha z) (hb z)
theorem IsDig.left {a b : List Int} (h : IsDig (a ++ b)) : IsDig a := fun z hz => h z (List.mem_append.2 (.inl hz))
theorem IsDig.right {a b : List Int} (h : IsDig (a ++ b)) : IsDig b := fun z hz => h z (List.mem_append.2 (.inr hz))
theorem IsDig.zeros (c : Nat) : IsDig (List.replicate c 48) := fun z hz => by rw [List.eq_of_mem_replicate hz]; omega
theorem IsDig.dec (D : Nat) : IsDig (decZ D) := decZ_dig D
theorem IsDig.take {l : List Int} (h : IsDig l) (n : Nat) : IsDig (l.take n) := fun z hz => h z (List.mem_of_mem_take hz)
theorem IsDig.drop {l : List Int} (h : IsDig l) (n : Nat) : IsDig (l.drop n) := fun z hz => h z (List.mem_of_mem_drop hz)
/-- Zeros ahead of everything. -/
theorem fold_lead (s : RdSt) (c : Nat) (h : s.nd = 0) : rdFold s (List.replicate c 48) = ⟨s.dot, s.dig || decide (0 < c), 0, s.ndm, s.dp - c, s.m, s.tr⟩ := by
  induction c with
  | zero => cases s; simp at h; subst h; simp [rdFold]
  | succ c ih =>
    rw [List.replicate_succ', rdFold_snoc, ih, rdStep]
    simp
    omega
/-- Digits that count, as long as fewer than twenty were taken. -/
theorem fold_sig (s : RdSt) (l : List Int) (hl : IsDig l) (h1 : s.nd = 0 → ∀ z, l.head? = some z → z ≠ 48) (h2 : s.ndm + l.length ≤ 19) :
    rdFold s l = ⟨s.dot, s.dig || decide (0 < l.length), s.nd + l.length, s.ndm + l.length, s.dp, s.m * 10 ^ l.length + valZ l, s.tr⟩ := by
  revert hl h1 h2
  refine snoc_ind (P := fun l => IsDig l → (s.nd = 0 → ∀ z, l.head? = some z → z ≠ 48) → s.ndm + l.length ≤ 19 → rdFold s l = ⟨s.dot, s.dig || decide (0 < l.length), s.nd + l.length, s.ndm + l.length, s.dp, s.m * 10 ^ l.length + valZ l, s.tr⟩) (by intro _ _ _; cases s; simp [rdFold, valZ]) (fun l c ih hl h1 h2 => ?_) l
  · rw [List.length_append, List.length_singleton] at h2
    have hc := hl c (by simp)
    rw [rdFold_snoc, ih hl.left (fun h z hz => h1 h z (by
      cases l with
      | nil => simp at hz
      | cons x l => simpa using hz)) (by omega), rdStep, if_neg (by omega)]
    have hn : ¬ (c = 48 ∧ s.nd + l.length = 0) := by
      rintro ⟨e1, e2⟩
      have : l = [] := List.length_eq_zero_iff.1 (by omega)
      subst this
      exact h1 (by omega) c rfl e1
    rw [if_neg hn, if_pos (by show s.ndm + l.length < 19; omega), valZ_snoc, List.length_append, List.length_singleton]
    congr 1
    · simp
    · rw [Nat.pow_succ]; grind
/-- Zeros behind, when nineteen were taken. -/
theorem fold_tail (s : RdSt) (c : Nat) (h0 : 0 < s.nd) (h : s.ndm = 19) : rdFold s (List.replicate c 48) = ⟨s.dot, s.dig || decide (0 < c), s.nd + c, s.ndm, s.dp, s.m, s.tr⟩ := by
  induction c with
  | zero => cases s; simp [rdFold]
  | succ c ih =>
    rw [List.replicate_succ', rdFold_snoc, ih, rdStep, if_neg (by omega), if_neg (by simp; omega), if_neg (by simp; omega)]
    simp
    omega
theorem fold_dot (s : RdSt) : rdFold s [46] = ⟨true, s.dig, s.nd, s.ndm, s.nd, s.m, s.tr⟩ := rfl
end Go.Proofs.YtbcolebomgcphaaGreatFmt
