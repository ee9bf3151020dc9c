/- The law's function: both texts are one, for every word. Each lemma's conditions stand in its own statement. -/
import Derived.Test.YtmhbkilidpbenaaGreatDoorXo
namespace Go.Proofs.YtmhbkilidpbenaaGreatDoor
open Go.RowKit

/-- A string that has the property, and nothing else changed. -/
def StrIs (w : World) (Q : ByteArray → Prop) (e : Ending) (w' : World) : Prop := ∃ s, Q s ∧ e = .returned (.string s) ∧ Below w.heap.size w w'
set_option maxRecDepth 100000 in
theorem law_walk (b : Nat) (w : World) (Q : ByteArray → Prop) (hu : ∀ s s', Q s → Q s' → s = s') (h5 : Calls Tryz.prog 5 #[.float .f64 b] w (StrIs w Q)) (h6 : ∀ w', Calls Tryz.prog 6 #[.float .f64 b] w' (StrIs w' Q)) :
    Calls Tryz.prog 3 #[.int .u64 b] w fun e w' => e = .returned (.bool true) ∧ Below w.heap.size w w' := by
  have hx := ext_frombits b w
  rw [Int.toNat_natCast] at hx
  go_enter Tryz.func3, Tryz.ntmps3
  go_wp2_with fail
  refine h5.mono ?_
  rintro e w1 ⟨s, hs, rfl, b1⟩
  clear h5 hx
  go_wp2_with fail
  refine (h6 w1).mono ?_
  rintro e w2 ⟨s', hs', rfl, b2⟩
  obtain rfl := hu _ _ hs hs'
  have B := Lib.hid (b1.trans (b2.mono b1.size))
  clear h6 hu hs hs' b1 b2
  go_wp2
  go_ret
  exact ⟨by simp, B.out⟩
set_option maxRecDepth 100000 in
theorem text_odd (b : Nat) (s : ByteArray) (w : World) (h : Calls Tryz.prog 7 #[.float .f64 b] w (OddIs w s true)) : Calls Tryz.prog 5 #[.float .f64 b] w (StrIs w (· = s)) := by
  go_enter Tryz.func5, Tryz.ntmps5
  go_wp2_with fail
  refine h.mono ?_
  rintro e w1 ⟨rfl, rfl⟩
  clear h
  go_wp2
  go_ret
  exact ⟨_, rfl, rfl, Below.refl _ _⟩
set_option maxRecDepth 100000 in
theorem numtext_odd (b : Nat) (s : ByteArray) (w : World) (h : Calls Tryz.prog 12 #[.float .f64 b] w (OddIs w s true)) : Calls Tryz.prog 6 #[.float .f64 b] w (StrIs w (· = s)) := by
  go_enter Tryz.func6, Tryz.ntmps6
  go_wp2_with fail
  refine h.mono ?_
  rintro e w1 ⟨rfl, rfl⟩
  clear h
  go_wp2
  go_ret
  exact ⟨_, rfl, rfl, Below.refl _ _⟩
def PosQ (r : Nat) (s : ByteArray) : Prop := ∃ (D : Nat) (j : Int), Shr r D j ∧ s = strOfNums (textZ D j)
def NegQ (r : Nat) (s : ByteArray) : Prop := ∃ (D : Nat) (j : Int), Shr r D j ∧ s = strOfNums (45 :: textZ D j)
theorem posQ_uniq (r : Nat) (s s' : ByteArray) (h : PosQ r s) (h' : PosQ r s') : s = s' := by
  obtain ⟨D, j, hs, rfl⟩ := h
  obtain ⟨D', j', hs', rfl⟩ := h'
  obtain ⟨rfl, rfl⟩ := hs.uniq hs'
  rfl
theorem negQ_uniq (r : Nat) (s s' : ByteArray) (h : NegQ r s) (h' : NegQ r s') : s = s' := by
  obtain ⟨D, j, hs, rfl⟩ := h
  obtain ⟨D', j', hs', rfl⟩ := h'
  obtain ⟨rfl, rfl⟩ := hs.uniq hs'
  rfl
theorem posQ_of {w w' : World} {r : Nat} {e : Ending} (h : TxIs w r e w') : StrIs w (PosQ r) e w' := by
  obtain ⟨D, j, hs, rfl, _, hb⟩ := h
  exact ⟨_, ⟨D, j, hs, rfl⟩, rfl, hb⟩
theorem neg_self {r : Nat} (hr : r < 9218868437227405312) : (FloatKind.f64.format.order (9223372036854775808 + r) (9223372036854775808 + r) != some .eq) = false := by
  rw [neg_order2 hr hr, compare_self]; rfl
theorem neg_zero {r : Nat} (h0 : 0 < r) (hr : r < 9218868437227405312) : FloatKind.f64.format.order (9223372036854775808 + r) 0 = some .lt := neg_order h0 hr (by decide)
theorem odd_neg (r : Nat) (w : World) (h0 : 0 < r) (hr : r < 9218868437227405312) : Calls Tryz.prog 7 #[.float .f64 (9223372036854775808 + r)] w (OddIs w ⟨#[]⟩ false) :=
  odd_walk _ r false false false false ⟨#[]⟩ false w (neg_neg' (by omega)) (neg_self hr) (neg_max h0 hr) (pos_max hr) (by rw [neg_zero h0 hr]; rfl) rfl
theorem oddr_neg (r : Nat) (w : World) (h0 : 0 < r) (hr : r < 9218868437227405312) : Calls Tryz.prog 12 #[.float .f64 (9223372036854775808 + r)] w (OddIs w ⟨#[]⟩ false) :=
  odd_ref _ false false false false ⟨#[]⟩ false w (neg_self hr) (by rw [neg_zero h0 hr]; rfl) (neg_max h0 hr)
    (by
      rw [show (18442240474082181119 : Nat) = 9223372036854775808 + 9218868437227405311 from rfl, neg_order2 hr (by decide)]
      rcases Nat.lt_or_ge r 9218868437227405311 with h | h
      · rw [Nat.compare_eq_gt.2 h]; rfl
      · rw [Nat.compare_eq_eq.2 (by omega)]; rfl) rfl
theorem neg_str (l : List Int) : strOfNums [45] ++ strOfNums l = strOfNums (45 :: l) := by rw [str_app]; rfl
set_option maxRecDepth 100000 in
theorem text_neg (r : Nat) (w : World) (h0 : 0 < r) (hr : r < 9218868437227405312) (hS : Start w) : Calls Tryz.prog 5 #[.float .f64 (9223372036854775808 + r)] w (StrIs w (NegQ r)) := by
  have c1 := odd_neg r w h0 hr
  have c2 := text_pos r w h0 hr hS
  have hlt : (FloatKind.f64.format.order (9223372036854775808 + r) 0 == some .lt) = true := by rw [neg_zero h0 hr]; rfl
  have hn := run_neg (9223372036854775808 + r) w
  rw [neg_neg' (by omega)] at hn
  obtain ⟨b, hb⟩ : ∃ b, 9223372036854775808 + r = b := ⟨_, rfl⟩
  rw [hb] at c1 hlt hn ⊢
  have g1 := fun _ : True => hlt
  clear h0 hr hS hlt hb
  go_enter Tryz.func5, Tryz.ntmps5
  go_wp2_with fail
  refine c1.mono ?_
  rintro e w1 ⟨rfl, rfl⟩
  clear c1
  go_wp2_with fail
  refine c2.mono ?_
  rintro e w2 ⟨D, j, hsh, rfl, hlen, b2⟩
  have hsz := str_size (textZ D j)
  have HS := Lib.hid hsh
  have B := Lib.hid b2
  clear c2 hsh b2
  go_wp2
  go_ret
  exact ⟨_, ⟨D, j, HS.out, neg_str _⟩, rfl, B.out⟩
set_option maxRecDepth 100000 in
theorem numtext_neg (r : Nat) (w : World) (h0 : 0 < r) (hr : r < 9218868437227405312) : Calls Tryz.prog 6 #[.float .f64 (9223372036854775808 + r)] w (StrIs w (NegQ r)) := by
  have c1 := oddr_neg r w h0 hr
  have c2 := numtext_pos r w h0 hr
  have hlt : (FloatKind.f64.format.order (9223372036854775808 + r) 0 == some .lt) = true := by rw [neg_zero h0 hr]; rfl
  have hn := run_neg (9223372036854775808 + r) w
  rw [neg_neg' (by omega)] at hn
  obtain ⟨b, hb⟩ : ∃ b, 9223372036854775808 + r = b := ⟨_, rfl⟩
  rw [hb] at c1 hlt hn ⊢
  have g1 := fun _ : True => hlt
  clear h0 hr hlt hb
  go_enter Tryz.func6, Tryz.ntmps6
  go_wp2_with fail
  refine c1.mono ?_
  rintro e w1 ⟨rfl, rfl⟩
  clear c1
  go_wp2_with fail
  refine c2.mono ?_
  rintro e w2 ⟨D, j, hsh, rfl, hlen, b2⟩
  have hsz := str_size (textZ D j)
  have HS := Lib.hid hsh
  have B := Lib.hid b2
  clear c2 hsh b2
  go_wp2
  go_ret
  exact ⟨_, ⟨D, j, HS.out, neg_str _⟩, rfl, B.out⟩
theorem law_odd (b : Nat) (s : ByteArray) (w : World) (h : ∀ w, Calls Tryz.prog 7 #[.float .f64 b] w (OddIs w s true)) (h' : ∀ w, Calls Tryz.prog 12 #[.float .f64 b] w (OddIs w s true)) :
    Calls Tryz.prog 3 #[.int .u64 b] w fun e w' => e = .returned (.bool true) ∧ Below w.heap.size w w' :=
  law_walk b w (· = s) (fun _ _ a b => a.trans b.symm) (text_odd b s w (h w)) fun w' => numtext_odd b s w' (h' w')
/-- THE LAW: both texts of any word are one. -/
theorem law_any (b : Nat) (hb : b < 18446744073709551616) (w : World) (hS : Start w) :
    Calls Tryz.prog 3 #[.int .u64 b] w fun e w' => e = .returned (.bool true) ∧ Below w.heap.size w w' := by
  have hc : 9218868437227405312 < b % 9223372036854775808 ∨ b = 9218868437227405312 ∨ b = 18442240474082181120 ∨ b = 0 ∨ b = 9223372036854775808 ∨ (0 < b ∧ b < 9218868437227405312)
      ∨ ∃ r, b = 9223372036854775808 + r ∧ 0 < r ∧ r < 9218868437227405312 := by
    by_cases g : ∃ r, b = 9223372036854775808 + r ∧ 0 < r ∧ r < 9218868437227405312
    · exact Or.inr (Or.inr (Or.inr (Or.inr (Or.inr (Or.inr g)))))
    · have : ¬ (9223372036854775808 < b ∧ b < 18442240474082181120) := fun k => g ⟨b - 9223372036854775808, by omega, by omega, by omega⟩
      omega
  rcases hc with h | rfl | rfl | rfl | rfl | ⟨h0, hr⟩ | ⟨r, rfl, h0, hr⟩
  · have e : (FloatKind.f64.format.order b b != some .eq) = true := by rw [nan_order h]; rfl
    exact law_odd b ⟨#[78, 97, 78]⟩ w (fun w => odd_walk b _ true _ _ _ _ true w rfl e rfl rfl rfl rfl) (fun w => odd_ref b true _ _ _ _ true w e rfl rfl rfl rfl)
  · exact law_odd _ ⟨#[73, 110, 102, 105, 110, 105, 116, 121]⟩ w (fun w => odd_walk _ _ false true _ _ _ true w rfl (by decide +kernel) (by decide +kernel) rfl rfl rfl) (fun w => odd_ref _ false true _ false _ true w (by decide +kernel) (by decide +kernel) (by decide +kernel) rfl rfl)
  · exact law_odd _ ⟨#[45, 73, 110, 102, 105, 110, 105, 116, 121]⟩ w (fun w => odd_walk _ _ false false true _ _ true w rfl (by decide +kernel) (by decide +kernel) (by decide +kernel) rfl rfl) (fun w => odd_ref _ false false true false _ true w (by decide +kernel) (by decide +kernel) (by decide +kernel) (by decide +kernel) rfl)
  · exact law_odd _ ⟨#[48]⟩ w (fun w => odd_walk _ _ false false false true _ true w rfl (by decide +kernel) (by decide +kernel) (by decide +kernel) (by decide +kernel) rfl) (fun w => odd_ref _ false _ _ true _ true w (by decide +kernel) (by decide +kernel) rfl rfl rfl)
  · exact law_odd _ ⟨#[48]⟩ w (fun w => odd_walk _ _ false false false true _ true w rfl (by decide +kernel) (by decide +kernel) (by decide +kernel) (by decide +kernel) rfl) (fun w => odd_ref _ false _ _ true _ true w (by decide +kernel) (by decide +kernel) rfl rfl rfl)
  · exact law_walk b w (PosQ b) (posQ_uniq b) ((text_pos b w h0 hr hS).mono fun _ _ h => posQ_of h) fun w' => (numtext_pos b w' h0 hr).mono fun _ _ h => posQ_of h
  · exact law_walk _ w (NegQ r) (negQ_uniq r) (text_neg r w h0 hr hS) fun w' => numtext_neg r w' h0 hr
end Go.Proofs.YtmhbkilidpbenaaGreatDoor
