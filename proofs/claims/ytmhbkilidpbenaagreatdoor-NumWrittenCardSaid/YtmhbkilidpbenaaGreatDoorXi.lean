/- The contract of the program's digits. Each lemma's conditions stand in its own statement. -/
import Derived.Test.YtmhbkilidpbenaaGreatDoorXh
import Derived.Lib.AtoiErrMem
namespace Go.Proofs.YtmhbkilidpbenaaGreatDoor
open Go.RowKit

/-- The variable that strings' search reads. -/
def MaxL (w : World) : Prop := 2 < w.heap.size ∧ ∃ m : Int, w.cell? ⟨2, 0, none⟩ = some (.int .i64 m)
theorem MaxL.below {w w' : World} {B : Nat} (h : MaxL w) (hb : Below B w w') (hB : w.heap.size ≤ B) : MaxL w' := by
  obtain ⟨h1, m, hm⟩ := h
  exact ⟨Nat.lt_of_lt_of_le h1 hb.size, m, (hb.cell (p := ⟨2, 0, none⟩) (Nat.lt_of_lt_of_le h1 hB)).trans hm⟩
theorem ret_si {s : ByteArray} {a b : Int} (h : a = b) : Ending.returned (.tuple #[.string s, .int .i64 a]) = .returned (.tuple #[.string s, .int .i64 b]) := by rw [h]
theorem fmtE_len {D : Nat} (h1 : D < 1000000000000000000) (x : Int) : 1 ≤ (decZ D).length ∧ (decZ D).length ≤ 18 ∧ (fmtE (decZ D) x).length ≤ 40 ∧ (mantT (decZ D)).length ≤ 30 := by
  have a : 1 ≤ (decZ D).length := by rw [decZ_length]; exact Lib.nDigits_pos D
  have b : (decZ D).length ≤ 18 := by rw [decZ_length]; exact ndig_le (k := 18) h1 (by omega)
  have c := expT_len x
  have m : (mantT (decZ D)).length ≤ 30 := by
    unfold mantT
    split <;> simp <;> omega
  refine ⟨a, b, ?_, m⟩
  rw [fmtE_split, List.length_append, List.length_cons]
  omega
theorem cut_e (D : Nat) (x : Int) (h1 : D < 1000000000000000000) (w : World) (hM : MaxL w) :
    Calls Tryz.prog 22 #[.string (strOfNums (fmtE (decZ D) x)), .string ⟨#[101]⟩] w fun e w' => e = .returned (.tuple #[.string (strOfNums (mantT (decZ D))), .string (strOfNums (expT x)), .bool true]) ∧ ∃ n, w' = w.drewN n := by
  obtain ⟨_, m, hm⟩ := hM
  obtain ⟨a1, a2, a3, a4⟩ := fmtE_len h1 x
  have h := Tryz.strings_Cut (strOfNums (fmtE (decZ D) x)) ⟨#[101]⟩ m w (by rw [str_size]; omega) hm
  have e : Lib.cut (strOfNums (fmtE (decZ D) x)).data.toList (⟨#[101]⟩ : ByteArray).data.toList = ((mantT (decZ D)).map byt, (expT x).map byt, true) := by
    rw [str_data, fmtE_split, List.map_append, List.map_cons, show byt 101 = 101 by decide]
    exact cut_hit 101 _ _ (mant_no a1 (decZ_dig D))
  rw [e] at h
  exact h
theorem rep_e (D : Nat) (h1 : D < 1000000000000000000) (w : World) (hM : MaxL w) :
    Calls Tryz.prog 24 #[.string (strOfNums (mantT (decZ D))), .string ⟨#[46]⟩, .string ⟨#[]⟩, .int .i64 1] w fun e w' => e = .returned (.string (strOfNums (decZ D))) ∧ Below w.heap.size w w' := by
  obtain ⟨_, m, hm⟩ := hM
  obtain ⟨a1, a2, a3, a4⟩ := fmtE_len h1 0
  have h := Tryz.strings_Replace (strOfNums (mantT (decZ D))) ⟨#[46]⟩ ⟨#[]⟩ 1 m w (by rw [str_size]; omega) hm (by decide) (by rw [str_size, show (⟨#[]⟩ : ByteArray).size = 0 from rfl, Nat.mul_zero]; omega)
  have e : Lib.replace (strOfNums (mantT (decZ D))).data.toList (⟨#[46]⟩ : ByteArray).data.toList (⟨#[]⟩ : ByteArray).data.toList 1 = (decZ D).map byt := by
    rw [str_data]
    exact mant_replace a1 (decZ_dig D)
  rw [e] at h
  exact h
theorem atoi_e (x : Int) (h0 : -400 ≤ x) (h1 : x ≤ 400) (w : World) :
    Calls Tryz.prog 23 #[.string (strOfNums (expT x))] w fun e w' => e = .returned (.tuple #[.int .i64 x, .nilIface]) ∧ Below w.heap.size w w' := by
  refine (Tryz.strconv_Atoi (strOfNums (expT x)) x (by rw [str_size]; have := expT_len x; omega) (by rw [str_data]; exact exp_atoi x h0 h1) w).mono ?_
  rintro e w' ⟨rfl, t, rfl⟩
  exact ⟨rfl, Lib.bytesWorld_below w 5 t⟩
/-- All that the program's side asks of the first world. -/
def Start (w : World) : Prop := PowTab w ∧ Lib.TabIs Tryz.prog w "internal/strconv.uint64pow10" .u64 Lib.pow10Tab ∧ MaxL w
theorem Start.below {w w' : World} {B : Nat} (h : Start w) (hb : Below B w w') (hB : w.heap.size ≤ B) : Start w' := ⟨pow_below h.1 hb hB, tab_below h.2.1 hb hB, h.2.2.below hb hB⟩
set_option maxRecDepth 100000 in
set_option maxHeartbeats 1600000 in
theorem digits_prog (r : Nat) (w : World) (h0 : 0 < r) (hr : r < 9218868437227405312) (hS : Start w) : Calls Tryz.prog 8 #[.float .f64 r] w (FewIs w r) := by
  have c1 := fmtfloat_any r w h0 hr hS.1 hS.2.1
  have HS := Lib.hid hS
  clear h0 hr hS
  go_enter Tryz.func8, Tryz.ntmps8
  go_wp2_with fail
  refine c1.mono ?_
  rintro e1 w1 ⟨D, j, hsh, d0, d1, j0, j1, rfl, b1⟩
  have HS1 := Lib.hid (HS.out.below b1 (Nat.le_refl _))
  have HSH := Lib.hid hsh
  obtain ⟨l1, l2, _, _⟩ := fmtE_len d1 0
  obtain ⟨x, hx⟩ : ∃ x, j + ((decZ D).length : Int) - 1 = x := ⟨_, rfl⟩
  rw [hx]
  have c2 := cut_e D x d1 w1 HS1.out.2.2
  have HX := Lib.hid hx
  have hx0 : -400 ≤ x := by omega
  have hx1 : x ≤ 400 := by omega
  have HD0 := Lib.hid d0
  have HD1 := Lib.hid d1
  clear c1 hsh hx d0 d1
  go_wp2_with fail
  refine c2.mono ?_
  rintro e2 w2 ⟨rfl, n, rfl⟩
  have hb2 : Below w.heap.size w (w1.drewN n) := below_drewN b1 n
  have HS2 : Hid (Start (w1.drewN n)) := Lib.hid (HS1.out.below (below_drewN (Below.refl w1.heap.size w1) n) (Nat.le_refl _))
  obtain ⟨w3, hw3⟩ : ∃ w3, w1.drewN n = w3 := ⟨_, rfl⟩
  rw [hw3] at hb2 HS2 ⊢
  clear hw3 c2 b1
  go_wp2_with fail
  refine (atoi_e x hx0 hx1 w3).mono ?_
  rintro e4 w4 ⟨rfl, b4⟩
  have hb4 := hb2.trans (b4.mono hb2.size)
  have HS4 := Lib.hid (HS2.out.below b4 (Nat.le_refl _))
  clear hb2 b4
  go_wp2_with fail
  refine (rep_e D HD1.out w4 HS4.out.2.2).mono ?_
  rintro e5 w5 ⟨rfl, b5⟩
  have hb5 := hb4.trans (b5.mono hb4.size)
  clear hb4 b5
  go_wp2
  go_ret2
  exact ⟨D, j, HSH.out, ret_si (by have := HX.out; omega), HD0.out, HD1.out, j0, by omega, hb5⟩
end Go.Proofs.YtmhbkilidpbenaaGreatDoor
