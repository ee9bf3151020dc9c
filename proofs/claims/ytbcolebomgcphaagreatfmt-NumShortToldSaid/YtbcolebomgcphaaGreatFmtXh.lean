/- The plain law of the form with an exponent: cut at its letter, its point taken out. Each lemma's conditions stand in its own statement. The contract of the program's digits. Each lemma's conditions stand in its own statement. The plain law of a number's text; contracts of Repeat, Itoa, point, exponent, zeros, dotted, small over it. Each lemma's conditions stand in its own statement. The plain law of the order of all words, and of whole numbers as words; contracts of odd and of the reference's Odd. Each lemma's conditions stand in its own statement. Contracts of odd and of the reference's Odd. Each lemma's conditions stand in its own statement. -/
import Derived.Test.YtbcolebomgcphaaGreatFmtXe
import Derived.Lib.Atoi
import Derived.Lib.AtoiErrMem
namespace Go.Proofs.YtbcolebomgcphaaGreatFmt

/-- A number as a byte. -/
def byt (z : Int) : UInt8 := UInt8.ofNat z.toNat
theorem str_data (l : List Int) : (strOfNums l).data.toList = l.map byt := by simp [strOfNums, byt]
theorem str_of (l : List Int) : strOfNums l = ⟨(l.map byt).toArray⟩ := rfl
theorem index_hit (c : UInt8) (l r : List UInt8) (h : c ∉ l) : Lib.index (l ++ c :: r) [c] = (l.length : Int) := by
  induction l with
  | nil =>
    rw [List.nil_append, Lib.index, if_pos (by simp [List.isPrefixOf])]
    rfl
  | cons b l ih =>
    have hb : c ≠ b := fun e => h (by rw [e]; exact List.mem_cons_self)
    have hl : c ∉ l := fun e => h (List.mem_cons_of_mem _ e)
    rw [List.cons_append, Lib.index, if_neg (by simp [List.isPrefixOf, hb]), ih hl, if_neg (by simp)]
    simp
theorem index_miss (c : UInt8) (l : List UInt8) (h : c ∉ l) : Lib.index l [c] = -1 := by
  induction l with
  | nil => rw [Lib.index, if_neg (by simp)]
  | cons b l ih =>
    have hb : c ≠ b := fun e => h (by rw [e]; exact List.mem_cons_self)
    have hl : c ∉ l := fun e => h (List.mem_cons_of_mem _ e)
    rw [Lib.index, if_neg (by simp [List.isPrefixOf, hb]), ih hl, if_pos (by decide)]
theorem cut_hit (c : UInt8) (l r : List UInt8) (h : c ∉ l) : Lib.cut (l ++ c :: r) [c] = (l, r, true) := by
  unfold Lib.cut
  rw [index_hit c l r h, if_pos (by omega), Int.toNat_natCast]
  simp
theorem replace_hit (c : UInt8) (l r : List UInt8) (h : c ∉ l) : Lib.replace (l ++ c :: r) [c] [] 1 = l ++ r := by
  have hc : 1 ≤ Lib.count (l ++ c :: r) [c] := by
    unfold Lib.count
    rw [Lib.countFrom, index_hit c l r h, if_neg (by simp)]
    omega
  unfold Lib.replace Lib.replaceNum
  rw [if_neg (by simp), if_neg (by omega), show (1 : Int).toNat = 0 + 1 from rfl, Lib.replaceK_hit [c] [] 0 _ l.length (index_hit c l r h), Lib.replaceK]
  simp
theorem replace_miss (c : UInt8) (l : List UInt8) (h : c ∉ l) : Lib.replace l [c] [] 1 = l := by
  unfold Lib.replace Lib.replaceNum
  have hc : Lib.count l [c] = 0 := by
    unfold Lib.count
    rw [Lib.countFrom, index_miss c l h, if_pos (by decide)]
  rw [if_neg (by simp), hc, if_pos (by omega), Lib.replaceK]
theorem byt_ne {z : Int} (h0 : 48 ≤ z) (h1 : z ≤ 57) : byt z ≠ 101 ∧ byt z ≠ 46 := by
  obtain ⟨n, rfl⟩ : ∃ n : Nat, z = n := ⟨z.toNat, by omega⟩
  unfold byt
  rw [Int.toNat_natCast]
  have : n = 48 ∨ n = 49 ∨ n = 50 ∨ n = 51 ∨ n = 52 ∨ n = 53 ∨ n = 54 ∨ n = 55 ∨ n = 56 ∨ n = 57 := by omega
  rcases this with h | h | h | h | h | h | h | h | h | h <;> subst h <;> decide
theorem decZ_dig (D : Nat) : ∀ z ∈ decZ D, 48 ≤ z ∧ z ≤ 57 := by
  intro z hz
  unfold decZ at hz
  split at hz
  · simp at hz; subst hz; omega
  · unfold asc at hz
    obtain ⟨d, hd, rfl⟩ := List.mem_map.1 hz
    have := leD_digit D d (List.mem_reverse.1 hd)
    omega
theorem not_in {l : List Int} (h : ∀ z ∈ l, 48 ≤ z ∧ z ≤ 57) : (101 : UInt8) ∉ l.map byt ∧ (46 : UInt8) ∉ l.map byt := by
  constructor
  · intro hc
    obtain ⟨z, hz, e⟩ := List.mem_map.1 hc
    exact (byt_ne (h z hz).1 (h z hz).2).1 e
  · intro hc
    obtain ⟨z, hz, e⟩ := List.mem_map.1 hc
    exact (byt_ne (h z hz).1 (h z hz).2).2 e
theorem dig_val {n : Nat} (h : n < 10) : Lib.digitVal (byt ((n : Int) + 48)) = some n := by
  have : n = 0 ∨ n = 1 ∨ n = 2 ∨ n = 3 ∨ n = 4 ∨ n = 5 ∨ n = 6 ∨ n = 7 ∨ n = 8 ∨ n = 9 := by omega
  rcases this with h | h | h | h | h | h | h | h | h | h <;> subst h <;> decide
theorem exp_val (y : Nat) (h : y < 500) : Lib.decNat ((expD y).map byt) = some y := by
  have d0 := dig_val (n := y % 10) (by omega)
  have d1 := dig_val (n := y / 10 % 10) (by omega)
  have d2 := dig_val (n := y / 100) (by omega)
  unfold expD
  have e0 : ((y % 10 : Nat) : Int) = (y : Int) % 10 := by omega
  have e1 : ((y / 10 % 10 : Nat) : Int) = (y : Int) / 10 % 10 := by omega
  have e2 : ((y / 100 : Nat) : Int) = (y : Int) / 100 := by omega
  rw [e0] at d0
  rw [e1] at d1
  rw [e2] at d2
  by_cases h1 : y < 10
  · rw [if_pos h1]
    have : (y : Int) % 10 = y := by omega
    rw [this] at d0
    have h48 : Lib.digitVal (byt 48) = some 0 := by decide
    simp only [List.map_cons, List.map_nil, Lib.decNat, List.isEmpty_cons, Bool.false_eq_true, if_false, Lib.decFrom, h48, d0]
    congr 1
    omega
  · rw [if_neg h1]
    by_cases h2 : y < 100
    · rw [if_pos h2]
      have : (y : Int) / 10 % 10 = (y : Int) / 10 := by omega
      rw [this] at d1
      simp only [List.map_cons, List.map_nil, Lib.decNat, List.isEmpty_cons, Bool.false_eq_true, if_false, Lib.decFrom, d0, d1]
      congr 1
      omega
    · rw [if_neg h2]
      simp only [List.map_cons, List.map_nil, Lib.decNat, List.isEmpty_cons, Bool.false_eq_true, if_false, Lib.decFrom, d0, d1, d2]
      congr 1
      omega
def expT (x : Int) : List Int := (if x < 0 then 45 else 43) :: expD x.natAbs
theorem exp_atoi (x : Int) (h0 : -400 ≤ x) (h1 : x ≤ 400) : Lib.atoi ((expT x).map byt) = some x := by
  have hv := exp_val x.natAbs (by omega)
  unfold expT
  rw [List.map_cons, Lib.atoi]
  by_cases h : x < 0
  · rw [if_pos h, if_pos (by decide), hv]
    simp only [Option.map_some]
    congr 1
    omega
  · rw [if_neg h, if_neg (by decide), if_pos (by decide), hv]
    simp only [Option.map_some]
    congr 1
    omega
theorem expT_len (x : Int) : (expT x).length ≤ 4 := by
  unfold expT expD
  rw [List.length_cons]
  split
  · simp
  · split <;> simp
/-- The part ahead of the letter. -/
def mantT (l : List Int) : List Int := [l.getD 0 0] ++ (if l.length = 1 then [] else [46] ++ l.drop 1)
theorem fmtE_split (l : List Int) (x : Int) : fmtE l x = mantT l ++ 101 :: expT x := by
  unfold fmtE mantT expT
  simp
theorem mant_no {l : List Int} (h : 1 ≤ l.length) (hd : ∀ z ∈ l, 48 ≤ z ∧ z ≤ 57) : (101 : UInt8) ∉ (mantT l).map byt := by
  unfold mantT
  cases l with
  | nil => simp at h
  | cons a l =>
    have ha := byt_ne (hd a (by simp)).1 (hd a (by simp)).2
    have hl := not_in (l := l) (fun z hz => hd z (by simp [hz]))
    split
    · simpa using fun e => ha.1 e.symm
    · intro hc
      simp only [List.getD_cons_zero, List.drop_succ_cons, List.drop_zero, List.map_append, List.map_cons, List.map_nil, List.mem_append, List.mem_cons, List.not_mem_nil, or_false] at hc
      rcases hc with hc | hc | hc
      · exact ha.1 hc.symm
      · exact absurd hc (by decide)
      · exact hl.1 hc
theorem mant_replace {l : List Int} (h : 1 ≤ l.length) (hd : ∀ z ∈ l, 48 ≤ z ∧ z ≤ 57) : Lib.replace ((mantT l).map byt) [46] [] 1 = l.map byt := by
  unfold mantT
  cases l with
  | nil => simp at h
  | cons a l =>
    have ha := byt_ne (hd a (by simp)).1 (hd a (by simp)).2
    by_cases hl : (a :: l).length = 1
    · rw [if_pos hl]
      have hl0 : l = [] := by simpa using hl
      subst hl0
      simp only [List.getD_cons_zero, List.append_nil, List.map_cons, List.map_nil]
      exact replace_miss 46 [byt a] (by simpa using fun e => ha.2 e.symm)
    · rw [if_neg hl]
      have := replace_hit 46 [byt a] (l.map byt) (by simpa using fun e => ha.2 e.symm)
      have e46 : byt 46 = 46 := by decide
      simpa [e46] using this
end Go.Proofs.YtbcolebomgcphaaGreatFmt

namespace Go.Proofs.YtbcolebomgcphaaGreatFmt
open Go.RowKit

/-- The variable that strings' search reads. -/
def MaxL (w : World) : Prop := 4 < w.heap.size ∧ ∃ m : Int, w.cell? ⟨4, 0, none⟩ = some (.int .i64 m)
theorem MaxL.below {w w' : World} {B : Nat} (h : MaxL w) (hb : Below B w w') (hB : w.heap.size ≤ B) : MaxL w' := by
  obtain ⟨h1, m, hm⟩ := h
  exact ⟨Nat.lt_of_lt_of_le h1 hb.size, m, (hb.cell (p := ⟨4, 0, none⟩) (Nat.lt_of_lt_of_le h1 hB)).trans hm⟩
theorem ret_si {s : ByteArray} {a b : Int} (h : a = b) : Ending.returned (.tuple #[.string s, .int .i64 a]) = .returned (.tuple #[.string s, .int .i64 b]) := by rw [h]
theorem fmtE_len {D : Nat} (h1 : D < 1000000000000000000) (x : Int) : 1 ≤ (decZ D).length ∧ (decZ D).length ≤ 18 ∧ (fmtE (decZ D) x).length ≤ 40 ∧ (mantT (decZ D)).length ≤ 30 := by
  have a : 1 ≤ (decZ D).length := by rw [decZ_length]; exact Lib.nDigits_pos D
  have b : (decZ D).length ≤ 18 := by rw [decZ_length]; exact ndig_le (k := 18) h1 (by omega)
  have c := expT_len x
  have m : (mantT (decZ D)).length ≤ 30 := by
    unfold mantT
    split <;> simp <;> omega
  refine ⟨a, b, ?_, m⟩
  rw [fmtE_split, List.length_append, List.length_cons]
  omega
theorem cut_e (D : Nat) (x : Int) (h1 : D < 1000000000000000000) (w : World) (hM : MaxL w) :
    Calls Tryz.prog 24 #[.string (strOfNums (fmtE (decZ D) x)), .string ⟨#[101]⟩] w fun e w' => e = .returned (.tuple #[.string (strOfNums (mantT (decZ D))), .string (strOfNums (expT x)), .bool true]) ∧ ∃ n, w' = w.drewN n := by
  obtain ⟨_, m, hm⟩ := hM
  obtain ⟨a1, a2, a3, a4⟩ := fmtE_len h1 x
  have h := Tryz.strings_Cut (strOfNums (fmtE (decZ D) x)) ⟨#[101]⟩ m w (by rw [str_size]; omega) hm
  have e : Lib.cut (strOfNums (fmtE (decZ D) x)).data.toList (⟨#[101]⟩ : ByteArray).data.toList = ((mantT (decZ D)).map byt, (expT x).map byt, true) := by
    rw [str_data, fmtE_split, List.map_append, List.map_cons, show byt 101 = 101 by decide]
    exact cut_hit 101 _ _ (mant_no a1 (decZ_dig D))
  rw [e] at h
  exact h
theorem rep_e (D : Nat) (h1 : D < 1000000000000000000) (w : World) (hM : MaxL w) :
    Calls Tryz.prog 26 #[.string (strOfNums (mantT (decZ D))), .string ⟨#[46]⟩, .string ⟨#[]⟩, .int .i64 1] w fun e w' => e = .returned (.string (strOfNums (decZ D))) ∧ Below w.heap.size w w' := by
  obtain ⟨_, m, hm⟩ := hM
  obtain ⟨a1, a2, a3, a4⟩ := fmtE_len h1 0
  have h := Tryz.strings_Replace (strOfNums (mantT (decZ D))) ⟨#[46]⟩ ⟨#[]⟩ 1 m w (by rw [str_size]; omega) hm (by decide) (by rw [str_size, show (⟨#[]⟩ : ByteArray).size = 0 from rfl, Nat.mul_zero]; omega)
  have e : Lib.replace (strOfNums (mantT (decZ D))).data.toList (⟨#[46]⟩ : ByteArray).data.toList (⟨#[]⟩ : ByteArray).data.toList 1 = (decZ D).map byt := by
    rw [str_data]
    exact mant_replace a1 (decZ_dig D)
  rw [e] at h
  exact h
theorem atoi_e (x : Int) (h0 : -400 ≤ x) (h1 : x ≤ 400) (w : World) :
    Calls Tryz.prog 25 #[.string (strOfNums (expT x))] w fun e w' => e = .returned (.tuple #[.int .i64 x, .nilIface]) ∧ Below w.heap.size w w' := by
  refine (Tryz.strconv_Atoi (strOfNums (expT x)) x (by rw [str_size]; have := expT_len x; omega) (by rw [str_data]; exact exp_atoi x h0 h1) w).mono ?_
  rintro e w' ⟨rfl, t, rfl⟩
  exact ⟨rfl, Lib.bytesWorld_below w 5 t⟩
/-- All that the program's side asks of the first world. -/
def Start (w : World) : Prop := PowTab w ∧ Lib.TabIs Tryz.prog w "internal/strconv.uint64pow10" .u64 Lib.pow10Tab ∧ MaxL w
theorem Start.below {w w' : World} {B : Nat} (h : Start w) (hb : Below B w w') (hB : w.heap.size ≤ B) : Start w' := ⟨pow_below h.1 hb hB, tab_below h.2.1 hb hB, h.2.2.below hb hB⟩
set_option maxRecDepth 100000 in
set_option maxHeartbeats 1600000 in
theorem digits_prog (r : Nat) (w : World) (h0 : 0 < r) (hr : r < 9218868437227405312) (hS : Start w) : Calls Tryz.prog 10 #[.float .f64 r] w (FewIs w r) := by
  have c1 := fmtfloat_any r w h0 hr hS.1 hS.2.1
  have HS := Lib.hid hS
  clear h0 hr hS
  go_enter Tryz.func10, Tryz.ntmps10
  go_wp2_with fail
  refine c1.mono ?_
  rintro e1 w1 ⟨D, j, hsh, d0, d1, j0, j1, rfl, b1⟩
  have HS1 := Lib.hid (HS.out.below b1 (Nat.le_refl _))
  have HSH := Lib.hid hsh
  obtain ⟨l1, l2, _, _⟩ := fmtE_len d1 0
  obtain ⟨x, hx⟩ : ∃ x, j + ((decZ D).length : Int) - 1 = x := ⟨_, rfl⟩
  rw [hx]
  have c2 := cut_e D x d1 w1 HS1.out.2.2
  have HX := Lib.hid hx
  have hx0 : -400 ≤ x := by omega
  have hx1 : x ≤ 400 := by omega
  have HD0 := Lib.hid d0
  have HD1 := Lib.hid d1
  clear c1 hsh hx d0 d1
  go_wp2_with fail
  refine c2.mono ?_
  rintro e2 w2 ⟨rfl, n, rfl⟩
  have hb2 : Below w.heap.size w (w1.drewN n) := below_drewN b1 n
  have HS2 : Hid (Start (w1.drewN n)) := Lib.hid (HS1.out.below (below_drewN (Below.refl w1.heap.size w1) n) (Nat.le_refl _))
  obtain ⟨w3, hw3⟩ : ∃ w3, w1.drewN n = w3 := ⟨_, rfl⟩
  rw [hw3] at hb2 HS2 ⊢
  clear hw3 c2 b1
  go_wp2_with fail
  refine (atoi_e x hx0 hx1 w3).mono ?_
  rintro e4 w4 ⟨rfl, b4⟩
  have hb4 := hb2.trans (b4.mono hb2.size)
  have HS4 := Lib.hid (HS2.out.below b4 (Nat.le_refl _))
  clear hb2 b4
  go_wp2_with fail
  refine (rep_e D HD1.out w4 HS4.out.2.2).mono ?_
  rintro e5 w5 ⟨rfl, b5⟩
  have hb5 := hb4.trans (b5.mono hb4.size)
  clear hb4 b5
  go_wp2
  go_ret2
  exact ⟨D, j, HSH.out, ret_si (by have := HX.out; omega), HD0.out, HD1.out, j0, by omega, hb5⟩
end Go.Proofs.YtbcolebomgcphaaGreatFmt

namespace Go.Proofs.YtbcolebomgcphaaGreatFmt
open Go.RowKit Go.Sort

def dotZ (l : List Int) : List Int := if l.length = 1 then l else l.take 1 ++ [46] ++ l.drop 1
def sgnZ (x : Int) : List Int := (if x < 0 then 45 else 43) :: decZ x.natAbs
/-- How a number is written, from the digits of D and the power of ten j. -/
def textZ (D : Nat) (j : Int) : List Int :=
  if ((decZ D).length : Int) ≤ j + (decZ D).length ∧ j + (decZ D).length ≤ 21 then decZ D ++ List.replicate j.toNat 48
  else if 0 < j + (decZ D).length ∧ j + (decZ D).length ≤ 21 then (decZ D).take (j + (decZ D).length).toNat ++ [46] ++ (decZ D).drop (j + (decZ D).length).toNat
  else if -6 < j + (decZ D).length ∧ j + (decZ D).length ≤ 0 then [48, 46] ++ List.replicate (-(j + (decZ D).length)).toNat 48 ++ decZ D
  else dotZ (decZ D) ++ [101] ++ sgnZ (j + (decZ D).length - 1)
theorem str_app (a b : List Int) : strOfNums a ++ strOfNums b = strOfNums (a ++ b) := by
  apply ByteArray.ext
  simp [strOfNums, ByteArray.data_append]
theorem str_take (l : List Int) (n : Nat) : (strOfNums l).extract 0 n = strOfNums (l.take n) := by
  apply ByteArray.ext
  simp [strOfNums, ByteArray.data_extract]
theorem str_drop (l : List Int) (n : Nat) : (strOfNums l).extract n (strOfNums l).size = strOfNums (l.drop n) := by
  apply ByteArray.ext
  rw [str_size]
  simp only [strOfNums, ByteArray.data_extract, List.extract_toArray, List.extract_eq_take_drop, List.map_drop]
  rw [List.take_of_length_le (by simp)]
theorem rep_lit (c : Nat) : Lib.repeatL [48] c = List.replicate c 48 := by
  induction c with
  | zero => rfl
  | succ c ih =>
    rw [Lib.repeatL, ih, List.replicate_succ]
    rfl
theorem repeat_zero (c : Nat) (hc : c ≤ 1000) (w : World) : Calls Tryz.prog 11 #[.string ⟨#[48]⟩, .int .i64 c] w fun e w' => e = .returned (.string (strOfNums (List.replicate c 48))) ∧ Below w.heap.size w w' := by
  have h := Tryz.strings_Repeat ⟨#[48]⟩ c w (by omega) (by show 1 * c ≤ _; omega)
  have e : (⟨(Lib.repeatL (⟨#[48]⟩ : ByteArray).data.toList c).toArray⟩ : ByteArray) = strOfNums (List.replicate c 48) := by
    show (⟨(Lib.repeatL [48] c).toArray⟩ : ByteArray) = _
    rw [rep_lit, str_of, List.map_replicate]
    rfl
  rw [e] at h
  exact h
theorem below_grow (w : World) (k : Nat) (os : Array Obj) : Below w.heap.size w (grow (w.drewN k) os) := by
  refine ⟨rfl, rfl, rfl, ?_, fun i hi => ?_⟩
  · show w.heap.size ≤ (w.heap ++ os).size
    simp
  · show (w.heap ++ os)[i]? = w.heap[i]?
    simp [Array.getElem?_append, hi]
theorem dec_str (u : Nat) : (⟨(Lib.decDigits u).toArray⟩ : ByteArray) = strOfNums (decZ u) := by
  rw [str_of, decZ_dec, List.map_map]
  have : (byt ∘ fun b : UInt8 => (b.toNat : Int)) = id := by
    funext b
    simp [byt]
  rw [this, List.map_id]
theorem itoa_any (u : Nat) (hu : u ≤ 100000) (w : World) (hU : Lib.TabIs Tryz.prog w "internal/strconv.uint64pow10" .u64 Lib.pow10Tab) :
    Calls Tryz.prog 33 #[.int .i64 u] w fun e w' => e = .returned (.string (strOfNums (decZ u))) ∧ Below w.heap.size w w' := by
  refine (Tryz.strconv_Itoa u (by omega) (by omega) w hU).mono ?_
  rintro e w' ⟨rfl, k, os, rfl⟩
  rw [Lib.itoa_nonneg, dec_str]
  exact ⟨rfl, below_grow w k os⟩
theorem decZ_small {u : Nat} (h : u ≤ 1000) : (decZ u).length ≤ 4 := by rw [decZ_length]; exact ndig_le (k := 4) (by omega) (by omega)
theorem ret_str {a b : ByteArray} (h : a = b) : Ending.returned (.string a) = .returned (.string b) := by rw [h]
set_option maxRecDepth 100000 in
theorem point_prog (l : List Int) (h1 : 1 ≤ l.length) (h2 : l.length ≤ 100) (w : World) : Calls Tryz.prog 12 #[.string (strOfNums l)] w fun e w' => e = .returned (.string (strOfNums (dotZ l))) ∧ ∃ q, w' = w.drewN q := by
  have hs := str_size l
  have ht := str_take l 1
  have hd := str_drop l 1
  unfold dotZ
  by_cases h : l.length = 1
  · rw [if_pos h]
    rw [h] at hs
    clear ht hd
    go_enter Tryz.func12, Tryz.ntmps12
    go_wp2
    go_ret
    exact ⟨rfl, 0, rfl⟩
  · rw [if_neg h]
    obtain ⟨n, hn⟩ : ∃ n, l.length = n := ⟨_, rfl⟩
    rw [hn] at hs h h1 h2
    rw [hs] at hd
    have h3 : ((n : Int) == 1) = false := by simp; omega
    have h4 : 2 ≤ n := by omega
    have HT := Lib.hid ht
    have HD := Lib.hid hd
    clear ht hd hn
    go_enter Tryz.func12, Tryz.ntmps12
    go_wp2
    go_quiet (fail)
    go_wp2
    go_ret
    refine ⟨ret_str ?_, _, rfl⟩
    show (strOfNums l).extract 0 1 ++ strOfNums [46] ++ (strOfNums l).extract 1 n = _
    rw [HT.out, HD.out, str_app, str_app]
set_option maxRecDepth 100000 in
theorem exponent_prog (x : Int) (h0 : -1000 ≤ x) (h1 : x ≤ 1000) (w : World) (hU : Lib.TabIs Tryz.prog w "internal/strconv.uint64pow10" .u64 Lib.pow10Tab) :
    Calls Tryz.prog 13 #[.int .i64 x] w fun e w' => e = .returned (.string (strOfNums ([101] ++ sgnZ x))) ∧ Below w.heap.size w w' := by
  unfold sgnZ
  obtain ⟨u, hu⟩ : ∃ u, x.natAbs = u := ⟨_, rfl⟩
  have c1 := itoa_any u (by omega) w hU
  have hs := str_size (decZ u)
  have hk := decZ_small (u := u) (by omega)
  obtain ⟨k, hke⟩ : ∃ k, (decZ u).length = k := ⟨_, rfl⟩
  rw [hke] at hs hk
  rw [hu]
  clear hke
  clear hU
  by_cases h : x < 0
  · have hx : x = -(u : Int) := by omega
    have ht : decide (-(u : Int) < 0) = true := decide_eq_true (by omega)
    have hu1 : 1 ≤ u := by omega
    subst hx
    rw [if_pos h]
    clear h hu
    go_enter Tryz.func13, Tryz.ntmps13
    go_wp2_with fail
    refine c1.mono ?_
    rintro e w' ⟨rfl, b⟩
    have B := Lib.hid b
    clear b c1
    go_wp2
    go_ret
    refine ⟨ret_str ?_, B.out⟩
    show strOfNums [101, 45] ++ strOfNums (decZ u) = _
    rw [str_app]
    rfl
  · have hx : x = (u : Int) := by omega
    have ht : decide ((u : Int) < 0) = false := decide_eq_false (by omega)
    subst hx
    rw [if_neg h]
    clear h hu
    go_enter Tryz.func13, Tryz.ntmps13
    go_wp2_with fail
    refine c1.mono ?_
    rintro e w' ⟨rfl, b⟩
    have B := Lib.hid b
    clear b c1
    go_wp2
    go_ret
    refine ⟨ret_str ?_, B.out⟩
    show strOfNums [101, 43] ++ strOfNums (decZ u) = _
    rw [str_app]
    rfl
end Go.Proofs.YtbcolebomgcphaaGreatFmt

namespace Go.Proofs.YtbcolebomgcphaaGreatFmt
open Ieee

/-- A word's sign and size. -/
def sval (b : Nat) : Int := if b / 9223372036854775808 % 2 = 1 then -(unt (b % 9223372036854775808) : Int) else unt (b % 9223372036854775808)
theorem signed_val (s : Bool) (m : Nat) (k : Nat) : signed s m k = if s then -((m * 2 ^ k : Nat) : Int) else ((m * 2 ^ k : Nat) : Int) := by
  unfold signed
  rw [Nat.shiftLeft_eq]
theorem compare_scale (x y : Int) (z : Nat) (hz : 0 < z) : compare (x * z) (y * z) = compare x y := by
  have hz' : (0 : Int) < z := by omega
  rcases Int.lt_trichotomy x y with h | h | h
  · have := Int.mul_lt_mul_of_pos_right h hz'
    rw [Int.compare_eq_lt.2 h, Int.compare_eq_lt.2 this]
  · subst h; rw [Int.compare_eq_eq.2 rfl, Int.compare_eq_eq.2 rfl]
  · have := Int.mul_lt_mul_of_pos_right h hz'
    rw [Int.compare_eq_gt.2 h, Int.compare_eq_gt.2 this]
theorem order_fin {a b : Nat} (ha : a % 9223372036854775808 < 9218868437227405312) (hb : b % 9223372036854775808 < 9218868437227405312) : double.order a b = some (compare (sval a) (sval b)) := by
  unfold Format.order
  rw [read_num ha, read_num hb]
  unfold Datum.order
  dsimp only
  obtain ⟨i, hi⟩ : ∃ i, min (expo (a % 9223372036854775808)) (expo (b % 9223372036854775808)) = i := ⟨_, rfl⟩
  have h1 := expo_ge (a % 9223372036854775808)
  have h2 := expo_ge (b % 9223372036854775808)
  rw [hi, signed_val, signed_val]
  have sc : ∀ c : Nat, -1074 ≤ expo (c % 9223372036854775808) → i ≤ expo (c % 9223372036854775808) → sval c = (if (c / 9223372036854775808 % 2 == 1) = true then -((mant (c % 9223372036854775808) * 2 ^ (expo (c % 9223372036854775808) - i).toNat : Nat) : Int) else ((mant (c % 9223372036854775808) * 2 ^ (expo (c % 9223372036854775808) - i).toNat : Nat) : Int)) * ((2 ^ (i + 1074).toNat : Nat) : Int) := by
    intro c hc hic
    have e : unt (c % 9223372036854775808) = mant (c % 9223372036854775808) * 2 ^ (expo (c % 9223372036854775808) - i).toNat * 2 ^ (i + 1074).toNat := by
      unfold unt
      rw [Nat.mul_assoc, ← Nat.pow_add]
      congr 2
      omega
    unfold sval
    rw [e, Int.natCast_mul]
    by_cases g : c / 9223372036854775808 % 2 = 1
    · rw [if_pos g, if_pos (by rw [g]; rfl), Int.neg_mul]
    · rw [if_neg g, if_neg (by simpa using g)]
  rw [sc a h1 (by omega), sc b h2 (by omega), compare_scale _ _ _ (Nat.two_pow_pos _)]
theorem sval_pos {r : Nat} (h : r < 9223372036854775808) : sval r = unt r := by
  unfold sval
  rw [Nat.mod_eq_of_lt h, Nat.div_eq_of_lt h, if_neg (by decide)]
theorem sval_neg {r : Nat} (h : r < 9223372036854775808) : sval (9223372036854775808 + r) = -(unt r : Int) := by
  unfold sval
  rw [Nat.add_mod_left, Nat.mod_eq_of_lt h, show (9223372036854775808 + r) / 9223372036854775808 = 1 by omega, if_pos (by decide)]
theorem unt_pos {r : Nat} (h : 0 < r) : 0 < unt r := Nat.mul_pos (mant_pos h) (Nat.two_pow_pos _)
theorem neg_mod {r : Nat} (h : r < 9223372036854775808) : (9223372036854775808 + r) % 9223372036854775808 = r := by omega
/-- A number below 0 against what isn't. -/
theorem neg_order {r c : Nat} (h0 : 0 < r) (hr : r < 9218868437227405312) (hc : c < 9218868437227405312) : FloatKind.f64.format.order (9223372036854775808 + r) c = some .lt := by
  show double.order _ _ = _
  rw [order_fin (by rw [neg_mod (by omega)]; exact hr) (by rw [Nat.mod_eq_of_lt (by omega)]; exact hc), sval_neg (by omega), sval_pos (by omega)]
  have := unt_pos h0
  rw [Int.compare_eq_lt.2 (by omega)]
theorem neg_order2 {r c : Nat} (hr : r < 9218868437227405312) (hc : c < 9218868437227405312) : FloatKind.f64.format.order (9223372036854775808 + r) (9223372036854775808 + c) = some (compare c r) := by
  show double.order _ _ = _
  rw [order_fin (by rw [neg_mod (by omega)]; exact hr) (by rw [neg_mod (by omega)]; exact hc), sval_neg (by omega), sval_neg (by omega), ← compare_unt]
  congr 1
  rcases Nat.lt_trichotomy (unt c) (unt r) with h | h | h
  · rw [Int.compare_eq_lt.2 (by omega), Int.compare_eq_lt.2 (by omega)]
  · rw [Int.compare_eq_eq.2 (by omega), Int.compare_eq_eq.2 (by omega)]
  · rw [Int.compare_eq_gt.2 (by omega), Int.compare_eq_gt.2 (by omega)]
/-- What isn't below 0 against what is (or is -0). -/
theorem pos_order {r c : Nat} (hr : r < 9218868437227405312) (h0 : 0 < c) (hc : c < 9218868437227405312) : FloatKind.f64.format.order r (9223372036854775808 + c) = some .gt := by
  show double.order _ _ = _
  rw [order_fin (by rw [Nat.mod_eq_of_lt (by omega)]; exact hr) (by rw [neg_mod (by omega)]; exact hc), sval_neg (by omega), sval_pos (by omega)]
  have := unt_pos h0
  rw [Int.compare_eq_gt.2 (by omega)]
/-- No number at all. -/
theorem nan_order {b : Nat} (h : 9218868437227405312 < b % 9223372036854775808) (c : Nat) : FloatKind.f64.format.order b c = none := by
  show double.order _ _ = _
  unfold Format.order
  have hr : double.read b = .nan (b / 9223372036854775808 % 2 == 1) (b % 9223372036854775808 - 9218868437227405312) := by
    unfold Format.read
    have e1 : double.signWeight = 9223372036854775808 := by decide
    have e2 : double.binade = 4503599627370496 := by decide
    have e3 : double.infRung = 9218868437227405312 := by decide
    simp only [e1, e2, e3]
    rw [if_neg (by omega), if_neg (by omega), if_neg (by omega)]
  rw [hr]
  rfl
end Go.Proofs.YtbcolebomgcphaaGreatFmt

namespace Go.Proofs.YtbcolebomgcphaaGreatFmt
open Go.RowKit

theorem neg_pos {r : Nat} (h : r < 9223372036854775808) : Op.negFloat .f64 r = 9223372036854775808 + r := by
  show r ^^^ 2 ^ 63 = _
  have h1 : 9223372036854775808 + r = 2 ^ 63 ||| r := by
    have := Nat.two_pow_add_eq_or_of_lt (i := 63) (b := r) h 1
    rw [Nat.mul_one] at this
    exact this
  rw [h1]
  apply Nat.eq_of_testBit_eq
  intro i
  rw [Nat.testBit_xor, Nat.testBit_or, Nat.testBit_two_pow]
  by_cases hi : 63 = i
  · subst hi
    rw [Nat.testBit_lt_two_pow (show r < 2 ^ 63 from h)]
    simp
  · simp [hi]
theorem neg_neg' {r : Nat} (h : r < 9223372036854775808) : Op.negFloat .f64 (9223372036854775808 + r) = r := by
  rw [← neg_pos h]
  show r ^^^ 2 ^ 63 ^^^ 2 ^ 63 = r
  rw [Nat.xor_assoc, Nat.xor_self, Nat.xor_zero]
theorem run_neg (b : Nat) (w : World) : (Op.unary .neg (.float .f64 b)).run Tryz.prog w = .ok (.float .f64 (Op.negFloat .f64 b)) w := rfl
set_option maxRecDepth 100000 in
theorem isinf_p (b : Nat) (t : Bool) (w : World) (h : (FloatKind.f64.format.order b 9218868437227405311 == some .gt) = t) : Calls Tryz.prog 22 #[.float .f64 b, .int .i64 1] w fun e w' => e = .returned (.bool t) ∧ w = w' := by
  have g := fun _ : True => h
  clear h
  go_enter Tryz.func22, Tryz.ntmps22
  go_wp2
  go_ret
  exact ⟨rfl, rfl⟩
set_option maxRecDepth 100000 in
theorem isinf_m (b c : Nat) (t : Bool) (w : World) (hc : Op.negFloat .f64 b = c) (h : (FloatKind.f64.format.order c 9218868437227405311 == some .gt) = t) : Calls Tryz.prog 22 #[.float .f64 b, .int .i64 (-1)] w fun e w' => e = .returned (.bool t) ∧ w = w' := by
  have g := fun _ : True => h
  have hn := run_neg b w
  rw [hc] at hn
  clear h hc
  go_enter Tryz.func22, Tryz.ntmps22
  go_wp2
  go_ret
  exact ⟨rfl, rfl⟩
def OddIs (w : World) (s : ByteArray) (t : Bool) (e : Ending) (w' : World) : Prop := e = .returned (.tuple #[.string s, .bool t]) ∧ w = w'
/-- What the program's odd tests of a word. -/
theorem odd_walk (b c : Nat) (t1 t2 t3 t4 : Bool) (s : ByteArray) (t : Bool) (w : World) (hc : Op.negFloat .f64 b = c) (h1 : (FloatKind.f64.format.order b b != some .eq) = t1) (h2 : (FloatKind.f64.format.order b 9218868437227405311 == some .gt) = t2)
    (h3 : (FloatKind.f64.format.order c 9218868437227405311 == some .gt) = t3) (h4 : (FloatKind.f64.format.order b 0 == some .eq) = t4)
    (hs : (s, t) = if t1 then (⟨#[78, 97, 78]⟩, true) else if t2 then (⟨#[73, 110, 102, 105, 110, 105, 116, 121]⟩, true) else if t3 then (⟨#[45, 73, 110, 102, 105, 110, 105, 116, 121]⟩, true) else if t4 then (⟨#[48]⟩, true) else (⟨#[]⟩, false)) :
    Calls Tryz.prog 9 #[.float .f64 b] w (OddIs w s t) := by
  have c1 := isinf_p b t2 w h2
  have c2 := isinf_m b c t3 w hc h3
  have g1 := fun _ : True => h1
  have g4 := fun _ : True => h4
  clear h1 h2 h3 h4 hc
  cases t1
  · cases t2
    · cases t3
      · cases t4
        · simp only [Bool.false_eq_true, if_false, Prod.mk.injEq] at hs
          obtain ⟨rfl, rfl⟩ := hs
          go_enter Tryz.func9, Tryz.ntmps9
          go_wp2_with fail
          refine c1.mono ?_
          rintro e w' ⟨rfl, rfl⟩
          go_wp2_with fail
          refine c2.mono ?_
          rintro e w' ⟨rfl, rfl⟩
          go_wp2
          go_ret2
          exact ⟨rfl, rfl⟩
        · simp only [Bool.false_eq_true, if_false, if_true, Prod.mk.injEq] at hs
          obtain ⟨rfl, rfl⟩ := hs
          go_enter Tryz.func9, Tryz.ntmps9
          go_wp2_with fail
          refine c1.mono ?_
          rintro e w' ⟨rfl, rfl⟩
          go_wp2_with fail
          refine c2.mono ?_
          rintro e w' ⟨rfl, rfl⟩
          go_wp2
          go_ret2
          exact ⟨rfl, rfl⟩
      · simp only [Bool.false_eq_true, if_false, if_true, Prod.mk.injEq] at hs
        obtain ⟨rfl, rfl⟩ := hs
        go_enter Tryz.func9, Tryz.ntmps9
        go_wp2_with fail
        refine c1.mono ?_
        rintro e w' ⟨rfl, rfl⟩
        go_wp2_with fail
        refine c2.mono ?_
        rintro e w' ⟨rfl, rfl⟩
        go_wp2
        go_ret2
        exact ⟨rfl, rfl⟩
    · simp only [Bool.false_eq_true, if_false, if_true, Prod.mk.injEq] at hs
      obtain ⟨rfl, rfl⟩ := hs
      go_enter Tryz.func9, Tryz.ntmps9
      go_wp2_with fail
      refine c1.mono ?_
      rintro e w' ⟨rfl, rfl⟩
      go_wp2
      go_ret2
      exact ⟨rfl, rfl⟩
  · simp only [if_true, Prod.mk.injEq] at hs
    obtain ⟨rfl, rfl⟩ := hs
    go_enter Tryz.func9, Tryz.ntmps9
    go_wp2
    go_ret2
    exact ⟨rfl, rfl⟩
end Go.Proofs.YtbcolebomgcphaaGreatFmt
