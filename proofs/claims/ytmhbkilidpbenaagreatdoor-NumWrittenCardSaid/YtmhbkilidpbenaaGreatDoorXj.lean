/- The plain law of a number's text; contracts of Repeat, Itoa, point, exponent, zeros, dotted, small over it. Each lemma's conditions stand in its own statement. -/
import Derived.Test.YtmhbkilidpbenaaGreatDoorXi
namespace Go.Proofs.YtmhbkilidpbenaaGreatDoor
open Go.RowKit Go.Sort

def dotZ (l : List Int) : List Int := if l.length = 1 then l else l.take 1 ++ [46] ++ l.drop 1
def sgnZ (x : Int) : List Int := (if x < 0 then 45 else 43) :: decZ x.natAbs
/-- How a number is written, from the digits of D and the power of ten j. -/
def textZ (D : Nat) (j : Int) : List Int :=
  if ((decZ D).length : Int) ≤ j + (decZ D).length ∧ j + (decZ D).length ≤ 21 then decZ D ++ List.replicate j.toNat 48
  else if 0 < j + (decZ D).length ∧ j + (decZ D).length ≤ 21 then (decZ D).take (j + (decZ D).length).toNat ++ [46] ++ (decZ D).drop (j + (decZ D).length).toNat
  else if -6 < j + (decZ D).length ∧ j + (decZ D).length ≤ 0 then [48, 46] ++ List.replicate (-(j + (decZ D).length)).toNat 48 ++ decZ D
  else dotZ (decZ D) ++ [101] ++ sgnZ (j + (decZ D).length - 1)
theorem str_app (a b : List Int) : strOfNums a ++ strOfNums b = strOfNums (a ++ b) := by
  apply ByteArray.ext
  simp [strOfNums, ByteArray.data_append]
theorem str_take (l : List Int) (n : Nat) : (strOfNums l).extract 0 n = strOfNums (l.take n) := by
  apply ByteArray.ext
  simp [strOfNums, ByteArray.data_extract]
theorem str_drop (l : List Int) (n : Nat) : (strOfNums l).extract n (strOfNums l).size = strOfNums (l.drop n) := by
  apply ByteArray.ext
  rw [str_size]
  simp only [strOfNums, ByteArray.data_extract, List.extract_toArray, List.extract_eq_take_drop, List.map_drop]
  rw [List.take_of_length_le (by simp)]
theorem rep_lit (c : Nat) : Lib.repeatL [48] c = List.replicate c 48 := by
  induction c with
  | zero => rfl
  | succ c ih =>
    rw [Lib.repeatL, ih, List.replicate_succ]
    rfl
theorem repeat_zero (c : Nat) (hc : c ≤ 1000) (w : World) : Calls Tryz.prog 9 #[.string ⟨#[48]⟩, .int .i64 c] w fun e w' => e = .returned (.string (strOfNums (List.replicate c 48))) ∧ Below w.heap.size w w' := by
  have h := Tryz.strings_Repeat ⟨#[48]⟩ c w (by omega) (by show 1 * c ≤ _; omega)
  have e : (⟨(Lib.repeatL (⟨#[48]⟩ : ByteArray).data.toList c).toArray⟩ : ByteArray) = strOfNums (List.replicate c 48) := by
    show (⟨(Lib.repeatL [48] c).toArray⟩ : ByteArray) = _
    rw [rep_lit, str_of, List.map_replicate]
    rfl
  rw [e] at h
  exact h
theorem below_grow (w : World) (k : Nat) (os : Array Obj) : Below w.heap.size w (grow (w.drewN k) os) := by
  refine ⟨rfl, rfl, rfl, ?_, fun i hi => ?_⟩
  · show w.heap.size ≤ (w.heap ++ os).size
    simp
  · show (w.heap ++ os)[i]? = w.heap[i]?
    simp [Array.getElem?_append, hi]
theorem dec_str (u : Nat) : (⟨(Lib.decDigits u).toArray⟩ : ByteArray) = strOfNums (decZ u) := by
  rw [str_of, decZ_dec, List.map_map]
  have : (byt ∘ fun b : UInt8 => (b.toNat : Int)) = id := by
    funext b
    simp [byt]
  rw [this, List.map_id]
theorem itoa_any (u : Nat) (hu : u ≤ 100000) (w : World) (hU : Lib.TabIs Tryz.prog w "internal/strconv.uint64pow10" .u64 Lib.pow10Tab) :
    Calls Tryz.prog 31 #[.int .i64 u] w fun e w' => e = .returned (.string (strOfNums (decZ u))) ∧ Below w.heap.size w w' := by
  refine (Tryz.strconv_Itoa u (by omega) (by omega) w hU).mono ?_
  rintro e w' ⟨rfl, k, os, rfl⟩
  rw [Lib.itoa_nonneg, dec_str]
  exact ⟨rfl, below_grow w k os⟩
theorem decZ_small {u : Nat} (h : u ≤ 1000) : (decZ u).length ≤ 4 := by rw [decZ_length]; exact ndig_le (k := 4) (by omega) (by omega)
theorem ret_str {a b : ByteArray} (h : a = b) : Ending.returned (.string a) = .returned (.string b) := by rw [h]
set_option maxRecDepth 100000 in
theorem point_prog (l : List Int) (h1 : 1 ≤ l.length) (h2 : l.length ≤ 100) (w : World) : Calls Tryz.prog 10 #[.string (strOfNums l)] w fun e w' => e = .returned (.string (strOfNums (dotZ l))) ∧ ∃ q, w' = w.drewN q := by
  have hs := str_size l
  have ht := str_take l 1
  have hd := str_drop l 1
  unfold dotZ
  by_cases h : l.length = 1
  · rw [if_pos h]
    rw [h] at hs
    clear ht hd
    go_enter Tryz.func10, Tryz.ntmps10
    go_wp2
    go_ret
    exact ⟨rfl, 0, rfl⟩
  · rw [if_neg h]
    obtain ⟨n, hn⟩ : ∃ n, l.length = n := ⟨_, rfl⟩
    rw [hn] at hs h h1 h2
    rw [hs] at hd
    have h3 : ((n : Int) == 1) = false := by simp; omega
    have h4 : 2 ≤ n := by omega
    have HT := Lib.hid ht
    have HD := Lib.hid hd
    clear ht hd hn
    go_enter Tryz.func10, Tryz.ntmps10
    go_wp2
    go_quiet (fail)
    go_wp2
    go_ret
    refine ⟨ret_str ?_, _, rfl⟩
    show (strOfNums l).extract 0 1 ++ strOfNums [46] ++ (strOfNums l).extract 1 n = _
    rw [HT.out, HD.out, str_app, str_app]
set_option maxRecDepth 100000 in
theorem dotted_ref (l : List Int) (h1 : 1 ≤ l.length) (h2 : l.length ≤ 100) (w : World) : Calls Tryz.prog 18 #[.string (strOfNums l)] w fun e w' => e = .returned (.string (strOfNums (dotZ l))) ∧ ∃ q, w' = w.drewN q := by
  have hs := str_size l
  have ht := str_take l 1
  have hd := str_drop l 1
  unfold dotZ
  by_cases h : l.length = 1
  · rw [if_pos h]
    rw [h] at hs
    clear ht hd
    go_enter Tryz.func18, Tryz.ntmps18
    go_wp2
    go_ret
    exact ⟨rfl, 0, rfl⟩
  · rw [if_neg h]
    obtain ⟨n, hn⟩ : ∃ n, l.length = n := ⟨_, rfl⟩
    rw [hn] at hs h h1 h2
    rw [hs] at hd
    have h3 : ((n : Int) == 1) = false := by simp; omega
    have h4 : 2 ≤ n := by omega
    have HT := Lib.hid ht
    have HD := Lib.hid hd
    clear ht hd hn
    go_enter Tryz.func18, Tryz.ntmps18
    go_wp2
    go_quiet (fail)
    go_wp2
    go_ret
    refine ⟨ret_str ?_, _, rfl⟩
    show (strOfNums l).extract 0 1 ++ strOfNums [46] ++ (strOfNums l).extract 1 n = _
    rw [HT.out, HD.out, str_app, str_app]
set_option maxRecDepth 100000 in
theorem exponent_prog (x : Int) (h0 : -1000 ≤ x) (h1 : x ≤ 1000) (w : World) (hU : Lib.TabIs Tryz.prog w "internal/strconv.uint64pow10" .u64 Lib.pow10Tab) :
    Calls Tryz.prog 11 #[.int .i64 x] w fun e w' => e = .returned (.string (strOfNums ([101] ++ sgnZ x))) ∧ Below w.heap.size w w' := by
  unfold sgnZ
  obtain ⟨u, hu⟩ : ∃ u, x.natAbs = u := ⟨_, rfl⟩
  have c1 := itoa_any u (by omega) w hU
  have hs := str_size (decZ u)
  have hk := decZ_small (u := u) (by omega)
  obtain ⟨k, hke⟩ : ∃ k, (decZ u).length = k := ⟨_, rfl⟩
  rw [hke] at hs hk
  rw [hu]
  clear hke
  clear hU
  by_cases h : x < 0
  · have hx : x = -(u : Int) := by omega
    have ht : decide (-(u : Int) < 0) = true := decide_eq_true (by omega)
    have hu1 : 1 ≤ u := by omega
    subst hx
    rw [if_pos h]
    clear h hu
    go_enter Tryz.func11, Tryz.ntmps11
    go_wp2_with fail
    refine c1.mono ?_
    rintro e w' ⟨rfl, b⟩
    have B := Lib.hid b
    clear b c1
    go_wp2
    go_ret
    refine ⟨ret_str ?_, B.out⟩
    show strOfNums [101, 45] ++ strOfNums (decZ u) = _
    rw [str_app]
    rfl
  · have hx : x = (u : Int) := by omega
    have ht : decide ((u : Int) < 0) = false := decide_eq_false (by omega)
    subst hx
    rw [if_neg h]
    clear h hu
    go_enter Tryz.func11, Tryz.ntmps11
    go_wp2_with fail
    refine c1.mono ?_
    rintro e w' ⟨rfl, b⟩
    have B := Lib.hid b
    clear b c1
    go_wp2
    go_ret
    refine ⟨ret_str ?_, B.out⟩
    show strOfNums [101, 43] ++ strOfNums (decZ u) = _
    rw [str_app]
    rfl
set_option maxRecDepth 100000 in
set_option maxHeartbeats 800000 in
theorem small_ref (x : Int) (h0 : -1000 ≤ x) (h1 : x ≤ 1000) (w : World) :
    Calls Tryz.prog 19 #[.int .i64 x] w fun e w' => e = .returned (.string (strOfNums (sgnZ x))) ∧ Below w.heap.size w w' := by
  unfold sgnZ
  obtain ⟨u, hu⟩ : ∃ u, x.natAbs = u := ⟨_, rfl⟩
  have hu1000 : u ≤ 1000 := by omega
  have c1 := nat_any u w (by omega)
  have hpw := u64_pw (x := u) (by omega)
  have hs := str_size (decZ u)
  have hk := decZ_small (u := u) (by omega)
  obtain ⟨k, hke⟩ : ∃ k, (decZ u).length = k := ⟨_, rfl⟩
  rw [hke] at hs hk
  have gw := fun _ : True => u64_wrap (u : Int) (by omega) (by omega)
  have gw6 := fun _ : True => IntWalk.wrap64_in (u : Int) (by omega)
  rw [hu]
  clear hke
  by_cases h : x < 0
  · have gx := fun _ : True => (show -x = (u : Int) by omega)
    have ht : decide (x < 0) = true := decide_eq_true h
    rw [if_pos h]
    have HPW := Lib.hid hpw
    have H1000 := Lib.hid hu1000
    clear h hu hpw hu1000
    go_enter Tryz.func19, Tryz.ntmps19
    go_wp2_with fail
    refine c1.mono ?_
    rintro e w1 ⟨v, rfl, iv, b⟩
    clear c1
    go_wp2_with fail
    refine (digits_any v u 4 w1 HPW.out (by omega) iv).mono ?_
    rintro e w2 ⟨rfl, b2⟩
    have B := Lib.hid (b.trans (b2.mono b.size))
    clear b b2 iv
    go_wp2
    go_ret
    refine ⟨ret_str ?_, B.out⟩
    show strOfNums [45] ++ strOfNums (decZ u) = _
    rw [str_app]
    rfl
  · have hx : x = (u : Int) := by omega
    have ht : decide ((u : Int) < 0) = false := decide_eq_false (by omega)
    subst hx
    rw [if_neg h]
    have HPW := Lib.hid hpw
    clear h hu hpw
    go_enter Tryz.func19, Tryz.ntmps19
    go_wp2_with fail
    refine c1.mono ?_
    rintro e w1 ⟨v, rfl, iv, b⟩
    clear c1
    go_wp2_with fail
    refine (digits_any v u 4 w1 HPW.out (by omega) iv).mono ?_
    rintro e w2 ⟨rfl, b2⟩
    have B := Lib.hid (b.trans (b2.mono b.size))
    clear b b2 iv
    go_wp2
    go_ret
    refine ⟨ret_str ?_, B.out⟩
    show strOfNums [43] ++ strOfNums (decZ u) = _
    rw [str_app]
    rfl
set_option maxRecDepth 100000 in
set_option maxHeartbeats 800000 in
theorem zeros_ref (n : Nat) (hn : n ≤ 1000) (w : World) :
    Calls Tryz.prog 17 #[.int .i64 n] w fun e w' => e = .returned (.string (strOfNums (List.replicate n 48))) ∧ w = w' := by
  go_enter Tryz.func17, Tryz.ntmps17
  go_wp2
  go_loop [3, 4] (fun s i => ∃ k : Nat, k ≤ n ∧ i = .int .i64 k ∧ s = .string (strOfNums (List.replicate k 48))) (fun _ i => n - (intOf i).toNat)
  case atStart => exact ⟨0, Nat.zero_le _, rfl, rfl⟩
  case round =>
    obtain ⟨k, hk, rfl, rfl⟩ := hrel
    have hs : (strOfNums (List.replicate k 48)).size = k := by rw [str_size, List.length_replicate]
    by_cases h : k < n
    · go_wp2
      go_round
      case rel => exact ⟨k + 1, by omega, by go_num, by
        congr 1
        show strOfNums (List.replicate k 48) ++ strOfNums [48] = _
        rw [str_app, List.replicate_succ']⟩
      case measure => simp [intOf]; omega
    · have hkn : k = n := by omega
      subst hkn
      go_wp2
      go_ret
      exact ⟨rfl, rfl⟩
end Go.Proofs.YtmhbkilidpbenaaGreatDoor
