/- The plain law of the form with an exponent: cut at its letter, its point taken out. Each lemma's conditions stand in its own statement. -/
import Derived.Test.YtmhbkilidpbenaaGreatDoorXg
import Derived.Lib.Atoi
namespace Go.Proofs.YtmhbkilidpbenaaGreatDoor

/-- A number as a byte. -/
def byt (z : Int) : UInt8 := UInt8.ofNat z.toNat
theorem str_data (l : List Int) : (strOfNums l).data.toList = l.map byt := by simp [strOfNums, byt]
theorem str_of (l : List Int) : strOfNums l = ⟨(l.map byt).toArray⟩ := rfl
theorem index_hit (c : UInt8) (l r : List UInt8) (h : c ∉ l) : Lib.index (l ++ c :: r) [c] = (l.length : Int) := by
  induction l with
  | nil =>
    rw [List.nil_append, Lib.index, if_pos (by simp [List.isPrefixOf])]
    rfl
  | cons b l ih =>
    have hb : c ≠ b := fun e => h (by rw [e]; exact List.mem_cons_self)
    have hl : c ∉ l := fun e => h (List.mem_cons_of_mem _ e)
    rw [List.cons_append, Lib.index, if_neg (by simp [List.isPrefixOf, hb]), ih hl, if_neg (by simp)]
    simp
theorem index_miss (c : UInt8) (l : List UInt8) (h : c ∉ l) : Lib.index l [c] = -1 := by
  induction l with
  | nil => rw [Lib.index, if_neg (by simp)]
  | cons b l ih =>
    have hb : c ≠ b := fun e => h (by rw [e]; exact List.mem_cons_self)
    have hl : c ∉ l := fun e => h (List.mem_cons_of_mem _ e)
    rw [Lib.index, if_neg (by simp [List.isPrefixOf, hb]), ih hl, if_pos (by decide)]
theorem cut_hit (c : UInt8) (l r : List UInt8) (h : c ∉ l) : Lib.cut (l ++ c :: r) [c] = (l, r, true) := by
  unfold Lib.cut
  rw [index_hit c l r h, if_pos (by omega), Int.toNat_natCast]
  simp
theorem replace_hit (c : UInt8) (l r : List UInt8) (h : c ∉ l) : Lib.replace (l ++ c :: r) [c] [] 1 = l ++ r := by
  have hc : 1 ≤ Lib.count (l ++ c :: r) [c] := by
    unfold Lib.count
    rw [Lib.countFrom, index_hit c l r h, if_neg (by simp)]
    omega
  unfold Lib.replace Lib.replaceNum
  rw [if_neg (by simp), if_neg (by omega), show (1 : Int).toNat = 0 + 1 from rfl, Lib.replaceK_hit [c] [] 0 _ l.length (index_hit c l r h), Lib.replaceK]
  simp
theorem replace_miss (c : UInt8) (l : List UInt8) (h : c ∉ l) : Lib.replace l [c] [] 1 = l := by
  unfold Lib.replace Lib.replaceNum
  have hc : Lib.count l [c] = 0 := by
    unfold Lib.count
    rw [Lib.countFrom, index_miss c l h, if_pos (by decide)]
  rw [if_neg (by simp), hc, if_pos (by omega), Lib.replaceK]
theorem byt_ne {z : Int} (h0 : 48 ≤ z) (h1 : z ≤ 57) : byt z ≠ 101 ∧ byt z ≠ 46 := by
  obtain ⟨n, rfl⟩ : ∃ n : Nat, z = n := ⟨z.toNat, by omega⟩
  unfold byt
  rw [Int.toNat_natCast]
  have : n = 48 ∨ n = 49 ∨ n = 50 ∨ n = 51 ∨ n = 52 ∨ n = 53 ∨ n = 54 ∨ n = 55 ∨ n = 56 ∨ n = 57 := by omega
  rcases this with h | h | h | h | h | h | h | h | h | h <;> subst h <;> decide
theorem decZ_dig (D : Nat) : ∀ z ∈ decZ D, 48 ≤ z ∧ z ≤ 57 := by
  intro z hz
  unfold decZ at hz
  split at hz
  · simp at hz; subst hz; omega
  · unfold asc at hz
    obtain ⟨d, hd, rfl⟩ := List.mem_map.1 hz
    have := leD_digit D d (List.mem_reverse.1 hd)
    omega
theorem not_in {l : List Int} (h : ∀ z ∈ l, 48 ≤ z ∧ z ≤ 57) : (101 : UInt8) ∉ l.map byt ∧ (46 : UInt8) ∉ l.map byt := by
  constructor
  · intro hc
    obtain ⟨z, hz, e⟩ := List.mem_map.1 hc
    exact (byt_ne (h z hz).1 (h z hz).2).1 e
  · intro hc
    obtain ⟨z, hz, e⟩ := List.mem_map.1 hc
    exact (byt_ne (h z hz).1 (h z hz).2).2 e
theorem dig_val {n : Nat} (h : n < 10) : Lib.digitVal (byt ((n : Int) + 48)) = some n := by
  have : n = 0 ∨ n = 1 ∨ n = 2 ∨ n = 3 ∨ n = 4 ∨ n = 5 ∨ n = 6 ∨ n = 7 ∨ n = 8 ∨ n = 9 := by omega
  rcases this with h | h | h | h | h | h | h | h | h | h <;> subst h <;> decide
theorem exp_val (y : Nat) (h : y < 500) : Lib.decNat ((expD y).map byt) = some y := by
  have d0 := dig_val (n := y % 10) (by omega)
  have d1 := dig_val (n := y / 10 % 10) (by omega)
  have d2 := dig_val (n := y / 100) (by omega)
  unfold expD
  have e0 : ((y % 10 : Nat) : Int) = (y : Int) % 10 := by omega
  have e1 : ((y / 10 % 10 : Nat) : Int) = (y : Int) / 10 % 10 := by omega
  have e2 : ((y / 100 : Nat) : Int) = (y : Int) / 100 := by omega
  rw [e0] at d0
  rw [e1] at d1
  rw [e2] at d2
  by_cases h1 : y < 10
  · rw [if_pos h1]
    have : (y : Int) % 10 = y := by omega
    rw [this] at d0
    have h48 : Lib.digitVal (byt 48) = some 0 := by decide
    simp only [List.map_cons, List.map_nil, Lib.decNat, List.isEmpty_cons, Bool.false_eq_true, if_false, Lib.decFrom, h48, d0]
    congr 1
    omega
  · rw [if_neg h1]
    by_cases h2 : y < 100
    · rw [if_pos h2]
      have : (y : Int) / 10 % 10 = (y : Int) / 10 := by omega
      rw [this] at d1
      simp only [List.map_cons, List.map_nil, Lib.decNat, List.isEmpty_cons, Bool.false_eq_true, if_false, Lib.decFrom, d0, d1]
      congr 1
      omega
    · rw [if_neg h2]
      simp only [List.map_cons, List.map_nil, Lib.decNat, List.isEmpty_cons, Bool.false_eq_true, if_false, Lib.decFrom, d0, d1, d2]
      congr 1
      omega
def expT (x : Int) : List Int := (if x < 0 then 45 else 43) :: expD x.natAbs
theorem exp_atoi (x : Int) (h0 : -400 ≤ x) (h1 : x ≤ 400) : Lib.atoi ((expT x).map byt) = some x := by
  have hv := exp_val x.natAbs (by omega)
  unfold expT
  rw [List.map_cons, Lib.atoi]
  by_cases h : x < 0
  · rw [if_pos h, if_pos (by decide), hv]
    simp only [Option.map_some]
    congr 1
    omega
  · rw [if_neg h, if_neg (by decide), if_pos (by decide), hv]
    simp only [Option.map_some]
    congr 1
    omega
theorem expT_len (x : Int) : (expT x).length ≤ 4 := by
  unfold expT expD
  rw [List.length_cons]
  split
  · simp
  · split <;> simp
/-- The part ahead of the letter. -/
def mantT (l : List Int) : List Int := [l.getD 0 0] ++ (if l.length = 1 then [] else [46] ++ l.drop 1)
theorem fmtE_split (l : List Int) (x : Int) : fmtE l x = mantT l ++ 101 :: expT x := by
  unfold fmtE mantT expT
  simp
theorem list_head {l : List Int} (h : 1 ≤ l.length) : [l.getD 0 0] ++ l.drop 1 = l := by
  cases l with
  | nil => simp at h
  | cons a l => simp
theorem mant_no {l : List Int} (h : 1 ≤ l.length) (hd : ∀ z ∈ l, 48 ≤ z ∧ z ≤ 57) : (101 : UInt8) ∉ (mantT l).map byt := by
  unfold mantT
  cases l with
  | nil => simp at h
  | cons a l =>
    have ha := byt_ne (hd a (by simp)).1 (hd a (by simp)).2
    have hl := not_in (l := l) (fun z hz => hd z (by simp [hz]))
    split
    · simpa using fun e => ha.1 e.symm
    · intro hc
      simp only [List.getD_cons_zero, List.drop_succ_cons, List.drop_zero, List.map_append, List.map_cons, List.map_nil, List.mem_append, List.mem_cons, List.not_mem_nil, or_false] at hc
      rcases hc with hc | hc | hc
      · exact ha.1 hc.symm
      · exact absurd hc (by decide)
      · exact hl.1 hc
theorem mant_replace {l : List Int} (h : 1 ≤ l.length) (hd : ∀ z ∈ l, 48 ≤ z ∧ z ≤ 57) : Lib.replace ((mantT l).map byt) [46] [] 1 = l.map byt := by
  unfold mantT
  cases l with
  | nil => simp at h
  | cons a l =>
    have ha := byt_ne (hd a (by simp)).1 (hd a (by simp)).2
    by_cases hl : (a :: l).length = 1
    · rw [if_pos hl]
      have hl0 : l = [] := by simpa using hl
      subst hl0
      simp only [List.getD_cons_zero, List.append_nil, List.map_cons, List.map_nil]
      exact replace_miss 46 [byt a] (by simpa using fun e => ha.2 e.symm)
    · rw [if_neg hl]
      have := replace_hit 46 [byt a] (l.map byt) (by simpa using fun e => ha.2 e.symm)
      have e46 : byt 46 = 46 := by decide
      simpa [e46] using this
end Go.Proofs.YtmhbkilidpbenaaGreatDoor
