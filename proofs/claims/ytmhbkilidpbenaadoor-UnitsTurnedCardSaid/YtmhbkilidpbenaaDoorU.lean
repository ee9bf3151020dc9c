/- Plain mathematics on units and bytes, no program in sight: what the texts of units are, what the units of a text are, and that the units of the text of units are those units. Condition: each unit lies between 0 and 65535. -/
import Derived.Lib.DecodeN
import Derived.Lib.RuneBytes
import Derived.Laws.BytesArg
import Derived.Shelf.Unicode.DecodeSlow
namespace Go.Proofs.YtmhbkilidpbenaaDoor

def isHi (u : Int) : Bool := decide (55296 ≤ u ∧ u < 56320)
def isLo (u : Int) : Bool := decide (56320 ≤ u ∧ u < 57344)
def pairZ (u v : Int) : Int := 65536 + (u - 55296) * 1024 + (v - 56320)
def encU (u : Int) : List Int := if isHi u || isLo u then [237, 128 + u / 64 % 64, 128 + u % 64] else Lib.encodeRuneZ u
def textZ : List Int → List Int
  | [] => []
  | [u] => encU u
  | u :: v :: r => if isHi u && isLo v then Lib.encodeRuneZ (pairZ u v) ++ textZ r else encU u ++ textZ (v :: r)

def decZ (b : List Int) : Int × Int :=
  if b.length = 0 then (65533, 0)
  else (((Lib.decodeN b.length (b.getD 0 0).toNat (b.getD 1 0).toNat (b.getD 2 0).toNat (b.getD 3 0).toNat).1 : Nat),
    ((Lib.decodeN b.length (b.getD 0 0).toNat (b.getD 1 0).toNat (b.getD 2 0).toNat (b.getD 3 0).toNat).2 : Nat))
def surZ (b : List Int) : Bool := decide (2 < b.length ∧ b.getD 0 0 = 237 ∧ 160 ≤ b.getD 1 0 ∧ b.getD 1 0 ≤ 191 ∧ 128 ≤ b.getD 2 0 ∧ b.getD 2 0 ≤ 191)
def nextZ (b : List Int) : Int × Int :=
  if surZ b then (53248 + b.getD 1 0 % 64 * 64 + b.getD 2 0 % 64, 3) else decZ b
def cuZ (r : Int) : List Int := if 65536 ≤ r then [55296 + (r - 65536) / 1024, 56320 + (r - 65536) % 1024] else [r]

theorem decodeN_range (n b0 b1 b2 b3 : Nat) (hn : 1 ≤ n) : 1 ≤ (Lib.decodeN n b0 b1 b2 b3).2 ∧ (Lib.decodeN n b0 b1 b2 b3).2 ≤ n ∧ (Lib.decodeN n b0 b1 b2 b3).1 ≤ 1114111 := by
  unfold Lib.decodeN
  repeat' split
  all_goals (refine ⟨?_, ?_, ?_⟩ <;> simp only <;> omega)
theorem decodeN_scalar (n b0 b1 b2 b3 : Nat) : ¬ (55296 ≤ (Lib.decodeN n b0 b1 b2 b3).1 ∧ (Lib.decodeN n b0 b1 b2 b3).1 < 57344) := by
  unfold Lib.decodeN
  repeat' split
  all_goals (simp only; omega)
theorem decodeN_sur (n b0 b1 b2 b3 : Nat) (h : b0 = 237) (h1 : 160 ≤ b1) (h2 : b1 ≤ 191) (h3 : 128 ≤ b2) (h4 : b2 ≤ 191) : Lib.decodeN n b0 b1 b2 b3 = (65533, 1) := by
  subst h
  unfold Lib.decodeN
  repeat' split
  all_goals first | rfl | (exfalso; omega)

theorem decZ_pos {b : List Int} (h : b ≠ []) : 1 ≤ (decZ b).2 ∧ (decZ b).2 ≤ b.length ∧ 0 ≤ (decZ b).1 ∧ (decZ b).1 ≤ 1114111 := by
  have hl : b.length ≠ 0 := fun e => h (List.eq_nil_of_length_eq_zero e)
  have := decodeN_range b.length (b.getD 0 0).toNat (b.getD 1 0).toNat (b.getD 2 0).toNat (b.getD 3 0).toNat (by omega)
  unfold decZ
  rw [if_neg hl]
  simp only
  omega
theorem nextZ_pos {b : List Int} (h : b ≠ []) : 1 ≤ (nextZ b).2 ∧ (nextZ b).2 ≤ b.length ∧ 0 ≤ (nextZ b).1 ∧ (nextZ b).1 ≤ 1114111 := by
  unfold nextZ
  split
  · rename_i hs
    simp only [surZ, decide_eq_true_eq] at hs
    simp only
    omega
  · exact decZ_pos h

def unitsZ (b : List Int) : List Int := if _h : b = [] then [] else cuZ (nextZ b).1 ++ unitsZ (b.drop (nextZ b).2.toNat)
termination_by b.length
decreasing_by
  have := nextZ_pos _h
  rw [List.length_drop]
  have : 0 < b.length := by
    rcases b with _ | ⟨x, r⟩
    · exact absurd rfl _h
    · simp
  omega

theorem unitsZ_nil : unitsZ [] = [] := by rw [unitsZ]; simp
theorem unitsZ_step {b : List Int} (h : b ≠ []) : unitsZ b = cuZ (nextZ b).1 ++ unitsZ (b.drop (nextZ b).2.toNat) := by
  rw [unitsZ]; simp [h]

/-! ### what is written is read again -/
theorem nextZ_enc {r : Int} (h : (0 ≤ r ∧ r < 55296) ∨ (57344 ≤ r ∧ r ≤ 1114111)) (t : List Int) : nextZ (Lib.encodeRuneZ r ++ t) = (r, (((Lib.encodeRuneZ r).length : Nat) : Int)) := by
  by_cases h1 : r ≤ 127
  · rw [Lib.encodeRuneZ_one (r := r) (by omega) h1]
    have hs : surZ ([r] ++ t) = false := by
      simp only [surZ, decide_eq_false_iff_not]; simp; omega
    unfold nextZ decZ
    rw [hs]
    simp only [Bool.false_eq_true, if_false, List.cons_append, List.nil_append, List.length_cons, List.getD_cons_zero]
    rw [if_neg (by omega)]
    unfold Lib.decodeN
    rw [if_pos (by omega)]
    simp only [List.length_nil]
    apply Prod.ext <;> simp only <;> omega
  · by_cases h2 : r ≤ 2047
    · rw [Lib.encodeRuneZ_two (r := r) (by omega) h2]
      have hs : surZ ([192 + r / 64, 128 + r % 64] ++ t) = false := by
        simp only [surZ, decide_eq_false_iff_not]; simp; omega
      unfold nextZ decZ
      rw [hs]
      simp only [Bool.false_eq_true, if_false, List.cons_append, List.nil_append, List.length_cons, List.getD_cons_zero, List.getD_cons_succ, List.length_nil]
      rw [if_neg (by omega)]
      unfold Lib.decodeN
      rw [if_neg (by omega), if_pos (by omega), if_pos (by omega)]
      apply Prod.ext <;> simp only <;> omega
    · by_cases h3 : r ≤ 65535
      · rw [Lib.encodeRuneZ_three (r := r) (by omega)]
        have hs : surZ ([224 + r / 4096, 128 + r / 64 % 64, 128 + r % 64] ++ t) = false := by
          simp only [surZ, decide_eq_false_iff_not]; simp; omega
        unfold nextZ decZ
        rw [hs]
        simp only [Bool.false_eq_true, if_false, List.cons_append, List.nil_append, List.length_cons, List.getD_cons_zero, List.getD_cons_succ, List.length_nil]
        rw [if_neg (by omega)]
        unfold Lib.decodeN
        rw [if_neg (by omega), if_neg (by omega), if_pos (by omega), if_pos (by omega)]
        apply Prod.ext <;> simp only <;> omega
      · rw [Lib.encodeRuneZ_four (r := r) (by omega) (by omega)]
        have hs : surZ ([240 + r / 262144, 128 + r / 4096 % 64, 128 + r / 64 % 64, 128 + r % 64] ++ t) = false := by
          simp only [surZ, decide_eq_false_iff_not]; simp; omega
        unfold nextZ decZ
        rw [hs]
        simp only [Bool.false_eq_true, if_false, List.cons_append, List.nil_append, List.length_cons, List.getD_cons_zero, List.getD_cons_succ, List.length_nil]
        rw [if_neg (by omega)]
        unfold Lib.decodeN
        rw [if_neg (by omega), if_neg (by omega), if_neg (by omega), if_pos (by omega), if_pos (by omega)]
        apply Prod.ext <;> simp only <;> omega

theorem nextZ_sur {u : Int} (h : 55296 ≤ u ∧ u < 57344) (t : List Int) : nextZ ([237, 128 + u / 64 % 64, 128 + u % 64] ++ t) = (u, 3) := by
  have hs : surZ ([237, 128 + u / 64 % 64, 128 + u % 64] ++ t) = true := by
    simp only [surZ, decide_eq_true_eq]; simp; omega
  unfold nextZ
  rw [if_pos hs]
  simp only [List.cons_append, List.nil_append, List.getD_cons_zero, List.getD_cons_succ]
  apply Prod.ext <;> simp only
  omega

theorem unitsZ_enc {r : Int} (h : (0 ≤ r ∧ r < 55296) ∨ (57344 ≤ r ∧ r ≤ 1114111)) (t : List Int) : unitsZ (Lib.encodeRuneZ r ++ t) = cuZ r ++ unitsZ t := by
  have hl := Lib.encodeRuneZ_length r
  have hne : Lib.encodeRuneZ r ++ t ≠ [] := by
    intro e
    have := congrArg List.length e
    rw [List.length_append, List.length_nil] at this
    omega
  rw [unitsZ_step hne, nextZ_enc h t]
  simp
theorem unitsZ_encU {u : Int} (h0 : 0 ≤ u) (h1 : u ≤ 65535) (t : List Int) : unitsZ (encU u ++ t) = u :: unitsZ t := by
  unfold encU
  by_cases hs : 55296 ≤ u ∧ u < 57344
  · have e : (isHi u || isLo u) = true := by simp [isHi, isLo]; omega
    rw [if_pos e]
    rw [unitsZ_step (by simp), nextZ_sur hs]
    simp only [cuZ]
    rw [if_neg (by omega)]
    simp
  · have e : ¬ (isHi u || isLo u) = true := by simp [isHi, isLo]; omega
    rw [if_neg e, unitsZ_enc (by omega)]
    simp only [cuZ]
    rw [if_neg (by omega)]
    simp

theorem units_text : ∀ us : List Int, (∀ u ∈ us, 0 ≤ u ∧ u ≤ 65535) → unitsZ (textZ us) = us
  | [], _ => by rw [textZ, unitsZ_nil]
  | [u], h => by
    have hu := h u (by simp)
    rw [textZ, ← List.append_nil (encU u), unitsZ_encU hu.1 hu.2, unitsZ_nil]
  | u :: v :: r, h => by
    have hu := h u (by simp)
    have hv := h v (by simp)
    rw [textZ]
    by_cases hp : (isHi u && isLo v) = true
    · rw [if_pos hp]
      simp only [isHi, isLo, Bool.and_eq_true, decide_eq_true_eq] at hp
      rw [unitsZ_enc (by unfold pairZ; omega), units_text r (fun x hx => h x (by simp [hx]))]
      unfold cuZ pairZ
      rw [if_pos (by omega)]
      simp only [List.cons_append, List.nil_append]
      congr 1
      · omega
      · congr 1
        omega
    · rw [if_neg hp, unitsZ_encU hu.1 hu.2, units_text (v :: r) (fun x hx => h x (List.mem_cons_of_mem _ hx))]
termination_by us => us.length

/-! ### by places -/
theorem textZ_pair {us : List Int} {k : Nat} (h : k + 1 < us.length) (h1 : isHi (us.getD k 0) = true) (h2 : isLo (us.getD (k + 1) 0) = true) :
    textZ (us.drop k) = Lib.encodeRuneZ (pairZ (us.getD k 0) (us.getD (k + 1) 0)) ++ textZ (us.drop (k + 2)) := by
  have e1 : us.drop k = us.getD k 0 :: us.getD (k + 1) 0 :: us.drop (k + 2) := by
    rw [List.drop_eq_getElem_cons (by omega), List.drop_eq_getElem_cons h]
    simp [List.getD, List.getElem?_eq_getElem (show k < us.length by omega), List.getElem?_eq_getElem h]
  rw [e1, textZ, if_pos (by rw [h1, h2]; rfl)]
theorem textZ_one {us : List Int} {k : Nat} (h : k < us.length) (hn : ¬ (isHi (us.getD k 0) = true ∧ k + 1 < us.length ∧ isLo (us.getD (k + 1) 0) = true)) :
    textZ (us.drop k) = encU (us.getD k 0) ++ textZ (us.drop (k + 1)) := by
  by_cases h2 : k + 1 < us.length
  · have e1 : us.drop k = us.getD k 0 :: us.getD (k + 1) 0 :: us.drop (k + 2) := by
      rw [List.drop_eq_getElem_cons (by omega), List.drop_eq_getElem_cons h2]
      simp [List.getD, List.getElem?_eq_getElem (show k < us.length by omega), List.getElem?_eq_getElem h2]
    have e2 : us.drop (k + 1) = us.getD (k + 1) 0 :: us.drop (k + 2) := by
      rw [List.drop_eq_getElem_cons h2]
      simp [List.getD, List.getElem?_eq_getElem h2]
    rw [e1, e2, textZ, if_neg]
    intro hh
    rw [Bool.and_eq_true] at hh
    exact hn ⟨hh.1, h2, hh.2⟩
  · have e1 : us.drop k = [us.getD k 0] := by
      rw [List.drop_eq_getElem_cons h, List.drop_eq_nil_of_le (by omega)]
      simp [List.getD, List.getElem?_eq_getElem h]
    rw [e1, List.drop_eq_nil_of_le (by omega), textZ, textZ, List.append_nil]

theorem encU_byte {u : Int} : ∀ x ∈ encU u, 0 ≤ x ∧ x < 256 := by
  intro x hx
  unfold encU at hx
  split at hx
  · simp at hx
    rcases hx with rfl | rfl | rfl <;> omega
  · exact Lib.encodeRuneZ_byte _ x hx
theorem encU_length (u : Int) : 1 ≤ (encU u).length ∧ (encU u).length ≤ 4 := by
  unfold encU
  split
  · simp
  · exact Lib.encodeRuneZ_length u
theorem textZ_byte : ∀ us : List Int, ∀ x ∈ textZ us, 0 ≤ x ∧ x < 256
  | [] => by intro x hx; rw [textZ] at hx; cases hx
  | [u] => by intro x hx; rw [textZ] at hx; exact encU_byte x hx
  | u :: v :: r => by
    intro x hx
    rw [textZ] at hx
    split at hx
    · rcases List.mem_append.1 hx with h | h
      · exact Lib.encodeRuneZ_byte _ x h
      · exact textZ_byte r x h
    · rcases List.mem_append.1 hx with h | h
      · exact encU_byte x h
      · exact textZ_byte (v :: r) x h
termination_by us => us.length
theorem textZ_length : ∀ us : List Int, (textZ us).length ≤ 4 * us.length
  | [] => by rw [textZ]; simp
  | [u] => by rw [textZ]; have := encU_length u; simp; omega
  | u :: v :: r => by
    rw [textZ]
    split
    · have := Lib.encodeRuneZ_length (pairZ u v)
      have := textZ_length r
      simp only [List.length_append, List.length_cons]
      omega
    · have := encU_length u
      have := textZ_length (v :: r)
      simp only [List.length_append, List.length_cons] at *
      omega
termination_by us => us.length
theorem cuZ_length (r : Int) : 1 ≤ (cuZ r).length ∧ (cuZ r).length ≤ 2 := by
  unfold cuZ
  by_cases h : 65536 ≤ r
  · rw [if_pos h]; exact ⟨by simp, by simp⟩
  · rw [if_neg h]; exact ⟨by simp, by simp⟩

/-! ### strings as lists of numbers -/
def bytesZ (s : ByteArray) : List Int := s.data.toList.map fun b => (b.toNat : Int)
theorem bytesZ_length (s : ByteArray) : (bytesZ s).length = s.size := by
  rw [bytesZ, List.length_map]; rfl
theorem bytesZ_byte (s : ByteArray) : ∀ x ∈ bytesZ s, 0 ≤ x ∧ x < 256 := by
  intro x hx
  obtain ⟨b, _, rfl⟩ := List.mem_map.1 hx
  have := b.toNat_lt
  omega
theorem bytesZ_str {l : List Int} (h : ∀ x ∈ l, 0 ≤ x ∧ x < 256) : bytesZ (strOfNums l) = l := by
  unfold bytesZ
  rw [strOfNums_data, List.map_map]
  conv => rhs; rw [← List.map_id l]
  refine List.map_congr_left fun x hx => ?_
  have := h x hx
  simp only [Function.comp, id]
  rw [UInt8.toNat_ofNat']
  omega
theorem str_bytesZ (s : ByteArray) : strOfNums (bytesZ s) = s := by
  have h : (strOfNums (bytesZ s)).data = s.data := by
    apply Array.toList_inj.1
    rw [strOfNums_data, bytesZ, List.map_map]
    conv => rhs; rw [← List.map_id s.data.toList]
    refine List.map_congr_left fun x _ => ?_
    simp
  cases s
  cases hs : strOfNums (bytesZ _)
  simp_all
theorem bytesZ_getD (s : ByteArray) (i : Nat) (h : i < s.size) : (bytesZ s).getD i 0 = ((s[i]).toNat : Int) := by
  obtain ⟨d⟩ := s
  have h' : i < d.size := h
  show (d.toList.map fun b => ((b.toNat : Nat) : Int)).getD i 0 = ((d[i]).toNat : Int)
  rw [List.getD, List.getElem?_map, Array.getElem?_toList, Array.getElem?_eq_getElem h']
  rfl
theorem bytesZ_get! (s : ByteArray) (i : Nat) : ((bytesZ s).getD i 0).toNat = (s.get! i).toNat := by
  by_cases h : i < s.size
  · rw [bytesZ_getD s i h, Utf8W.get!_of_lt s i h]; rfl
  · obtain ⟨d⟩ := s
    have h' : ¬ i < d.size := h
    have e : (⟨d⟩ : ByteArray).get! i = (0 : UInt8) := by
      show d[i]! = (0 : UInt8)
      rw [getElem!_neg d i h']
      rfl
    rw [e]
    show ((d.toList.map fun b => ((b.toNat : Nat) : Int)).getD i 0).toNat = _
    rw [List.getD, List.getElem?_map, Array.getElem?_toList, Array.getElem?_eq_none (by omega)]
    rfl
theorem decodeGo_eq (s : ByteArray) : (((Lib.decodeGo s).1 : Int), ((Lib.decodeGo s).2 : Int)) = decZ (bytesZ s) := by
  unfold Lib.decodeGo decZ
  rw [bytesZ_length]
  by_cases h : s.size = 0
  · rw [if_pos h, if_pos h]; rfl
  · rw [if_neg h, if_neg h, Lib.decode_at, bytesZ_get!, bytesZ_get!, bytesZ_get!, bytesZ_get!]
    simp
theorem bytesZ_drop (s : ByteArray) (k : Nat) : bytesZ (s.extract k s.size) = (bytesZ s).drop k := by
  unfold bytesZ
  rw [← List.map_drop]
  congr 1
  obtain ⟨d⟩ := s
  show ((⟨d⟩ : ByteArray).extract k d.size).data.toList = d.toList.drop k
  rw [ByteArray.data_extract, Array.toList_extract]
  rw [List.extract, List.take_of_length_le (by simp)]
end Go.Proofs.YtmhbkilidpbenaaDoor
