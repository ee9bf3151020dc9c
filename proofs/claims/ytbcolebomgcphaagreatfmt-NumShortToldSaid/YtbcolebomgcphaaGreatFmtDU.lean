/- Plain mathematics on units and bytes, no program in sight: what the texts of units are, what the units of a text are, and that the units of the text of units are those units. Condition: each unit lies between 0 and 65535. Plain mathematics for UnitsTurned: packed texts, letters turned one by one, white space taken off; no program in sight. -/
import Derived.Lib.DecodeN
import Derived.Lib.RuneBytes
import Derived.Laws.BytesArg
import Derived.Shelf.Unicode.DecodeSlow
namespace Go.Proofs.YtbcolebomgcphaaGreatFmt.Dr

def isHi (u : Int) : Bool := decide (55296 ≤ u ∧ u < 56320)
def isLo (u : Int) : Bool := decide (56320 ≤ u ∧ u < 57344)
def pairZ (u v : Int) : Int := 65536 + (u - 55296) * 1024 + (v - 56320)
def encU (u : Int) : List Int := if isHi u || isLo u then [237, 128 + u / 64 % 64, 128 + u % 64] else Lib.encodeRuneZ u
def textZ : List Int → List Int
  | [] => []
  | [u] => encU u
  | u :: v :: r => if isHi u && isLo v then Lib.encodeRuneZ (pairZ u v) ++ textZ r else encU u ++ textZ (v :: r)

def decZ (b : List Int) : Int × Int :=
  if b.length = 0 then (65533, 0)
  else (((Lib.decodeN b.length (b.getD 0 0).toNat (b.getD 1 0).toNat (b.getD 2 0).toNat (b.getD 3 0).toNat).1 : Nat),
    ((Lib.decodeN b.length (b.getD 0 0).toNat (b.getD 1 0).toNat (b.getD 2 0).toNat (b.getD 3 0).toNat).2 : Nat))
def surZ (b : List Int) : Bool := decide (2 < b.length ∧ b.getD 0 0 = 237 ∧ 160 ≤ b.getD 1 0 ∧ b.getD 1 0 ≤ 191 ∧ 128 ≤ b.getD 2 0 ∧ b.getD 2 0 ≤ 191)
def nextZ (b : List Int) : Int × Int :=
  if surZ b then (53248 + b.getD 1 0 % 64 * 64 + b.getD 2 0 % 64, 3) else decZ b
def cuZ (r : Int) : List Int := if 65536 ≤ r then [55296 + (r - 65536) / 1024, 56320 + (r - 65536) % 1024] else [r]

theorem decodeN_range (n b0 b1 b2 b3 : Nat) (hn : 1 ≤ n) : 1 ≤ (Lib.decodeN n b0 b1 b2 b3).2 ∧ (Lib.decodeN n b0 b1 b2 b3).2 ≤ n ∧ (Lib.decodeN n b0 b1 b2 b3).1 ≤ 1114111 := by
  unfold Lib.decodeN
  repeat' split
  all_goals (refine ⟨?_, ?_, ?_⟩ <;> simp only <;> omega)
theorem decodeN_sur (n b0 b1 b2 b3 : Nat) (h : b0 = 237) (h1 : 160 ≤ b1) (h2 : b1 ≤ 191) (h3 : 128 ≤ b2) (h4 : b2 ≤ 191) : Lib.decodeN n b0 b1 b2 b3 = (65533, 1) := by
  subst h
  unfold Lib.decodeN
  repeat' split
  all_goals first | rfl | (exfalso; omega)

theorem decZ_pos {b : List Int} (h : b ≠ []) : 1 ≤ (decZ b).2 ∧ (decZ b).2 ≤ b.length ∧ 0 ≤ (decZ b).1 ∧ (decZ b).1 ≤ 1114111 := by
  have hl : b.length ≠ 0 := fun e => h (List.eq_nil_of_length_eq_zero e)
  have := decodeN_range b.length (b.getD 0 0).toNat (b.getD 1 0).toNat (b.getD 2 0).toNat (b.getD 3 0).toNat (by omega)
  unfold decZ
  rw [if_neg hl]
  simp only
  omega
theorem nextZ_pos {b : List Int} (h : b ≠ []) : 1 ≤ (nextZ b).2 ∧ (nextZ b).2 ≤ b.length ∧ 0 ≤ (nextZ b).1 ∧ (nextZ b).1 ≤ 1114111 := by
  unfold nextZ
  split
  · rename_i hs
    simp only [surZ, decide_eq_true_eq] at hs
    simp only
    omega
  · exact decZ_pos h

def unitsZ (b : List Int) : List Int := if _h : b = [] then [] else cuZ (nextZ b).1 ++ unitsZ (b.drop (nextZ b).2.toNat)
termination_by b.length
decreasing_by
  have := nextZ_pos _h
  rw [List.length_drop]
  have : 0 < b.length := by
    rcases b with _ | ⟨x, r⟩
    · exact absurd rfl _h
    · simp
  omega

theorem unitsZ_nil : unitsZ [] = [] := by rw [unitsZ]; simp
theorem unitsZ_step {b : List Int} (h : b ≠ []) : unitsZ b = cuZ (nextZ b).1 ++ unitsZ (b.drop (nextZ b).2.toNat) := by
  rw [unitsZ]; simp [h]

/-! ### what is written is read again -/
theorem nextZ_enc {r : Int} (h : (0 ≤ r ∧ r < 55296) ∨ (57344 ≤ r ∧ r ≤ 1114111)) (t : List Int) : nextZ (Lib.encodeRuneZ r ++ t) = (r, (((Lib.encodeRuneZ r).length : Nat) : Int)) := by
  by_cases h1 : r ≤ 127
  · rw [Lib.encodeRuneZ_one (r := r) (by omega) h1]
    have hs : surZ ([r] ++ t) = false := by
      simp only [surZ, decide_eq_false_iff_not]; simp; omega
    unfold nextZ decZ
    rw [hs]
    simp only [Bool.false_eq_true, if_false, List.cons_append, List.nil_append, List.length_cons, List.getD_cons_zero]
    rw [if_neg (by omega)]
    unfold Lib.decodeN
    rw [if_pos (by omega)]
    simp only [List.length_nil]
    apply Prod.ext <;> simp only <;> omega
  · by_cases h2 : r ≤ 2047
    · rw [Lib.encodeRuneZ_two (r := r) (by omega) h2]
      have hs : surZ ([192 + r / 64, 128 + r % 64] ++ t) = false := by
        simp only [surZ, decide_eq_false_iff_not]; simp; omega
      unfold nextZ decZ
      rw [hs]
      simp only [Bool.false_eq_true, if_false, List.cons_append, List.nil_append, List.length_cons, List.getD_cons_zero, List.getD_cons_succ, List.length_nil]
      rw [if_neg (by omega)]
      unfold Lib.decodeN
      rw [if_neg (by omega), if_pos (by omega), if_pos (by omega)]
      apply Prod.ext <;> simp only <;> omega
    · by_cases h3 : r ≤ 65535
      · rw [Lib.encodeRuneZ_three (r := r) (by omega)]
        have hs : surZ ([224 + r / 4096, 128 + r / 64 % 64, 128 + r % 64] ++ t) = false := by
          simp only [surZ, decide_eq_false_iff_not]; simp; omega
        unfold nextZ decZ
        rw [hs]
        simp only [Bool.false_eq_true, if_false, List.cons_append, List.nil_append, List.length_cons, List.getD_cons_zero, List.getD_cons_succ, List.length_nil]
        rw [if_neg (by omega)]
        unfold Lib.decodeN
        rw [if_neg (by omega), if_neg (by omega), if_pos (by omega), if_pos (by omega)]
        apply Prod.ext <;> simp only <;> omega
      · rw [Lib.encodeRuneZ_four (r := r) (by omega) (by omega)]
        have hs : surZ ([240 + r / 262144, 128 + r / 4096 % 64, 128 + r / 64 % 64, 128 + r % 64] ++ t) = false := by
          simp only [surZ, decide_eq_false_iff_not]; simp; omega
        unfold nextZ decZ
        rw [hs]
        simp only [Bool.false_eq_true, if_false, List.cons_append, List.nil_append, List.length_cons, List.getD_cons_zero, List.getD_cons_succ, List.length_nil]
        rw [if_neg (by omega)]
        unfold Lib.decodeN
        rw [if_neg (by omega), if_neg (by omega), if_neg (by omega), if_pos (by omega), if_pos (by omega)]
        apply Prod.ext <;> simp only <;> omega

theorem unitsZ_enc {r : Int} (h : (0 ≤ r ∧ r < 55296) ∨ (57344 ≤ r ∧ r ≤ 1114111)) (t : List Int) : unitsZ (Lib.encodeRuneZ r ++ t) = cuZ r ++ unitsZ t := by
  have hl := Lib.encodeRuneZ_length r
  have hne : Lib.encodeRuneZ r ++ t ≠ [] := by
    intro e
    have := congrArg List.length e
    rw [List.length_append, List.length_nil] at this
    omega
  rw [unitsZ_step hne, nextZ_enc h t]
  simp
/-! ### by places -/
theorem textZ_pair {us : List Int} {k : Nat} (h : k + 1 < us.length) (h1 : isHi (us.getD k 0) = true) (h2 : isLo (us.getD (k + 1) 0) = true) :
    textZ (us.drop k) = Lib.encodeRuneZ (pairZ (us.getD k 0) (us.getD (k + 1) 0)) ++ textZ (us.drop (k + 2)) := by
  have e1 : us.drop k = us.getD k 0 :: us.getD (k + 1) 0 :: us.drop (k + 2) := by
    rw [List.drop_eq_getElem_cons (by omega), List.drop_eq_getElem_cons h]
    simp [List.getD, List.getElem?_eq_getElem (show k < us.length by omega), List.getElem?_eq_getElem h]
  rw [e1, textZ, if_pos (by rw [h1, h2]; rfl)]
theorem textZ_one {us : List Int} {k : Nat} (h : k < us.length) (hn : ¬ (isHi (us.getD k 0) = true ∧ k + 1 < us.length ∧ isLo (us.getD (k + 1) 0) = true)) :
    textZ (us.drop k) = encU (us.getD k 0) ++ textZ (us.drop (k + 1)) := by
  by_cases h2 : k + 1 < us.length
  · have e1 : us.drop k = us.getD k 0 :: us.getD (k + 1) 0 :: us.drop (k + 2) := by
      rw [List.drop_eq_getElem_cons (by omega), List.drop_eq_getElem_cons h2]
      simp [List.getD, List.getElem?_eq_getElem (show k < us.length by omega), List.getElem?_eq_getElem h2]
    have e2 : us.drop (k + 1) = us.getD (k + 1) 0 :: us.drop (k + 2) := by
      rw [List.drop_eq_getElem_cons h2]
      simp [List.getD, List.getElem?_eq_getElem h2]
    rw [e1, e2, textZ, if_neg]
    intro hh
    rw [Bool.and_eq_true] at hh
    exact hn ⟨hh.1, h2, hh.2⟩
  · have e1 : us.drop k = [us.getD k 0] := by
      rw [List.drop_eq_getElem_cons h, List.drop_eq_nil_of_le (by omega)]
      simp [List.getD, List.getElem?_eq_getElem h]
    rw [e1, List.drop_eq_nil_of_le (by omega), textZ, textZ, List.append_nil]

theorem cuZ_length (r : Int) : 1 ≤ (cuZ r).length ∧ (cuZ r).length ≤ 2 := by
  unfold cuZ
  by_cases h : 65536 ≤ r
  · rw [if_pos h]; exact ⟨by simp, by simp⟩
  · rw [if_neg h]; exact ⟨by simp, by simp⟩

/-! ### strings as lists of numbers -/
def bytesZ (s : ByteArray) : List Int := s.data.toList.map fun b => (b.toNat : Int)
theorem bytesZ_length (s : ByteArray) : (bytesZ s).length = s.size := by
  rw [bytesZ, List.length_map]; rfl
theorem bytesZ_byte (s : ByteArray) : ∀ x ∈ bytesZ s, 0 ≤ x ∧ x < 256 := by
  intro x hx
  obtain ⟨b, _, rfl⟩ := List.mem_map.1 hx
  have := b.toNat_lt
  omega
theorem bytesZ_str {l : List Int} (h : ∀ x ∈ l, 0 ≤ x ∧ x < 256) : bytesZ (strOfNums l) = l := by
  unfold bytesZ
  rw [strOfNums_data, List.map_map]
  conv => rhs; rw [← List.map_id l]
  refine List.map_congr_left fun x hx => ?_
  have := h x hx
  simp only [Function.comp, id]
  rw [UInt8.toNat_ofNat']
  omega
theorem bytesZ_getD (s : ByteArray) (i : Nat) (h : i < s.size) : (bytesZ s).getD i 0 = ((s[i]).toNat : Int) := by
  obtain ⟨d⟩ := s
  have h' : i < d.size := h
  show (d.toList.map fun b => ((b.toNat : Nat) : Int)).getD i 0 = ((d[i]).toNat : Int)
  rw [List.getD, List.getElem?_map, Array.getElem?_toList, Array.getElem?_eq_getElem h']
  rfl
theorem bytesZ_get! (s : ByteArray) (i : Nat) : ((bytesZ s).getD i 0).toNat = (s.get! i).toNat := by
  by_cases h : i < s.size
  · rw [bytesZ_getD s i h, Utf8W.get!_of_lt s i h]; rfl
  · obtain ⟨d⟩ := s
    have h' : ¬ i < d.size := h
    have e : (⟨d⟩ : ByteArray).get! i = (0 : UInt8) := by
      show d[i]! = (0 : UInt8)
      rw [getElem!_neg d i h']
      rfl
    rw [e]
    show ((d.toList.map fun b => ((b.toNat : Nat) : Int)).getD i 0).toNat = _
    rw [List.getD, List.getElem?_map, Array.getElem?_toList, Array.getElem?_eq_none (by omega)]
    rfl
theorem decodeGo_eq (s : ByteArray) : (((Lib.decodeGo s).1 : Int), ((Lib.decodeGo s).2 : Int)) = decZ (bytesZ s) := by
  unfold Lib.decodeGo decZ
  rw [bytesZ_length]
  by_cases h : s.size = 0
  · rw [if_pos h, if_pos h]; rfl
  · rw [if_neg h, if_neg h, Lib.decode_at, bytesZ_get!, bytesZ_get!, bytesZ_get!, bytesZ_get!]
    simp
theorem bytesZ_drop (s : ByteArray) (k : Nat) : bytesZ (s.extract k s.size) = (bytesZ s).drop k := by
  unfold bytesZ
  rw [← List.map_drop]
  congr 1
  obtain ⟨d⟩ := s
  show ((⟨d⟩ : ByteArray).extract k d.size).data.toList = d.toList.drop k
  rw [ByteArray.data_extract, Array.toList_extract]
  rw [List.extract, List.take_of_length_le (by simp)]
end Go.Proofs.YtbcolebomgcphaaGreatFmt.Dr

namespace Go.Proofs.YtbcolebomgcphaaGreatFmt.Dr

def packZ (us : List Int) : List Int := us.flatMap fun u => [u / 256, u % 256]
theorem packZ_nil : packZ [] = [] := rfl
theorem packZ_cons (u : Int) (us : List Int) : packZ (u :: us) = u / 256 :: u % 256 :: packZ us := rfl
theorem packZ_append (a b : List Int) : packZ (a ++ b) = packZ a ++ packZ b := List.flatMap_append
theorem packZ_length : ∀ us : List Int, (packZ us).length = 2 * us.length
  | [] => rfl
  | u :: us => by rw [packZ_cons, List.length_cons, List.length_cons, packZ_length us, List.length_cons]; omega
theorem packZ_getD : ∀ (us : List Int) (i : Nat), i < us.length → (packZ us).getD (2 * i) 0 = us.getD i 0 / 256 ∧ (packZ us).getD (2 * i + 1) 0 = us.getD i 0 % 256
  | [], i, h => absurd h (by simp)
  | u :: us, 0, _ => by simp [packZ_cons]
  | u :: us, i + 1, h => by
    have := packZ_getD us i (by simpa using h)
    rw [packZ_cons, show 2 * (i + 1) = 2 * i + 1 + 1 by omega]
    simpa using this
theorem packZ_byte {us : List Int} (h : ∀ u ∈ us, 0 ≤ u ∧ u ≤ 65535) : ∀ x ∈ packZ us, 0 ≤ x ∧ x < 256 := by
  intro x hx
  obtain ⟨u, hu, hx⟩ := List.mem_flatMap.1 hx
  have := h u hu
  simp at hx
  rcases hx with rfl | rfl <;> omega
theorem packZ_take (us : List Int) (k : Nat) : (packZ us).take (2 * k) = packZ (us.take k) := by
  by_cases hk : k ≤ us.length
  · conv => lhs; rw [← List.take_append_drop k us, packZ_append]
    rw [List.take_left' (by rw [packZ_length, List.length_take]; omega)]
  · rw [List.take_of_length_le (by rw [packZ_length]; omega), List.take_of_length_le (by omega)]
theorem packZ_drop (us : List Int) (k : Nat) : (packZ us).drop (2 * k) = packZ (us.drop k) := by
  by_cases hk : k ≤ us.length
  · conv => lhs; rw [← List.take_append_drop k us, packZ_append]
    rw [List.drop_left' (by rw [packZ_length, List.length_take]; omega)]
  · rw [List.drop_eq_nil_of_le (by rw [packZ_length]; omega), List.drop_eq_nil_of_le (by omega)]; rfl

/-! ### the units of any bytes lie in their range -/
theorem cuZ_range {r : Int} (h0 : 0 ≤ r) (h1 : r ≤ 1114111) : ∀ u ∈ cuZ r, 0 ≤ u ∧ u ≤ 65535 := by
  intro u hu
  unfold cuZ at hu
  split at hu
  · simp at hu
    rcases hu with rfl | rfl <;> omega
  · simp at hu
    omega
theorem unitsZ_range : ∀ (n : Nat) (b : List Int), b.length = n → ∀ u ∈ unitsZ b, 0 ≤ u ∧ u ≤ 65535 := by
  intro n
  induction n using Nat.strongRecOn with
  | _ n ih =>
    intro b hb u hu
    by_cases hn : b = []
    · subst hn; rw [unitsZ_nil] at hu; cases hu
    · have hp := nextZ_pos hn
      rw [unitsZ_step hn] at hu
      rcases List.mem_append.1 hu with h | h
      · exact cuZ_range hp.2.2.1 hp.2.2.2 u h
      · exact ih (b.drop (nextZ b).2.toNat).length (by rw [List.length_drop]; omega) _ rfl u h
theorem unitsZ_length : ∀ (n : Nat) (b : List Int), b.length = n → (unitsZ b).length ≤ 2 * b.length := by
  intro n
  induction n using Nat.strongRecOn with
  | _ n ih =>
    intro b hb
    by_cases hn : b = []
    · subst hn; rw [unitsZ_nil]; simp
    · have hp := nextZ_pos hn
      rw [unitsZ_step hn, List.length_append]
      have := ih (b.drop (nextZ b).2.toNat).length (by rw [List.length_drop]; omega) _ rfl
      have hc := cuZ_length (nextZ b).1
      rw [List.length_drop] at this
      omega

/-! ### bytes below 128 are their own units -/
theorem unitsZ_ascii : ∀ b : List Int, (∀ x ∈ b, 0 ≤ x ∧ x < 128) → unitsZ b = b
  | [], _ => unitsZ_nil
  | x :: r, h => by
    have hx := h x (by simp)
    have e : x :: r = Lib.encodeRuneZ x ++ r := by rw [Lib.encodeRuneZ_one (r := x) hx.1 (by omega)]; rfl
    rw [e, unitsZ_enc (by omega), unitsZ_ascii r (fun y hy => h y (by simp [hy]))]
    unfold cuZ
    rw [if_neg (by omega), Lib.encodeRuneZ_one (r := x) hx.1 (by omega)]

/-! ### letter by letter -/
/-! ### by places -/
/-! ### white space at the ends -/
end Go.Proofs.YtbcolebomgcphaaGreatFmt.Dr
