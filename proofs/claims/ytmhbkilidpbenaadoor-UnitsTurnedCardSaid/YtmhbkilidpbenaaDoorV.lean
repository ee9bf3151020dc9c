/- Plain mathematics for UnitsTurned: packed texts, letters turned one by one, white space taken off; no program in sight. -/
import Derived.Test.YtmhbkilidpbenaaDoorU
namespace Go.Proofs.YtmhbkilidpbenaaDoor

def packZ (us : List Int) : List Int := us.flatMap fun u => [u / 256, u % 256]
theorem packZ_nil : packZ [] = [] := rfl
theorem packZ_cons (u : Int) (us : List Int) : packZ (u :: us) = u / 256 :: u % 256 :: packZ us := rfl
theorem packZ_append (a b : List Int) : packZ (a ++ b) = packZ a ++ packZ b := List.flatMap_append
theorem packZ_length : ∀ us : List Int, (packZ us).length = 2 * us.length
  | [] => rfl
  | u :: us => by rw [packZ_cons, List.length_cons, List.length_cons, packZ_length us, List.length_cons]; omega
theorem packZ_getD : ∀ (us : List Int) (i : Nat), i < us.length → (packZ us).getD (2 * i) 0 = us.getD i 0 / 256 ∧ (packZ us).getD (2 * i + 1) 0 = us.getD i 0 % 256
  | [], i, h => absurd h (by simp)
  | u :: us, 0, _ => by simp [packZ_cons]
  | u :: us, i + 1, h => by
    have := packZ_getD us i (by simpa using h)
    rw [packZ_cons, show 2 * (i + 1) = 2 * i + 1 + 1 by omega]
    simpa using this
theorem packZ_byte {us : List Int} (h : ∀ u ∈ us, 0 ≤ u ∧ u ≤ 65535) : ∀ x ∈ packZ us, 0 ≤ x ∧ x < 256 := by
  intro x hx
  obtain ⟨u, hu, hx⟩ := List.mem_flatMap.1 hx
  have := h u hu
  simp at hx
  rcases hx with rfl | rfl <;> omega
theorem packZ_take (us : List Int) (k : Nat) : (packZ us).take (2 * k) = packZ (us.take k) := by
  by_cases hk : k ≤ us.length
  · conv => lhs; rw [← List.take_append_drop k us, packZ_append]
    rw [List.take_left' (by rw [packZ_length, List.length_take]; omega)]
  · rw [List.take_of_length_le (by rw [packZ_length]; omega), List.take_of_length_le (by omega)]
theorem packZ_drop (us : List Int) (k : Nat) : (packZ us).drop (2 * k) = packZ (us.drop k) := by
  by_cases hk : k ≤ us.length
  · conv => lhs; rw [← List.take_append_drop k us, packZ_append]
    rw [List.drop_left' (by rw [packZ_length, List.length_take]; omega)]
  · rw [List.drop_eq_nil_of_le (by rw [packZ_length]; omega), List.drop_eq_nil_of_le (by omega)]; rfl

/-! ### the units of any bytes lie in their range -/
theorem cuZ_range {r : Int} (h0 : 0 ≤ r) (h1 : r ≤ 1114111) : ∀ u ∈ cuZ r, 0 ≤ u ∧ u ≤ 65535 := by
  intro u hu
  unfold cuZ at hu
  split at hu
  · simp at hu
    rcases hu with rfl | rfl <;> omega
  · simp at hu
    omega
theorem unitsZ_range : ∀ (n : Nat) (b : List Int), b.length = n → ∀ u ∈ unitsZ b, 0 ≤ u ∧ u ≤ 65535 := by
  intro n
  induction n using Nat.strongRecOn with
  | _ n ih =>
    intro b hb u hu
    by_cases hn : b = []
    · subst hn; rw [unitsZ_nil] at hu; cases hu
    · have hp := nextZ_pos hn
      rw [unitsZ_step hn] at hu
      rcases List.mem_append.1 hu with h | h
      · exact cuZ_range hp.2.2.1 hp.2.2.2 u h
      · exact ih (b.drop (nextZ b).2.toNat).length (by rw [List.length_drop]; omega) _ rfl u h
theorem unitsZ_length : ∀ (n : Nat) (b : List Int), b.length = n → (unitsZ b).length ≤ 2 * b.length := by
  intro n
  induction n using Nat.strongRecOn with
  | _ n ih =>
    intro b hb
    by_cases hn : b = []
    · subst hn; rw [unitsZ_nil]; simp
    · have hp := nextZ_pos hn
      rw [unitsZ_step hn, List.length_append]
      have := ih (b.drop (nextZ b).2.toNat).length (by rw [List.length_drop]; omega) _ rfl
      have hc := cuZ_length (nextZ b).1
      rw [List.length_drop] at this
      omega

/-! ### bytes below 128 are their own units -/
theorem unitsZ_ascii : ∀ b : List Int, (∀ x ∈ b, 0 ≤ x ∧ x < 128) → unitsZ b = b
  | [], _ => unitsZ_nil
  | x :: r, h => by
    have hx := h x (by simp)
    have e : x :: r = Lib.encodeRuneZ x ++ r := by rw [Lib.encodeRuneZ_one (r := x) hx.1 (by omega)]; rfl
    rw [e, unitsZ_enc (by omega), unitsZ_ascii r (fun y hy => h y (by simp [hy]))]
    unfold cuZ
    rw [if_neg (by omega), Lib.encodeRuneZ_one (r := x) hx.1 (by omega)]

/-! ### letter by letter -/
/-- What Map writes: each code point by f; a half that stands alone stays. -/
def isSur (r : Int) : Bool := decide (55296 ≤ r ∧ r < 57344)
def mapZ (f : Int → Int) (b : List Int) : List Int :=
  if _h : b = [] then [] else (if isSur (nextZ b).1 then b.take (nextZ b).2.toNat else Lib.encodeRuneZ (f (nextZ b).1)) ++ mapZ f (b.drop (nextZ b).2.toNat)
termination_by b.length
decreasing_by
  have := nextZ_pos _h
  rw [List.length_drop]
  have : 0 < b.length := by
    rcases b with _ | ⟨x, r⟩
    · exact absurd rfl _h
    · simp
  omega
theorem mapZ_nil (f : Int → Int) : mapZ f [] = [] := by rw [mapZ]; simp
theorem mapZ_step (f : Int → Int) {b : List Int} (h : b ≠ []) : mapZ f b = (if isSur (nextZ b).1 then b.take (nextZ b).2.toNat else Lib.encodeRuneZ (f (nextZ b).1)) ++ mapZ f (b.drop (nextZ b).2.toNat) := by
  rw [mapZ]; simp [h]
/-- The reference's Cased. -/
def caseU (f : Int → Int) (r : Int) : List Int := unitsZ (Lib.encodeRuneZ (f r))
def casedZ (f : Int → Int) : List Int → List Int
  | [] => []
  | [u] => if isSur u then [u] else caseU f u
  | u :: v :: r => if isHi u && isLo v then caseU f (pairZ u v) ++ casedZ f r else (if isSur u then [u] else caseU f u) ++ casedZ f (v :: r)

theorem enc_ne (r : Int) (t : List Int) : Lib.encodeRuneZ r ++ t ≠ [] := by
  intro e
  have := congrArg List.length e
  have hl := Lib.encodeRuneZ_length r
  rw [List.length_append, List.length_nil] at this
  omega
theorem mapZ_enc (f : Int → Int) {r : Int} (h : (0 ≤ r ∧ r < 55296) ∨ (57344 ≤ r ∧ r ≤ 1114111)) (t : List Int) : mapZ f (Lib.encodeRuneZ r ++ t) = Lib.encodeRuneZ (f r) ++ mapZ f t := by
  rw [mapZ_step f (enc_ne r t), nextZ_enc h t]
  have hs : isSur r = false := by simp [isSur]; omega
  simp [hs]
theorem mapZ_sur (f : Int → Int) {u : Int} (h : 55296 ≤ u ∧ u < 57344) (t : List Int) : mapZ f ([237, 128 + u / 64 % 64, 128 + u % 64] ++ t) = [237, 128 + u / 64 % 64, 128 + u % 64] ++ mapZ f t := by
  rw [mapZ_step f (by simp), nextZ_sur h]
  have hs : isSur u = true := by simp [isSur]; omega
  simp [hs]
theorem unitsZ_any (r : Int) (t : List Int) : unitsZ (Lib.encodeRuneZ r ++ t) = unitsZ (Lib.encodeRuneZ r) ++ unitsZ t := by
  by_cases h : (0 ≤ r ∧ r < 55296) ∨ (57344 ≤ r ∧ r ≤ 1114111)
  · rw [unitsZ_enc h, ← List.append_nil (Lib.encodeRuneZ r), unitsZ_enc h, unitsZ_nil, List.append_nil]
  · have e : Lib.encodeRuneZ r = Lib.encodeRuneZ 65533 := by
      rw [Lib.encodeRuneZ_bad (r := r) (by omega), Lib.encodeRuneZ_three (r := 65533) (by omega)]
      decide
    rw [e, unitsZ_enc (by omega), ← List.append_nil (Lib.encodeRuneZ 65533), unitsZ_enc (by omega), unitsZ_nil, List.append_nil]
theorem one_case (f : Int → Int) {u : Int} (h0 : 0 ≤ u) (h1 : u ≤ 65535) (t : List Int) : unitsZ (mapZ f (encU u ++ t)) = (if isSur u then [u] else caseU f u) ++ unitsZ (mapZ f t) := by
  unfold encU
  by_cases hs : 55296 ≤ u ∧ u < 57344
  · have e : (isHi u || isLo u) = true := by simp [isHi, isLo]; omega
    have e2 : isSur u = true := by simp [isSur]; omega
    rw [if_pos e, if_pos e2, mapZ_sur f hs, unitsZ_step (by simp), nextZ_sur hs]
    unfold cuZ
    rw [if_neg (by omega)]
    simp
  · have e : ¬ (isHi u || isLo u) = true := by simp [isHi, isLo]; omega
    have e2 : ¬ isSur u = true := by simp [isSur]; omega
    rw [if_neg e, if_neg e2, mapZ_enc f (by omega), unitsZ_any]
    rfl
theorem cased_map (f : Int → Int) : ∀ us : List Int, (∀ u ∈ us, 0 ≤ u ∧ u ≤ 65535) → unitsZ (mapZ f (textZ us)) = casedZ f us
  | [], _ => by rw [textZ, mapZ_nil, unitsZ_nil, casedZ]
  | [u], h => by
    have hu := h u (by simp)
    rw [textZ, casedZ, ← List.append_nil (encU u), one_case f hu.1 hu.2, mapZ_nil, unitsZ_nil, List.append_nil]
  | u :: v :: r, h => by
    have hu := h u (by simp)
    have hv := h v (by simp)
    rw [textZ, casedZ]
    by_cases hp : (isHi u && isLo v) = true
    · rw [if_pos hp, if_pos hp]
      simp only [isHi, isLo, Bool.and_eq_true, decide_eq_true_eq] at hp
      rw [mapZ_enc f (by unfold pairZ; omega), unitsZ_any, cased_map f r (fun x hx => h x (by simp [hx]))]
      rfl
    · rw [if_neg hp, if_neg hp, one_case f hu.1 hu.2, cased_map f (v :: r) (fun x hx => h x (List.mem_cons_of_mem _ hx))]
termination_by us => us.length

/-! ### by places -/
theorem casedZ_pair (f : Int → Int) {us : List Int} {k : Nat} (h : k + 1 < us.length) (h1 : isHi (us.getD k 0) = true) (h2 : isLo (us.getD (k + 1) 0) = true) :
    casedZ f (us.drop k) = caseU f (pairZ (us.getD k 0) (us.getD (k + 1) 0)) ++ casedZ f (us.drop (k + 2)) := by
  have e1 : us.drop k = us.getD k 0 :: us.getD (k + 1) 0 :: us.drop (k + 2) := by
    rw [List.drop_eq_getElem_cons (by omega), List.drop_eq_getElem_cons h]
    simp [List.getD, List.getElem?_eq_getElem (show k < us.length by omega), List.getElem?_eq_getElem h]
  rw [e1, casedZ, if_pos (by rw [h1, h2]; rfl)]
theorem casedZ_one (f : Int → Int) {us : List Int} {k : Nat} (h : k < us.length) (hn : ¬ (isHi (us.getD k 0) = true ∧ k + 1 < us.length ∧ isLo (us.getD (k + 1) 0) = true)) :
    casedZ f (us.drop k) = (if isSur (us.getD k 0) then [us.getD k 0] else caseU f (us.getD k 0)) ++ casedZ f (us.drop (k + 1)) := by
  by_cases h2 : k + 1 < us.length
  · have e1 : us.drop k = us.getD k 0 :: us.getD (k + 1) 0 :: us.drop (k + 2) := by
      rw [List.drop_eq_getElem_cons (by omega), List.drop_eq_getElem_cons h2]
      simp [List.getD, List.getElem?_eq_getElem (show k < us.length by omega), List.getElem?_eq_getElem h2]
    have e2 : us.drop (k + 1) = us.getD (k + 1) 0 :: us.drop (k + 2) := by
      rw [List.drop_eq_getElem_cons h2]
      simp [List.getD, List.getElem?_eq_getElem h2]
    rw [e1, e2, casedZ, if_neg]
    intro hh
    rw [Bool.and_eq_true] at hh
    exact hn ⟨hh.1, h2, hh.2⟩
  · have e1 : us.drop k = [us.getD k 0] := by
      rw [List.drop_eq_getElem_cons h, List.drop_eq_nil_of_le (by omega)]
      simp [List.getD, List.getElem?_eq_getElem h]
    rw [e1, List.drop_eq_nil_of_le (by omega), casedZ, casedZ, List.append_nil]
theorem caseU_range (f : Int → Int) (r : Int) : ∀ u ∈ caseU f r, 0 ≤ u ∧ u ≤ 65535 := unitsZ_range _ _ rfl
theorem caseU_length (f : Int → Int) (r : Int) : (caseU f r).length ≤ 8 := by
  have h1 := unitsZ_length _ (Lib.encodeRuneZ (f r)) rfl
  have h2 := Lib.encodeRuneZ_length (f r)
  unfold caseU
  omega
theorem mapZ_byte (f : Int → Int) : ∀ (n : Nat) (b : List Int), b.length = n → (∀ x ∈ b, 0 ≤ x ∧ x < 256) → ∀ x ∈ mapZ f b, 0 ≤ x ∧ x < 256 := by
  intro n
  induction n using Nat.strongRecOn with
  | _ n ih =>
    intro b hb hr x hx
    by_cases hn : b = []
    · subst hn; rw [mapZ_nil] at hx; cases hx
    · have hp := nextZ_pos hn
      rw [mapZ_step f hn] at hx
      rcases List.mem_append.1 hx with h | h
      · split at h
        · exact hr x (List.mem_of_mem_take h)
        · exact Lib.encodeRuneZ_byte _ x h
      · exact ih (b.drop (nextZ b).2.toNat).length (by rw [List.length_drop]; omega) _ rfl (fun y hy => hr y (List.mem_of_mem_drop hy)) x h

/-! ### white space at the ends -/
/-- how many units stand at the front up to n that are white -/
def lead (p : Int → Bool) (us : List Int) (i : Nat) : Nat := i + ((us.drop i).takeWhile p).length
def frontZ (p : Int → Bool) (us : List Int) : Nat := (us.takeWhile p).length
def trimZ (p : Int → Bool) (us : List Int) : List Int := ((us.dropWhile p).reverse.dropWhile p).reverse
end Go.Proofs.YtmhbkilidpbenaaDoor
