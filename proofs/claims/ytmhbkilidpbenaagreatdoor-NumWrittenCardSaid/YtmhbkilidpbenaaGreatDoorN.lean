/- The plain law of the reference's whole numbers: lists of digits to the base 65536 and what they stand for. No condition beyond each lemma's own. -/
namespace Go.Proofs.YtmhbkilidpbenaaGreatDoor

/-- What a list of digits stands for, the lowest first. -/
def val : List Int → Int
  | [] => 0
  | d :: l => d + 65536 * val l
def Dig (l : List Int) : Prop := ∀ d ∈ l, 0 ≤ d ∧ d < 65536
/-- Digits, of which the last is not 0. -/
def Canon (l : List Int) : Prop := Dig l ∧ (0 < l.length → l.getD (l.length - 1) 0 ≠ 0)
def pw (n : Nat) : Int := 65536 ^ n
theorem pw_zero : pw 0 = 1 := rfl
theorem pw_succ (n : Nat) : pw (n + 1) = 65536 * pw n := by unfold pw; rw [Int.pow_succ, Int.mul_comm]
theorem pw_add (m n : Nat) : pw (m + n) = pw m * pw n := by unfold pw; rw [Int.pow_add]
theorem pw_pos (n : Nat) : 0 < pw n := Int.pow_pos (by decide)
theorem pw_le {m n : Nat} (h : m ≤ n) : pw m ≤ pw n := by
  obtain ⟨k, rfl⟩ := Nat.exists_eq_add_of_le h
  rw [pw_add]
  have h1 := pw_pos m
  have h2 := pw_pos k
  have : pw m * 1 ≤ pw m * pw k := Int.mul_le_mul_of_nonneg_left (by omega) (by omega)
  omega
theorem val_nil : val [] = 0 := rfl
theorem val_cons (d : Int) (l : List Int) : val (d :: l) = d + 65536 * val l := rfl
theorem val_append (a b : List Int) : val (a ++ b) = val a + pw a.length * val b := by
  induction a with
  | nil => simp [val_nil, pw_zero]
  | cons d a ih => rw [List.cons_append, val_cons, val_cons, ih, List.length_cons, pw_succ]; grind
theorem val_snoc (a : List Int) (d : Int) : val (a ++ [d]) = val a + pw a.length * d := by
  rw [val_append, val_cons, val_nil]; grind
theorem Dig.nil : Dig [] := fun d h => absurd h (by simp)
theorem Dig.cons {d : Int} {l : List Int} (h0 : 0 ≤ d) (h1 : d < 65536) (h : Dig l) : Dig (d :: l) := by
  intro x hx
  rcases List.mem_cons.1 hx with rfl | hx
  · exact ⟨h0, h1⟩
  · exact h x hx
theorem Dig.tail {d : Int} {l : List Int} (h : Dig (d :: l)) : Dig l := fun x hx => h x (List.mem_cons_of_mem _ hx)
theorem Dig.append {a b : List Int} (ha : Dig a) (hb : Dig b) : Dig (a ++ b) := by
  intro x hx
  rcases List.mem_append.1 hx with hx | hx
  · exact ha x hx
  · exact hb x hx
theorem Dig.snoc {a : List Int} {d : Int} (ha : Dig a) (h0 : 0 ≤ d) (h1 : d < 65536) : Dig (a ++ [d]) := ha.append (Dig.cons h0 h1 Dig.nil)
theorem Dig.take {l : List Int} (h : Dig l) (k : Nat) : Dig (l.take k) := fun x hx => h x (List.mem_of_mem_take hx)
theorem Dig.drop {l : List Int} (h : Dig l) (k : Nat) : Dig (l.drop k) := fun x hx => h x (List.mem_of_mem_drop hx)
theorem Dig.getD {l : List Int} (h : Dig l) (k : Nat) : 0 ≤ l.getD k 0 ∧ l.getD k 0 < 65536 := by
  rcases Nat.lt_or_ge k l.length with hk | hk
  · rw [List.getD, List.getElem?_eq_getElem hk]; exact h _ (List.getElem_mem _)
  · rw [List.getD, List.getElem?_eq_none hk]; simp
theorem Dig.zeros (n : Nat) : Dig (List.replicate n 0) := fun x hx => by rw [List.eq_of_mem_replicate hx]; omega
theorem Dig.set {l : List Int} (h : Dig l) (k : Nat) {d : Int} (h0 : 0 ≤ d) (h1 : d < 65536) : Dig (l.set k d) := by
  intro x hx
  rcases List.mem_or_eq_of_mem_set hx with hx | rfl
  · exact h x hx
  · exact ⟨h0, h1⟩
theorem val_nonneg {l : List Int} (h : Dig l) : 0 ≤ val l := by
  induction l with
  | nil => simp [val_nil]
  | cons d l ih => have := ih h.tail; have := h d (by simp); rw [val_cons]; omega
theorem val_lt {l : List Int} (h : Dig l) : val l < pw l.length := by
  induction l with
  | nil => simp [val_nil, pw_zero]
  | cons d l ih => have := ih h.tail; have := h d (by simp); rw [val_cons, List.length_cons, pw_succ]; omega
theorem val_zeros (n : Nat) : val (List.replicate n 0) = 0 := by
  induction n with
  | zero => rfl
  | succ n ih => rw [List.replicate_succ, val_cons, ih]; rfl
theorem val_take_succ (l : List Int) (k : Nat) : val (l.take (k + 1)) = val (l.take k) + pw k * l.getD k 0 := by
  rcases Nat.lt_or_ge k l.length with hk | hk
  · rw [List.take_succ_eq_append_getElem hk, val_snoc, List.length_take, Nat.min_eq_left (by omega), List.getD, List.getElem?_eq_getElem hk]
    rfl
  · rw [List.take_of_length_le (by omega), List.take_of_length_le (by omega), List.getD, List.getElem?_eq_none hk]
    simp
theorem val_drop (l : List Int) (k : Nat) : val (l.drop k) = l.getD k 0 + 65536 * val (l.drop (k + 1)) := by
  rcases Nat.lt_or_ge k l.length with hk | hk
  · rw [List.drop_eq_getElem_cons hk, val_cons, List.getD, List.getElem?_eq_getElem hk]
    rfl
  · rw [List.drop_of_length_le (by omega), List.drop_of_length_le (by omega), List.getD, List.getElem?_eq_none hk]
    rfl
theorem val_split (l : List Int) (k : Nat) (hk : k ≤ l.length) : val l = val (l.take k) + pw k * val (l.drop k) := by
  conv => lhs; rw [← List.take_append_drop k l]
  rw [val_append, List.length_take, Nat.min_eq_left hk]
theorem val_set (l : List Int) (k : Nat) (d : Int) (hk : k < l.length) : val (l.set k d) = val l + pw k * (d - l.getD k 0) := by
  induction l generalizing k with
  | nil => simp at hk
  | cons x l ih =>
    cases k with
    | zero => rw [List.set_cons_zero, val_cons, val_cons, pw_zero]; simp; omega
    | succ k =>
      rw [List.set_cons_succ, val_cons, val_cons, ih k (by simpa using hk), pw_succ, List.getD_cons_succ]
      grind
theorem Canon.nil : Canon [] := ⟨Dig.nil, fun h => absurd h (by simp)⟩
theorem Canon.ge {l : List Int} (h : Canon l) (h0 : 0 < l.length) : pw (l.length - 1) ≤ val l := by
  have hv := val_split l (l.length - 1) (by omega)
  rw [val_drop, show l.length - 1 + 1 = l.length by omega, List.drop_length, val_nil] at hv
  have h1 := h.2 h0
  have h2 := h.1.getD (l.length - 1)
  have h3 := val_nonneg (h.1.take (l.length - 1))
  obtain ⟨x, hx⟩ : ∃ x, l.getD (l.length - 1) 0 = x := ⟨_, rfl⟩
  obtain ⟨p, hp⟩ : ∃ p, pw (l.length - 1) = p := ⟨_, rfl⟩
  have hpp := pw_pos (l.length - 1)
  rw [hx] at hv h1 h2
  rw [hp] at hv hpp ⊢
  have : p * 1 ≤ p * x := Int.mul_le_mul_of_nonneg_left (by omega) (by omega)
  have e : p * (x + 65536 * 0) = p * x := by grind
  rw [e] at hv
  omega
theorem Canon.zero {l : List Int} (h : Canon l) : val l = 0 ↔ l.length = 0 := by
  constructor
  · intro hv
    rcases Nat.eq_zero_or_pos l.length with h0 | h0
    · exact h0
    · have := h.ge h0
      have := pw_pos (l.length - 1)
      omega
  · intro h0
    rw [List.eq_nil_of_length_eq_zero h0]
    rfl
theorem Canon.len_le {l : List Int} (h : Canon l) {m : Nat} (hm : val l < pw m) : l.length ≤ m := by
  rcases Nat.eq_zero_or_pos l.length with h0 | h0
  · omega
  · have := h.ge h0
    rcases Nat.lt_or_ge m l.length with h1 | h1
    · have := pw_le (show m ≤ l.length - 1 by omega)
      omega
    · exact h1
/-- Of lists of the same length: the highest digit that parts them decides. -/
theorem val_lt_of {a b : List Int} (ha : Dig a) (hb : Dig b) (hl : a.length = b.length) {k : Nat} (hk : k < a.length) (he : val (a.drop (k + 1)) = val (b.drop (k + 1))) (hd : a.getD k 0 < b.getD k 0) : val a < val b := by
  rw [val_split a k (by omega), val_split b k (by omega), val_drop a, val_drop b, he]
  have h1 := val_lt (ha.take k)
  have h2 := val_nonneg (hb.take k)
  rw [List.length_take, Nat.min_eq_left (by omega)] at h1
  obtain ⟨p, hp⟩ : ∃ p, pw k = p := ⟨_, rfl⟩
  have hpp := pw_pos k
  rw [hp] at h1 hpp ⊢
  generalize a.getD k 0 = x at hd ⊢
  generalize b.getD k 0 = y at hd ⊢
  generalize val (b.drop (k + 1)) = q
  have h3 : p * (x + 1 + 65536 * q) ≤ p * (y + 65536 * q) := Int.mul_le_mul_of_nonneg_left (by omega) (by omega)
  have e : p * (x + 1 + 65536 * q) = p * (x + 65536 * q) + p := by grind
  omega
theorem lt_of_len {a b : List Int} (ha : Canon a) (hb : Canon b) (hl : a.length < b.length) : val a < val b := by
  have h1 := val_lt ha.1
  have h2 := hb.ge (by omega)
  have := pw_le (show a.length ≤ b.length - 1 by omega)
  omega
/-- Zeros at the end say nothing. -/
theorem val_take_of_zeros {l : List Int} {k : Nat} (hk : k ≤ l.length) (h : val (l.drop k) = 0) : val (l.take k) = val l := by
  rw [val_split l k hk, h]; grind
theorem mul_step (k p q r x y c o : Int) (hq : q = 65536 * p) (h : o + c * p = r) (hx : k = x + c + y) : o + p * (k % 65536 - x) + k / 65536 * q = r + p * y := by
  have := Int.emod_add_mul_ediv k 65536
  grind
end Go.Proofs.YtmhbkilidpbenaaGreatDoor
