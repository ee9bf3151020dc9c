/- The plain law of the shape of a written number's digits, as its readers want it. Each lemma's conditions stand in its own statement. The plain law that joins writing and reading: what is written is read as the same word; a digit fewer never is. Each lemma's conditions stand in its own statement. The plain law of a shortest decimal number's bounds, and of the first bytes of a written number. Each lemma's conditions stand in its own statement. The plain law of the shortest decimal number of a whole number. Each lemma's conditions stand in its own statement. -/
import Derived.Test.YtbcolebomgcphaaGreatFmtRh
namespace Go.Proofs.YtbcolebomgcphaaGreatFmt
open Go.RowKit Go.Sort

/-- The k-th byte of a text of small numbers. -/
theorem str_byte (l : List Int) (hl : ∀ z ∈ l, 0 ≤ z ∧ z < 256) (k : Nat) (h : k < (strOfNums l).size) : (((strOfNums l)[k]'h).toNat : Int) = l.getD k 0 := by
  have hk : k < l.length := by rw [strOfNums_size] at h; exact h
  have e : (strOfNums l)[k]'h = UInt8.ofNat (l.getD k 0).toNat := by
    show (strOfNums l).data[k] = _
    simp [strOfNums, List.getD, List.getElem?_eq_getElem hk]
  rw [e]
  have := hl (l.getD k 0) (by rw [List.getD, List.getElem?_eq_getElem hk]; exact List.getElem_mem _)
  rw [UInt8.toNat_ofNat']
  omega
def IsMp (l : List Int) : Prop := ∀ z ∈ l, (48 ≤ z ∧ z ≤ 57) ∨ z = 46
theorem step_dot_dig (s : RdSt) (c : Int) (h : 48 ≤ c) : (rdStep s c).dot = s.dot := by
  unfold rdStep
  rw [if_neg (by omega)]
  split
  · rfl
  · split <;> rfl
theorem fold_dot_dig (s : RdSt) (l : List Int) (hl : IsDig l) : (rdFold s l).dot = s.dot := by
  revert hl
  refine snoc_ind (P := fun l => IsDig l → (rdFold s l).dot = s.dot) (fun _ => rfl) (fun l c ih hl => ?_) l
  rw [rdFold_snoc, step_dot_dig _ _ (hl c (by simp)).1]
  exact ih hl.left
theorem IsDig.getD {l : List Int} (h : IsDig l) {k : Nat} (hk : k < l.length) : 48 ≤ l.getD k 0 ∧ l.getD k 0 ≤ 57 :=
  h _ (by rw [List.getD, List.getElem?_eq_getElem hk]; exact List.getElem_mem _)
theorem MpShape.isMp {mp : List Int} (h : MpShape mp) : IsMp mp := by
  obtain ⟨A, B, hA, h0, hB, rfl | rfl⟩ := h
  · exact fun z hz => .inl (hA z hz)
  · intro z hz
    rcases List.mem_append.1 hz with hz | hz
    · rcases List.mem_append.1 hz with hz | hz
      · exact .inl (hA z hz)
      · exact .inr (List.mem_singleton.1 hz)
    · exact .inl (hB z hz)
theorem getD_left (a b : List Int) (k : Nat) (h : k < a.length) : (a ++ b).getD k 0 = a.getD k 0 := by
  rw [List.getD, List.getD, List.getElem?_append_left h]
theorem getD_right (a b : List Int) (k : Nat) (h : a.length ≤ k) : (a ++ b).getD k 0 = b.getD (k - a.length) 0 := by
  rw [List.getD, List.getD, List.getElem?_append_right h]
theorem MpShape.pos {mp : List Int} (h : MpShape mp) : 0 < mp.length := by
  obtain ⟨A, B, hA, h0, hB, rfl | rfl⟩ := h
  · exact h0
  · simp; omega
theorem MpShape.head {mp : List Int} (h : MpShape mp) : 48 ≤ mp.getD 0 0 ∧ mp.getD 0 0 ≤ 57 := by
  obtain ⟨A, B, hA, h0, hB, rfl | rfl⟩ := h
  · exact hA.getD h0
  · rw [List.append_assoc, getD_left _ _ _ h0]
    exact hA.getD h0
theorem MpShape.dot {mp : List Int} (h : MpShape mp) (k : Nat) (hk : k < mp.length) (he : mp.getD k 0 = 46) : (rdFold rdStart (mp.take k)).dot = false := by
  obtain ⟨A, B, hA, h0, hB, rfl | rfl⟩ := h
  · have := hA.getD hk
    omega
  · rcases Nat.lt_trichotomy k A.length with g | g | g
    · rw [List.append_assoc, getD_left _ _ _ g] at he
      have := hA.getD g
      omega
    · subst g
      rw [List.append_assoc, List.take_left, fold_dot_dig _ _ hA]
      rfl
    · rw [getD_right _ _ _ (by simp; omega)] at he
      have : (A ++ [46]).length = A.length + 1 := by simp
      rw [this] at he
      have := hB.getD (k := k - (A.length + 1)) (by simp at hk; omega)
      omega
end Go.Proofs.YtbcolebomgcphaaGreatFmt

namespace Go.Proofs.YtbcolebomgcphaaGreatFmt
open Go.RowKit Go.Sort

theorem read_is {r D a : Nat} {j : Int} (h : Shr r D j) (h0 : 0 < r) (h1 : r < 9218868437227405312) (ha : PsIs D j a) : a = r := (ha r h0 h1).2 (shr_tells h)
theorem read_not {r D S a : Nat} {j : Int} (h : Shr r D j) (h0 : 0 < r) (h1 : r < 9218868437227405312) (ha : PsIs S (j + 1) a) : a ≠ r := fun e => shr_fewer h (j + 1) (by omega) S ((ha r h0 h1).1 e)
/-- A shortest decimal number doesn't end with 0. -/
theorem shr_last {r D : Nat} {j : Int} (h : Shr r D j) : D % 10 ≠ 0 := by
  intro g
  have ht := shr_tells h
  obtain ⟨S, rfl⟩ : ∃ S, D = S * 10 ^ 1 := ⟨D / 10, by omega⟩
  exact shr_fewer h (j + 1) (by omega) S ((tells_zeros 1).1 ht)
/-- Digits without their last one. -/
theorem dec_short {D : Nat} (h : 10 ≤ D) : (decZ D).take ((decZ D).length - 1) = decZ (D / 10) ∧ (decZ D).length - 1 = (decZ (D / 10)).length := by
  rw [decZ_snoc D h, List.length_append, List.length_singleton, Nat.add_sub_cancel]
  exact ⟨List.take_left, rfl⟩
theorem dec_last (D : Nat) : (decZ D).getD ((decZ D).length - 1) 0 = ((D % 10 : Nat) : Int) + 48 := by
  rcases Nat.lt_or_ge D 10 with h | h
  · rw [decZ_one_digit D h, Nat.mod_eq_of_lt h]; rfl
  · rw [decZ_snoc D h, List.length_append, List.length_singleton, Nat.add_sub_cancel, getD_right _ _ _ (Nat.le_refl _), Nat.sub_self]; rfl
theorem dec_one {D : Nat} (h : (decZ D).length < 2) : D < 10 := by
  rcases Nat.lt_or_ge D 10 with g | g
  · exact g
  · rw [decZ_snoc D g, List.length_append, List.length_singleton] at h
    have := dec_pos (D / 10)
    omega
end Go.Proofs.YtbcolebomgcphaaGreatFmt

namespace Go.Proofs.YtbcolebomgcphaaGreatFmt
open Go.RowKit Go.Sort

set_option exponentiation.threshold 3000 in
theorem shr_bounds {r D : Nat} {j : Int} (h : Shr r D j) (h0 : 0 < r) (h1 : r < 9218868437227405312) : 0 < D ∧ D < 144115188075855872 ∧ -400 ≤ j ∧ j ≤ 310 := by
  obtain ⟨hj, hIn, hMore, _⟩ := h
  obtain ⟨hL, hH⟩ := hIn.le
  have hup := unt_pos h0
  have hT := T4_pos
  obtain ⟨n, hn⟩ : ∃ n, (j + 400).toNat = n := ⟨_, rfl⟩
  rw [hn] at hIn hMore hL hH
  have hU := U10_pos big_pos n
  have hD0 : 0 < D := by
    rcases Nat.eq_zero_or_pos D with g | g
    · exfalso
      subst g
      rw [Nat.zero_mul] at hL
      have := Nat.mul_pos (show 0 < unt (r - 1) + unt r by omega) hT
      omega
    · exact g
  refine ⟨hD0, ?_, hj, ?_⟩
  · rcases Nat.lt_or_ge D 144115188075855872 with g | g
    · exact g
    · exfalso
      have hm := mant_lt r
      have e1 := unt_eq r
      have e2 := unt_next r
      have e3 : 2 * unt (r - 1) + 2 ^ (expo r + 1074).toNat ≤ 2 * unt r := by
        by_cases hs : mant r = 4503599627370496 ∧ -1074 < expo r
        · have := unt_skew hs
          rw [this, e1]
          obtain ⟨hs1, _⟩ := hs
          rw [hs1]
          omega
        · have := unt_prev h0 hs
          have hmp : 0 < mant r := by
            rcases Nat.eq_zero_or_pos (mant r) with g0 | g0
            · rw [e1, g0, Nat.zero_mul] at hup; omega
            · exact g0
          rw [this, e1]
          obtain ⟨k, hk⟩ : ∃ k, mant r = k + 1 := ⟨mant r - 1, by omega⟩
          rw [hk, Nat.add_sub_cancel, Nat.add_mul]
          omega
      obtain ⟨q, hq⟩ : ∃ q, 2 ^ (expo r + 1074).toNat = q := ⟨_, rfl⟩
      rw [hq] at e1 e2 e3
      obtain ⟨U, hUe⟩ : ∃ U, U10 big n = U := ⟨_, rfl⟩
      have hU' := U10_succ big n
      rw [hUe] at hIn hL hH hU hU'
      have f1 : 144115188075855872 * U ≤ D * U := Nat.mul_le_mul_right _ g
      have f2 : unt r ≤ 9007199254740991 * q := by rw [e1]; exact Nat.mul_le_mul_right _ (by omega)
      have f3 : unt (r + 1) = unt r + q := by rw [e1, e2, Nat.add_mul, Nat.one_mul]
      have g1 : unt r * T4 ≤ 9007199254740991 * (q * T4) := by rw [← Nat.mul_assoc]; exact Nat.mul_le_mul_right _ f2
      have g2 : (unt r + unt (r + 1)) * T4 = 2 * (unt r * T4) + q * T4 := by rw [f3]; grind
      have g3 : 2 * ((unt (r - 1) + unt r) * T4) + q * T4 ≤ 4 * (unt r * T4) := by
        have := Nat.mul_le_mul_right T4 e3
        have e4 : (2 * unt (r - 1) + q) * T4 = 2 * (unt (r - 1) * T4) + q * T4 := by grind
        have e5 : 2 * unt r * T4 = 2 * (unt r * T4) := Nat.mul_assoc _ _ _
        have e6 : (unt (r - 1) + unt r) * T4 = unt (r - 1) * T4 + unt r * T4 := Nat.add_mul _ _ _
        rw [e4, e5] at this
        rw [e6]
        omega
      obtain ⟨L, hLe⟩ : ∃ L, (unt (r - 1) + unt r) * T4 = L := ⟨_, rfl⟩
      obtain ⟨H, hHe⟩ : ∃ H, (unt r + unt (r + 1)) * T4 = H := ⟨_, rfl⟩
      obtain ⟨P, hP⟩ : ∃ P, unt r * T4 = P := ⟨_, rfl⟩
      obtain ⟨Q, hQ⟩ : ∃ Q, q * T4 = Q := ⟨_, rfl⟩
      obtain ⟨DU, hDU⟩ : ∃ DU, D * U = DU := ⟨_, rfl⟩
      rw [hP, hQ] at g1 g2
      rw [hP, hQ] at g3
      rw [hLe] at g3 hL hMore
      rw [hHe] at g2 hH hMore
      rw [hDU] at f1 hL hH
      have key : L + 10 * U < H := by omega
      have hd := Nat.div_add_mod L (10 * U)
      have hlt := Nat.mod_lt L (show 0 < 10 * U by omega)
      obtain ⟨k, hk⟩ : ∃ k, L / (10 * U) = k := ⟨_, rfl⟩
      rw [hk] at hd
      have hz : (k + 1) * (10 * U) = 10 * U * k + 10 * U := by grind
      refine hMore (n + 1) (k + 1) (by omega) ?_
      rw [hU', hz]
      generalize 10 * U * k = Z at *
      exact ⟨fun _ => ⟨by omega, by omega⟩, fun _ => ⟨by omega, by omega⟩⟩
  · rcases Int.lt_or_le 310 j with g | g
    · exfalso
      obtain ⟨k, hk⟩ : ∃ k, n = 711 + k := ⟨n - 711, by omega⟩
      have a1 : U10 big 711 ≤ D * U10 big n := by
        rw [hk, U10_add]
        have : U10 big 711 ≤ 10 ^ k * U10 big 711 := Nat.le_mul_of_pos_left _ (Nat.pow_pos (by decide))
        exact Nat.le_trans this (Nat.le_mul_of_pos_left _ hD0)
      have b1 : unt r + unt (r + 1) ≤ unt 9218868437227405311 + unt 9218868437227405312 := Nat.add_le_add (unt_le (by omega)) (unt_le (by omega))
      have b2 : unt 9218868437227405311 + unt 9218868437227405312 < 10 ^ 311 * big := by
        have hk : Nat.blt (unt 9218868437227405311 + unt 9218868437227405312) (10 ^ 311 * big) = true := high_ok
        simpa using hk
      have b3 : (unt r + unt (r + 1)) * T4 < 10 ^ 311 * big * T4 := (Nat.mul_lt_mul_right hT).2 (Nat.lt_of_le_of_lt b1 b2)
      have b4 : U10 big 711 = 10 ^ 311 * big * T4 := by
        unfold U10 T4
        rw [show (711 : Nat) = 311 + 400 from rfl, Nat.pow_add]
        generalize big = x
        generalize (10 : Nat) ^ 311 = y
        generalize (10 : Nat) ^ 400 = z
        grind
      rw [b4] at a1
      exact absurd (Nat.lt_of_lt_of_le (Nat.lt_of_le_of_lt hH b3) a1) (Nat.lt_irrefl _)
    · exact g
/-- A written number doesn't begin with 0x. -/
def NoHex (l : List Int) : Prop := l.getD 0 0 ≠ 48 ∨ (1 < l.length ∧ l.getD 1 0 = 46)
theorem dec_head {D : Nat} (h : 0 < D) : (decZ D).getD 0 0 ≠ 48 := by
  have h1 := head_dec h []
  rw [List.append_nil] at h1
  cases hd : decZ D with
  | nil => have := dec_pos D; rw [hd] at this; simp at this
  | cons x t => exact h1 x (by rw [hd]; rfl)
theorem noHex_dec {D : Nat} (h : 0 < D) (l : List Int) : NoHex (decZ D ++ l) := .inl (by rw [getD_left _ _ _ (dec_pos D)]; exact dec_head h)
theorem noHex_take {D n : Nat} (h : 0 < D) (hn : 0 < n) (l : List Int) : NoHex ((decZ D).take n ++ l) := by
  refine .inl ?_
  have := dec_pos D
  rw [getD_left _ _ _ (by rw [List.length_take]; omega)]
  have e : ((decZ D).take n).getD 0 0 = (decZ D).getD 0 0 := by rw [List.getD, List.getD, List.getElem?_take_of_lt hn]
  rw [e]
  exact dec_head h
theorem text_noHex {D : Nat} (h : 0 < D) (j : Int) : NoHex (textZ D j) := by
  have hl := dec_pos D
  unfold textZ
  split
  · exact noHex_dec h _
  · split
    · rename_i h2
      rw [List.append_assoc]
      exact noHex_take h (by omega) _
    · split
      · rw [List.append_assoc]
        exact .inr ⟨by simp, rfl⟩
      · unfold dotZ
        split
        · rw [List.append_assoc]; exact noHex_dec h _
        · rw [List.append_assoc, List.append_assoc, List.append_assoc]; exact noHex_take h (by decide) _
end Go.Proofs.YtbcolebomgcphaaGreatFmt

namespace Go.Proofs.YtbcolebomgcphaaGreatFmt
open Go.RowKit Go.Sort

theorem InI.mid {c : Bool} {L H X : Nat} (h1 : L < X) (h2 : X < H) : InI c L H X := ⟨fun _ => by omega, fun _ => by omega⟩
theorem InI.conv {c : Bool} {L H z y x : Nat} (h : InI c L H x) (h' : InI c L H y) (h1 : x ≤ z) (h2 : z ≤ y) : InI c L H z := by
  obtain ⟨a, b⟩ := h
  obtain ⟨a', b'⟩ := h'
  constructor
  · intro e; have := a e; have := a' e; omega
  · intro e; have := b e; have := b' e; omega
theorem Sh.uniq {c : Bool} {L X H B D n D' n' : Nat} (hB : 0 < B) (h : Sh c L X H B D n) (h' : Sh c L X H B D' n') : D = D' ∧ n = n' := by
  have hn : n = n' := by
    rcases Nat.lt_trichotomy n n' with g | g | g
    · exact absurd h'.1 (h.2.1 _ _ g)
    · exact g
    · exact absurd h.1 (h'.2.1 _ _ g)
  subst hn
  refine ⟨?_, rfl⟩
  have key : ∀ A A' : Nat, Sh c L X H B A n → Sh c L X H B A' n → ¬ A < A' := by
    intro A A' g g' hlt
    have hU := U10_pos hB n
    have q1 := (g.2.2 A' g'.1).1 hlt
    have q2 := (g'.2.2 A g.1).2 hlt
    have i1 := g.1
    have i2 := g'.1
    have nr := g.2.2 (A + 1)
    obtain ⟨U, hUe⟩ : ∃ U, U10 B n = U := ⟨_, rfl⟩
    rw [hUe] at q1 q2 hU i1 i2 nr
    rw [Nat.add_mul] at q1 q2
    have e1 : A + 2 ≤ A' := by omega
    have e2 : (A + 2) * U ≤ A' * U := Nat.mul_le_mul_right U e1
    rw [Nat.add_mul] at e2
    have i3 : InI c L H ((A + 1) * U) := i1.conv i2 (by rw [Nat.add_mul]; omega) (by rw [Nat.add_mul]; omega)
    have q3 := (nr i3).1 (by omega)
    rw [Nat.add_mul, Nat.add_mul] at q3
    omega
  have := key D D' h h'
  have := key D' D h' h
  omega
set_option exponentiation.threshold 3000 in
theorem big_eq : big = 2 ^ 1074 * 2 := Nat.pow_succ 2 1074
def cOf (r : Nat) : Bool := decide (r % 2 = 0)
def lOf (r : Nat) : Nat := (unt (r - 1) + unt r) * T4
def xOf (r : Nat) : Nat := 2 * unt r * T4
def hOf (r : Nat) : Nat := (unt r + unt (r + 1)) * T4
/-- The interval's ends and middle, as multiples. -/
theorem ends (r : Nat) (h0 : 0 < r) :
    ∃ Q, 0 < Q ∧ ((∃ m, 0 < m ∧ m < 9007199254740992 ∧ lOf r = (2 * m - 1) * Q ∧ xOf r = 2 * m * Q ∧ hOf r = (2 * m + 1) * Q ∧ (m < 10 → Q = T4)) ∨
      (lOf r = 18014398509481983 * Q ∧ xOf r = 18014398509481984 * Q ∧ hOf r = 18014398509481986 * Q)) := by
  unfold lOf xOf hOf
  have hun := unt_next r
  have hu0 := unt_eq r
  have hE0 := expo_ge r
  by_cases hs : mant r = 4503599627370496 ∧ -1074 < expo r
  · have hup := unt_skew hs
    rw [hs.1] at hun hup hu0
    obtain ⟨E, hE⟩ : ∃ E, expo r = E := ⟨_, rfl⟩
    have hE2 := hs.2
    rw [hE] at hun hup hu0 hE2
    obtain ⟨z, hz⟩ : ∃ z, (E + 1073).toNat = z := ⟨_, rfl⟩
    have hz1 : (E + 1074).toNat = z + 1 := by clear hun hup hu0; omega
    rw [hz1, Nat.pow_succ] at hun hup hu0
    obtain ⟨y, hy⟩ : ∃ y, 2 ^ z = y := ⟨_, rfl⟩
    have hy0 : 0 < y := by rw [← hy]; exact Nat.two_pow_pos _
    rw [hy] at hun hup hu0
    obtain ⟨a, ha⟩ : ∃ a, unt r = a := ⟨_, rfl⟩
    obtain ⟨b, hb⟩ : ∃ b, unt (r - 1) = b := ⟨_, rfl⟩
    obtain ⟨d, hd⟩ : ∃ d, unt (r + 1) = d := ⟨_, rfl⟩
    rw [ha] at hu0 ⊢
    rw [hb] at hup ⊢
    rw [hd] at hun ⊢
    clear hz hz1 hE2 hE hE0 hs hy
    have ea : a = 9007199254740992 * y := by clear hup hun; omega
    have eb : b = 9007199254740991 * y := by clear hu0 hun; omega
    have ed : d = 9007199254740994 * y := by clear hu0 hup; omega
    refine ⟨y * T4, Nat.mul_pos hy0 T4_pos, .inr ⟨?_, ?_, ?_⟩⟩
    · rw [← Nat.mul_assoc, ea, eb, ← Nat.add_mul]
    · rw [← Nat.mul_assoc, ea, ← Nat.mul_assoc]
    · rw [← Nat.mul_assoc, ea, ed, ← Nat.add_mul]
  · have hup := unt_prev h0 hs
    have hm0 := mant_pos h0
    have hm1 := mant_lt r
    have hsm : mant r < 10 → expo r = -1074 := by
      unfold mant expo
      split <;> omega
    obtain ⟨m, hm⟩ : ∃ m, mant r = m := ⟨_, rfl⟩
    rw [hm] at hun hup hu0 hm0 hm1 hsm
    obtain ⟨y, hy⟩ : ∃ y, 2 ^ (expo r + 1074).toNat = y := ⟨_, rfl⟩
    have hy0 : 0 < y := by rw [← hy]; exact Nat.two_pow_pos _
    rw [hy] at hun hup hu0
    refine ⟨y * T4, Nat.mul_pos hy0 T4_pos, .inl ⟨m, hm0, hm1, ?_, ?_, ?_, ?_⟩⟩
    · rw [← Nat.mul_assoc, hup, hu0, ← Nat.add_mul, show m - 1 + m = 2 * m - 1 by omega]
    · rw [← Nat.mul_assoc, hu0, ← Nat.mul_assoc]
    · rw [← Nat.mul_assoc, hun, hu0, ← Nat.add_mul, show m + (m + 1) = 2 * m + 1 by omega]
    · intro h
      rw [hsm h] at hy
      rw [← hy, show ((-1074 : Int) + 1074).toNat = 0 from rfl, Nat.pow_zero, Nat.one_mul]
theorem ends_lt (r : Nat) (h0 : 0 < r) : 0 < lOf r ∧ lOf r < xOf r ∧ xOf r < hOf r ∧ hOf r ≤ 2 * xOf r := by
  obtain ⟨Q, hQ, ⟨m, m0, _, e1, e2, e3, _⟩ | ⟨e1, e2, e3⟩⟩ := ends r h0
  · rw [e1, e2, e3]
    have k1 : (2 * m - 1) * Q + Q = 2 * m * Q := by
      obtain ⟨k, rfl⟩ : ∃ k, m = k + 1 := ⟨m - 1, by omega⟩
      rw [show 2 * (k + 1) - 1 = 2 * k + 1 by omega, show 2 * (k + 1) = 2 * k + 1 + 1 by omega, Nat.add_mul (2 * k + 1) 1 Q]
      omega
    have k2 : (2 * m + 1) * Q = 2 * m * Q + Q := by rw [Nat.add_mul, Nat.one_mul]
    have k3 : 0 < (2 * m - 1) * Q := Nat.mul_pos (by omega) hQ
    omega
  · rw [e1, e2, e3]
    omega
set_option exponentiation.threshold 3000 in
theorem u400 : U10 big 400 = 2 * (2 ^ 1074 * T4) := by
  unfold U10 T4
  rw [big_eq]
set_option exponentiation.threshold 3000 in
/-- The shortest decimal number of a whole number is it itself, without its zeros at the end. -/
theorem whole_shr {r K c i : Nat} (h0 : 0 < r) (hr : r < 4845873199050653696) (hK : unt r = K * 2 ^ 1074) (hc : K = c * 10 ^ i) (hcc : c % 10 ≠ 0) : Shr r c i := by
  have hE : expo r ≤ 0 := by unfold expo; split <;> omega
  have hE0 := expo_ge r
  have hn := unt_next r
  have hu := unt_eq r
  have hU := u400
  have hpos := U10_pos big_pos 400
  obtain ⟨U, hUe⟩ : ∃ U, U10 big 400 = U := ⟨_, rfl⟩
  rw [hUe] at hU hpos
  have hX : xOf r = K * U := by
    unfold xOf
    rw [hK, hU]
    generalize 2 ^ 1074 = b
    grind
  have hH : 2 * hOf r ≤ 2 * xOf r + U := by
    have h2 : 2 ^ (expo r + 1074).toNat ≤ 2 ^ 1074 := Nat.pow_le_pow_right (by decide) (by omega)
    have h3 : 2 ^ (expo r + 1074).toNat * T4 ≤ 2 ^ 1074 * T4 := Nat.mul_le_mul_right _ h2
    unfold hOf xOf
    rw [hn, Nat.add_mul (mant r) 1, Nat.one_mul, ← hu, hU]
    have e : (unt r + (unt r + 2 ^ (expo r + 1074).toNat)) * T4 = 2 * unt r * T4 + 2 ^ (expo r + 1074).toNat * T4 := by grind
    rw [e]
    omega
  have hLr : xOf r + xOf r ≤ lOf r + hOf r := by
    obtain ⟨Q, hQ, ⟨m, m0, _, e1, e2, e3, _⟩ | ⟨e1, e2, e3⟩⟩ := ends r h0
    · have k1 : (2 * m - 1) * Q + Q = 2 * m * Q := by rw [← Nat.succ_mul]; congr 1; omega
      have k2 : (2 * m + 1) * Q = 2 * m * Q + Q := Nat.succ_mul _ _
      rw [e1, e2, e3]; omega
    · rw [e1, e2, e3]; omega
  obtain ⟨e1, e2, e3, e4⟩ := ends_lt r h0
  have only : ∀ y, InI (cOf r) (lOf r) (hOf r) (y * U) → y = K := by
    intro y hy
    have h1 := hy.le
    rcases Nat.lt_trichotomy y K with g | g | g
    · exfalso
      have := Nat.mul_le_mul_right U (show y + 1 ≤ K by omega)
      rw [Nat.add_mul] at this
      omega
    · exact g
    · exfalso
      have := Nat.mul_le_mul_right U (show K + 1 ≤ y by omega)
      rw [Nat.add_mul] at this
      omega
  have at_n : ∀ D n, 400 ≤ n → D * U10 big n = D * 10 ^ (n - 400) * U := by
    intro D n hn
    obtain ⟨k, rfl⟩ := Nat.exists_eq_add_of_le hn
    rw [U10_add, show 400 + k - 400 = k by omega, hUe, Nat.mul_assoc]
  have hp10 : 0 < 10 ^ i := Nat.pow_pos (by decide)
  refine ⟨by omega, ?_⟩
  rw [show ((i : Int) + 400).toNat = i + 400 by omega]
  show Sh (cOf r) (lOf r) (xOf r) (hOf r) big c (i + 400)
  refine ⟨?_, ?_, ?_⟩
  · rw [at_n c (i + 400) (by omega), show i + 400 - 400 = i by omega, ← hc, ← hX]
    exact InI.mid e2 e3
  · intro n' D' hn' hin
    rw [at_n D' n' (by omega)] at hin
    have h1 := only _ hin
    obtain ⟨k, hk⟩ : ∃ k, n' - 400 = i + 1 + k := ⟨n' - 400 - i - 1, by omega⟩
    rw [hk, hc, Nat.pow_add, Nat.pow_succ] at h1
    have h2 : D' * 10 ^ k * 10 * 10 ^ i = c * 10 ^ i := by rw [← h1]; grind
    have h3 := Nat.eq_of_mul_eq_mul_right hp10 h2
    omega
  · intro D' hin
    rw [at_n D' (i + 400) (by omega), show i + 400 - 400 = i by omega] at hin
    have h1 := only _ hin
    rw [hc] at h1
    have h3 := Nat.eq_of_mul_eq_mul_right hp10 h1
    subst h3
    exact ⟨fun g => by omega, fun g => by omega⟩
theorem decZ_zeros (c i : Nat) (h : 0 < c) : decZ (c * 10 ^ i) = decZ c ++ List.replicate i 48 := by
  induction i with
  | zero => simp
  | succ i ih =>
    have hp : 0 < c * 10 ^ i := Nat.mul_pos h (Nat.pow_pos (by decide))
    rw [List.replicate_succ', ← List.append_assoc, ← ih, Nat.pow_succ, ← Nat.mul_assoc]
    unfold decZ
    rw [if_neg (by omega), if_neg (by omega), leD_pos (by omega), List.reverse_cons, asc_append, Nat.mul_div_cancel _ (by decide), Nat.mul_mod_left]
    rfl
/-- The text of a whole number is its digits. -/
theorem whole_text {K c i : Nat} (hc : K = c * 10 ^ i) (hcc : c % 10 ≠ 0) (hK : K < 9007199254740992) : textZ c i = decZ K := by
  have h1 := ndig_zeros c i (by omega)
  rw [← hc] at h1
  have h2 := ndig_le (u := K) (k := 16) (by omega) (by omega)
  unfold textZ
  rw [decZ_length, if_pos ⟨by omega, by omega⟩, hc, decZ_zeros c i (by omega), Int.toNat_natCast]
/-- The text of a word that holds a whole number is its digits. -/
theorem shr_whole {r K D : Nat} {j : Int} (h : Shr r D j) (h0 : 0 < r) (hK0 : 0 < K) (hK : K < 9007199254740992) (hr : r < 4845873199050653696) (hu : unt r = K * 2 ^ 1074) : textZ D j = decZ K := by
  obtain ⟨c, i, e, hc⟩ := strip_exists K hK0
  have hs := whole_shr h0 hr hu e hc
  have hu := Sh.uniq big_pos h.2 hs.2
  obtain ⟨rfl, e2⟩ := hu
  have : j = (i : Int) := by have := h.1; have := hs.1; omega
  subst this
  exact whole_text e hc hK
end Go.Proofs.YtbcolebomgcphaaGreatFmt
