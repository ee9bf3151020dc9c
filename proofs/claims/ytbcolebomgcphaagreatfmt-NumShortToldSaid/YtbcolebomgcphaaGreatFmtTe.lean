/- The contract of more. Each lemma's conditions stand in its own statement. -/
import Derived.Test.YtbcolebomgcphaaGreatFmtDG
import Derived.Test.YtbcolebomgcphaaGreatFmtRl
import Derived.Lib.ConvBytes
import Derived.Lib.AtoiErrMem
namespace Go.Proofs.YtbcolebomgcphaaGreatFmt
open Go.RowKit Go.Sort

/-- The block N holds these bytes, and can be written. -/
def BytesAt (w : World) (N : Nat) (L : List Int) : Prop := N < w.heap.size ∧ (∀ j, j < L.length → w.cell? ⟨N, j, none⟩ = some (.int .u8 (L.getD j 0))) ∧ ∀ j, j < L.length → w.frozen? ⟨N, j, none⟩ = false
theorem BytesAt.set {w : World} {N : Nat} {L : List Int} (h : BytesAt w N L) (k : Nat) (hk : k < L.length) (x : Int) : BytesAt (w.setCell ⟨N, k, none⟩ (.int .u8 x)) N (L.set k x) := by
  obtain ⟨h1, h2, h3⟩ := h
  refine ⟨by simpa using h1, fun j hj => ?_, fun j hj => ?_⟩
  · rw [List.length_set] at hj
    by_cases e : k = j
    · subst e
      rw [World.cell?_setCell_same _ _ _ (h2 k hk)]
      simp [List.getD, hk]
    · rw [World.cell?_setCell_other _ _ _ _ (by intro g; injection g with _ g2; exact e g2), h2 j hj]
      simp [List.getD, e]
  · rw [List.length_set] at hj
    rw [World.frozen?_setCell]
    exact h3 j hj
theorem frozen_of_cells {w : World} {g off a b : Nat} {cs : Array Value} {t : TypeId} (h : w.heap[g]? = some (.cells cs t (a, b))) (ho : off < a) : w.frozen? ⟨g, off, none⟩ = false := by
  simp [World.frozen?, h]
  omega
theorem bytes_new (w : World) (l : List Int) (hl : ∀ z ∈ l, 0 ≤ z ∧ z < 256) : BytesAt (Lib.bytesWorld w 5 (strOfNums l)) w.heap.size l := by
  have hs : (strOfNums l).size = l.length := str_size l
  refine ⟨by rw [Lib.bytesWorld_size]; omega, fun j hj => ?_, fun j hj => ?_⟩
  · rw [Lib.bytesWorld_cell w 5 (strOfNums l) j (by omega)]
    have e : (strOfNums l).data.toList.getD j 0 = UInt8.ofNat (l.getD j 0).toNat := by
      simp [strOfNums, List.getD, List.getElem?_eq_getElem hj]
    rw [e]
    have := hl (l.getD j 0) (by rw [List.getD, List.getElem?_eq_getElem hj]; exact List.getElem_mem _)
    rw [UInt8.toNat_ofNat']
    congr 2
    omega
  · have h := Lib.bytesWorld_at_new w 5 (strOfNums l)
    have hge : l.length ≤ (Lib.bytesCells w 5 (strOfNums l)).size := by
      rw [← hs]
      unfold Lib.bytesCells
      rw [Array.size_append, Array.size_map]
      exact Nat.le_add_right _ _
    exact frozen_of_cells h (by omega)
/-- From what more finds to what it leaves: nines at the end turned to zeros. -/
theorem nine_set (A : List Int) (t j : Nat) (h : j < t) : (A ++ List.replicate (t - j) 57 ++ List.replicate j 48).set (A.length + t - 1 - j) 48 = A ++ List.replicate (t - (j + 1)) 57 ++ List.replicate (j + 1) 48 := by
  have e : List.replicate (t - j) (57 : Int) = List.replicate (t - (j + 1)) 57 ++ [57] := by
    rw [show t - j = (t - (j + 1)) + 1 by omega, List.replicate_succ']
  rw [e, ← List.append_assoc, List.append_assoc, List.set_append_right _ _ (by simp; omega)]
  have e2 : A.length + t - 1 - j - (A ++ List.replicate (t - (j + 1)) (57 : Int)).length = 0 := by simp; omega
  rw [e2]
  rfl
theorem nine_get (A : List Int) (t j : Nat) (h : j < t) : (A ++ List.replicate (t - j) 57 ++ List.replicate j 48).getD (A.length + t - 1 - j) 0 = 57 := by
  rw [List.append_assoc, getD_right _ _ _ (by omega), getD_left _ _ _ (by simp; omega)]
  rw [List.getD, List.getElem?_replicate, if_pos (by omega)]
  rfl
def MrIs (w : World) (l : List Int) (e : Ending) (w' : World) : Prop := e = .returned (.string (strOfNums l)) ∧ Below w.heap.size w w'
/-- What more makes of digits A and nines behind them. -/
def moreTo (A : List Int) (t : Nat) : List Int := if A = [] then 49 :: List.replicate t 48 else A.set (A.length - 1) (A.getD (A.length - 1) 0 + 1) ++ List.replicate t 48
theorem conv_back {w : World} {N n cp : Nat} {L : List Int} (h : BytesAt w N L) (hn : L.length = n) : (convert 43 9 (.slice (some ⟨N, 0, none⟩) n cp)).run Tryz.prog w = .ok (.string (strOfNums L)) w :=
  run_convert_bytes_arg w 43 5 Tryz.underlying43 Tryz.underlying5 N 0 n cp L hn (fun i hi => by rw [Nat.zero_add]; exact h.2.1 i (by omega)) 9 Tryz.underlying9
set_option maxRecDepth 100000 in
set_option maxHeartbeats 3200000 in
theorem more_walk (A : List Int) (a t : Nat) (w : World) (hA : IsDig A) (ha : A.length = a) (hA9 : 0 < a → A.getD (a - 1) 0 ≠ 57) (hn : a + t ≤ 40) :
    Calls Tryz.prog 8 #[.string (strOfNums (A ++ List.replicate t 57))] w (MrIs w (moreTo A t)) := by
  have hnew := bytes_new w (A ++ List.replicate t 57) (fun z hz => by
    rcases List.mem_append.1 hz with g | g
    · have := hA z g; omega
    · rw [List.eq_of_mem_replicate g]; omega)
  have hsz : (strOfNums (A ++ List.replicate t 57)).size = a + t := by rw [str_size, List.length_append, List.length_replicate, ha]
  obtain ⟨s, hs⟩ : ∃ s, strOfNums (A ++ List.replicate t 57) = s := ⟨_, rfl⟩
  rw [hs] at hnew hsz ⊢
  have hcv := Lib.run_convert_string_bytes (P := Tryz.prog) w 9 43 5 s Tryz.underlying9 Tryz.underlying43 Tryz.underlying5
  have hbw := Lib.bytesWorld_below w 5 s
  obtain ⟨cp, hcp⟩ : ∃ cp, grownCap w s.size 0 5 = cp := ⟨_, rfl⟩
  rw [hcp, hsz] at hcv
  obtain ⟨w0, hw0⟩ : ∃ w0, Lib.bytesWorld w 5 s = w0 := ⟨_, rfl⟩
  rw [hw0] at hnew hbw hcv
  have HA := Lib.hid hA
  have HA9 := Lib.hid hA9
  have HL := Lib.hid ha
  have HN := Lib.hid hnew
  have HB := Lib.hid hbw
  obtain ⟨N, hNe⟩ : ∃ N, w.heap.size = N := ⟨_, rfl⟩
  have HNe := Lib.hid hNe
  rw [hNe] at hcv
  clear hs hA hA9 ha hsz hnew hbw hcp hw0 hNe
  go_enter Tryz.func8, Tryz.ntmps8
  go_wp2
  clear hcv
  go_loopw [4] (fun i wr => ∃ j k : Nat, j ≤ t ∧ a + t = k + j ∧ i = .int .i64 ((k : Int) - 1) ∧ BytesAt wr N (A ++ List.replicate (t - j) 57 ++ List.replicate j 48) ∧ Below N w wr) (fun i _ => (intOf i + 1).toNat)
  case atStart => exact ⟨0, a + t, Nat.zero_le _, rfl, by go_num, by have := HN.out; rw [HNe.out] at this; simpa using this, by have := HB.out; rwa [HNe.out] at this⟩
  case round =>
    obtain ⟨j, k, hj, hk, rfl, hby, hbl⟩ := hrel
    by_cases hjt : j < t
    · obtain ⟨m, rfl⟩ : ∃ m, k = m + 1 := ⟨k - 1, by omega⟩
      rw [show (((m + 1 : Nat) : Int) - 1) = (m : Int) by omega]
      have hg := nine_get A t j hjt
      have hst := nine_set A t j hjt
      rw [HL.out, show a + t - 1 - j = m by omega] at hg hst
      have hlen : m < (A ++ List.replicate (t - j) (57 : Int) ++ List.replicate j 48).length := by
        rw [List.length_append, List.length_append, List.length_replicate, List.length_replicate, HL.out]; omega
      have c1 := hby.2.1 m hlen
      have f1 := hby.2.2 m hlen
      rw [hg] at c1
      have hn2 := hby.set m hlen 48
      rw [hst] at hn2
      have HN2 := Lib.hid hn2
      have HBL := Lib.hid hbl
      clear hg hst hlen hby hn2 hbl
      go_wp2
      go_roundw
      case rel => exact ⟨j + 1, m, by omega, by omega, rfl, HN2.out, HBL.out.setCell (p := ⟨N, m, none⟩) (Nat.le_refl _) _⟩
      case measure => simp [intOf]
    · obtain rfl : j = t := by omega
      obtain rfl : k = a := by omega
      rw [Nat.sub_self, List.replicate_zero, List.append_nil] at hby
      rcases Nat.eq_zero_or_pos k with h0 | h0
      · subst h0
        have hA0 : A = [] := List.length_eq_zero_iff.1 HL.out
        rw [hA0, List.nil_append] at hby
        have hcb := conv_back (n := 0 + j) (cp := cp) hby (by simp)
        have HM := Lib.hid (show MrIs w (moreTo A j) (.returned (.string (strOfNums (49 :: List.replicate j 48)))) wr from ⟨by unfold moreTo; rw [if_pos hA0], by rw [HNe.out]; exact hbl⟩)
        clear hA0 hby hbl
        rw [show (((0 : Nat) : Int) - 1) = -1 from rfl]
        rw [Nat.zero_add] at hcb
        have hz := str_size (List.replicate j (48 : Int))
        rw [List.length_replicate] at hz
        go_wp2
        go_ret
        have hm := HM.out
        rw [show (49 :: List.replicate j (48 : Int)) = [49] ++ List.replicate j 48 from rfl, ← str_app] at hm
        exact hm
      · obtain ⟨m, rfl⟩ : ∃ m, k = m + 1 := ⟨k - 1, by omega⟩
        rw [show (((m + 1 : Nat) : Int) - 1) = (m : Int) by omega]
        have hA0 : A ≠ [] := fun g => by have := HL.out; rw [g] at this; simp at this
        have hlen : m < (A ++ List.replicate j (48 : Int)).length := by
          rw [List.length_append, List.length_replicate, HL.out]; omega
        have c1 := hby.2.1 m hlen
        have f1 := hby.2.2 m hlen
        have hmA : m < A.length := by rw [HL.out]; omega
        rw [getD_left _ _ _ hmA] at c1
        have h9 := HA9.out h0
        rw [Nat.add_sub_cancel] at h9
        have hdg := HA.out.getD hmA
        have hset := fun x => hby.set m hlen x
        simp only [List.set_append_left _ _ hmA] at hset
        obtain ⟨x, hx⟩ : ∃ x, A.getD m 0 = x := ⟨_, rfl⟩
        rw [hx] at c1 h9 hdg
        obtain ⟨x0, x1⟩ := hdg
        have hx9 : (x == 57) = false := beq_false_of_ne h9
        have hs1 := hset (x + 1)
        have hcb := conv_back (n := m + 1 + j) (cp := cp) hs1 (by rw [List.length_append, List.length_set, List.length_replicate, HL.out])
        have HM := Lib.hid (show MrIs w (moreTo A j) (.returned (.string (strOfNums (A.set m (x + 1) ++ List.replicate j 48)))) (wr.setCell ⟨N, m, none⟩ (.int .u8 (x + 1))) from
          ⟨by unfold moreTo; rw [if_neg hA0, HL.out, Nat.add_sub_cancel, hx], by rw [HNe.out]; exact hbl.setCell (p := ⟨N, m, none⟩) (Nat.le_refl _) _⟩)
        clear hA0 hby hbl hset hs1 h9 hx hlen hmA h0
        go_wp2
        go_ret
        exact HM.out
/-- more: the digits of the next number. -/
theorem more_any (S : Nat) (w : World) (hn : (decZ S).length ≤ 40) : Calls Tryz.prog 8 #[.string (strOfNums (decZ S))] w (MrIs w (decZ (S + 1))) := by
  have hd := IsDig.dec S
  rcases more_law S with ⟨l, c, t, e1, e2, e3, e4⟩ | ⟨t, e1, e2⟩
  · rw [e1] at hn hd
    have hl : (l ++ [c]).length = l.length + 1 := by simp
    have h := more_walk (l ++ [c]) (l.length + 1) t w hd.left hl (fun _ => by rw [Nat.add_sub_cancel, getD_right _ _ _ (Nat.le_refl _), Nat.sub_self]; exact e2) (by rw [List.length_append, List.length_replicate, hl] at hn; exact hn)
    rw [← e1] at h
    have hm : moreTo (l ++ [c]) t = decZ (S + 1) := by
      rw [e4]
      unfold moreTo
      rw [if_neg (by simp), hl, Nat.add_sub_cancel, getD_right _ _ _ (Nat.le_refl _), Nat.sub_self, List.set_append_right _ _ (Nat.le_refl _), Nat.sub_self]
      rfl
    rw [hm] at h
    exact h
  · rw [e1] at hn
    have h := more_walk [] 0 t w (fun z hz => by simp at hz) rfl (fun g => absurd g (by decide)) (by rw [List.length_replicate] at hn; omega)
    rw [List.nil_append, ← e1] at h
    have hm : moreTo [] t = decZ (S + 1) := by rw [e2]; rfl
    rw [hm] at h
    exact h
end Go.Proofs.YtbcolebomgcphaaGreatFmt
