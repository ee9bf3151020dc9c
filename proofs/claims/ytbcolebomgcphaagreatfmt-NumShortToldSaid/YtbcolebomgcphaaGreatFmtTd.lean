/- The contract of digitsOf. Each lemma's conditions stand in its own statement. -/
import Derived.Test.YtbcolebomgcphaaGreatFmtRl
import Derived.Test.YtbcolebomgcphaaGreatFmtTb
import Derived.Test.YtbcolebomgcphaaGreatFmtSg
namespace Go.Proofs.YtbcolebomgcphaaGreatFmt
open Go.RowKit Go.Sort

/-- What stands of digitsOf's numbers, whatever it has read. -/
def DgInv (s : DgSt) (n : Nat) : Prop := -(n : Int) ≤ s.point ∧ s.point ≤ n ∧ s.d.length ≤ n
theorem dg_step_inv {s : DgSt} {n : Nat} (h : DgInv s n) (c : Int) : DgInv (dgStep s c) (n + 1) := by
  obtain ⟨h1, h2, h3⟩ := h
  unfold dgStep DgInv
  split
  · exact ⟨by show -((n + 1 : Nat) : Int) ≤ s.point; omega, by show s.point ≤ ((n + 1 : Nat) : Int); omega, by show s.d.length ≤ n + 1; omega⟩
  split
  · exact ⟨by show -((n + 1 : Nat) : Int) ≤ s.point; omega, by show s.point ≤ ((n + 1 : Nat) : Int); omega, by show s.d.length ≤ n + 1; omega⟩
  split
  · exact ⟨by show -((n + 1 : Nat) : Int) ≤ s.point; omega, by show s.point ≤ ((n + 1 : Nat) : Int); omega, by show s.d.length ≤ n + 1; omega⟩
  split
  · split
    · exact ⟨by show -((n + 1 : Nat) : Int) ≤ s.point; omega, by show s.point ≤ ((n + 1 : Nat) : Int); omega, by show s.d.length ≤ n + 1; omega⟩
    · split
      · refine ⟨?_, ?_, by show s.d.length ≤ n + 1; omega⟩
        · show -((n + 1 : Nat) : Int) ≤ (if s.seen then s.point - 1 else s.point)
          split <;> omega
        · show (if s.seen then s.point - 1 else s.point) ≤ ((n + 1 : Nat) : Int)
          split <;> omega
      · refine ⟨?_, ?_, by show (s.d ++ [c]).length ≤ n + 1; simp; omega⟩
        · show -((n + 1 : Nat) : Int) ≤ (if s.seen then s.point else s.point + 1)
          split <;> omega
        · show (if s.seen then s.point else s.point + 1) ≤ ((n + 1 : Nat) : Int)
          split <;> omega
  · exact ⟨by omega, by omega, by omega⟩
theorem dg_inv (l : List Int) : ∀ k, k ≤ l.length → DgInv (dgFold dgStart (l.take k)) k := by
  intro k
  induction k with
  | zero => intro _; rw [List.take_zero]; exact ⟨by decide, by decide, by decide⟩
  | succ k ih =>
    intro hk
    rw [List.take_succ_eq_append_getElem (by omega), dgFold_snoc]
    exact dg_step_inv (ih (by omega)) _
theorem dg_step_e (s : DgSt) (c : Int) : s.e ≤ (dgStep s c).e := by
  unfold dgStep
  split
  · exact Nat.le_refl _
  split
  · exact Nat.le_refl _
  split
  · exact Nat.le_refl _
  split
  · split
    · show s.e ≤ s.e * 10 + (c - 48).toNat; omega
    · split <;> exact Nat.le_refl _
  · exact Nat.le_refl _
theorem dg_fold_e (l : List Int) : ∀ s : DgSt, s.e ≤ (dgFold s l).e := by
  induction l with
  | nil => intro s; exact Nat.le_refl _
  | cons c l ih => intro s; exact Nat.le_trans (dg_step_e s c) (ih (dgStep s c))
theorem dg_take_e (l : List Int) (k : Nat) : (dgFold dgStart (l.take k)).e ≤ (dgFold dgStart l).e := by
  have h := dg_fold_e (l.drop k) (dgFold dgStart (l.take k))
  rwa [← dgFold_app, List.take_append_drop] at h
theorem str_one (l : List Int) (k : Nat) (h : k < l.length) : (strOfNums l).extract k (k + 1) = strOfNums [l.getD k 0] := by
  have e : (l.getD k 0) = l[k] := by simp [List.getD, List.getElem?_eq_getElem h]
  rw [e]
  apply ByteArray.ext
  rw [ByteArray.data_extract]
  apply Array.ext'
  simp [strOfNums, List.extract, List.take_one, List.head?_drop, List.getElem?_eq_getElem h]
theorem dg_dig {s : DgSt} (h : IsDig s.d) (c : Int) : IsDig (dgStep s c).d := by
  unfold dgStep
  split
  · exact h
  split
  · exact h
  split
  · exact h
  split
  · split
    · exact h
    · split
      · exact h
      · exact h.app (fun z hz => by simp at hz; omega)
  · exact h
theorem empty_list {s : ByteArray} (h : s = ByteArray.empty) : s.toList = [] := by
  have := decide_eq_emptyBytes s
  rw [decide_eq_true h] at this
  exact List.isEmpty_iff.1 this.symm
theorem full_list {s : ByteArray} (h : 0 < s.size) : ¬ s.toList = [] := by
  intro g
  have := decide_eq_emptyBytes s
  rw [g] at this
  have h2 : s = ByteArray.empty := of_decide_eq_true this
  rw [h2] at h
  exact absurd h (by decide)
def strLen : Value → Nat
  | .string s => s.size
  | _ => 0
theorem rep_last (A : List Int) (j : Nat) : (A ++ List.replicate (j + 1) 48).getD (A.length + (j + 1) - 1) 0 = 48 := by
  rw [getD_right _ _ _ (by omega), show A.length + (j + 1) - 1 - A.length = j by omega]
  simp [List.getD]
theorem rep_take (A : List Int) (j : Nat) : (A ++ List.replicate (j + 1) 48).take (A.length + (j + 1) - 1) = A ++ List.replicate j 48 := by
  rw [List.replicate_succ', ← List.append_assoc]
  exact List.take_left' (by simp)
def DoIs (w : World) (l : List Int) (p : Int) (e : Ending) (w' : World) : Prop := e = .returned (.tuple #[.string (strOfNums l), .int .i64 p]) ∧ w' = w
set_option maxRecDepth 100000 in
set_option maxHeartbeats 3200000 in
theorem digits_of_walk (l : List Int) (w : World) (hl : ∀ z ∈ l, 0 ≤ z ∧ z < 256) (hlen : l.length ≤ 1000) (D : Nat) (p : Int) (h : DgIs (dgFold dgStart l) D p) (hD : D % 10 ≠ 0) :
    Calls Tryz.prog 7 #[.string (strOfNums l)] w (DoIs w (decZ D) p) := by
  obtain ⟨s, hs⟩ : ∃ s, strOfNums l = s := ⟨_, rfl⟩
  have hsz : s.size = l.length := by rw [← hs]; exact str_size l
  have hb : ∀ k (g : k < s.size), ((s[k]'g).toNat : Int) = l.getD k 0 := by subst hs; exact fun k g => str_byte l hl k g
  have h1 : ∀ k, k < l.length → s.extract k (k + 1) = strOfNums [l.getD k 0] := by subst hs; exact fun k g => str_one l k g
  rw [hs]
  have HB := Lib.hid hb
  have H1 := Lib.hid h1
  have HI := Lib.hid (dg_inv l)
  have HE := Lib.hid (dg_take_e l)
  have HG := Lib.hid h
  have HL := Lib.hid hl
  clear hs hb h1 hl h
  go_enter Tryz.func7, Tryz.ntmps7
  go_wp2
  go_loop [4, 5, 6, 7, 8, 9, 10] (fun d pt seen e minus ex i => ∃ k : Nat, k ≤ l.length ∧ i = .int .i64 k ∧ d = .string (strOfNums (dgFold dgStart (l.take k)).d) ∧ pt = .int .i64 (dgFold dgStart (l.take k)).point ∧ seen = .bool (dgFold dgStart (l.take k)).seen ∧
    e = .int .i64 (dgFold dgStart (l.take k)).e ∧ minus = .bool (dgFold dgStart (l.take k)).minus ∧ ex = .bool (dgFold dgStart (l.take k)).exp) (fun _ _ _ _ _ _ i => l.length - (intOf i).toNat)
  case atStart => exact ⟨0, Nat.zero_le _, rfl, rfl, rfl, rfl, rfl, rfl, rfl⟩
  case round =>
    obtain ⟨k, hk, rfl, rfl, rfl, rfl, rfl, rfl, rfl⟩ := hrel
    by_cases hlt : k < l.length
    · have hks : k < s.size := by omega
      have ez := HB.out k hks
      have e1 := H1.out k hlt
      obtain ⟨y, hy⟩ : ∃ y, s[k]'hks = y := ⟨_, rfl⟩
      rw [hy] at ez
      have hfs := dgFold_snoc dgStart (l.take k) (l.getD k 0)
      rw [← take_succ_getD l k hlt] at hfs
      have hin := HI.out k hk
      have hee := HE.out k
      have hmx : (dgFold dgStart l).e ≤ 10000 := by obtain ⟨_, _, _, h, _⟩ := HG.out; exact h
      obtain ⟨st, hste⟩ : ∃ st, dgFold dgStart (l.take k) = st := ⟨_, rfl⟩
      rw [hste] at hfs hin hee ⊢
      rw [← ez] at hfs e1
      obtain ⟨z, hzn⟩ : ∃ z, y.toNat = z := ⟨_, rfl⟩
      rw [hzn] at hfs e1
      have he : st.e ≤ 10000 := Nat.le_trans hee hmx
      obtain ⟨i1, i2, i3⟩ := hin
      obtain ⟨ds, hds⟩ : ∃ ds, strOfNums st.d = ds := ⟨_, rfl⟩
      have hdz : ds.size = st.d.length := by rw [← hds]; exact str_size _
      have HDS := Lib.hid hds
      rw [hds]
      have HDZ := Lib.hid hdz
      have bd : ds.size ≤ 1000 := by omega
      clear hste ez hee hmx hds hdz
      by_cases q1 : z = 101
      · subst q1
        have g : dgStep st ((101 : Nat) : Int) = ⟨st.d, st.point, st.seen, st.e, st.minus, true⟩ := by unfold dgStep; rw [if_pos (by decide)]
        rw [g] at hfs
        have HF := Lib.hid hfs
        clear g hfs e1
        go_wp2
        refine ⟨⟨k + 1, by omega, by go_num, ?_⟩, by simp [intOf]; omega⟩
        rw [HF.out]
        exact ⟨by rw [HDS.out], rfl, rfl, rfl, rfl, rfl⟩
      have n1 : ((z : Int) == 101) = false := beq_false_of_ne (by omega)
      by_cases q2 : z = 45
      · subst q2
        have g : dgStep st ((45 : Nat) : Int) = ⟨st.d, st.point, st.seen, st.e, st.exp, st.exp⟩ := by unfold dgStep; rw [if_neg (by decide), if_pos (by decide)]
        rw [g] at hfs
        have HF := Lib.hid hfs
        clear g hfs e1
        go_wp2
        refine ⟨⟨k + 1, by omega, by go_num, ?_⟩, by simp [intOf]; omega⟩
        rw [HF.out]
        exact ⟨by rw [HDS.out], rfl, rfl, rfl, rfl, rfl⟩
      have n2 : ((z : Int) == 45) = false := beq_false_of_ne (by omega)
      by_cases q3 : z = 46
      · subst q3
        have g : dgStep st ((46 : Nat) : Int) = ⟨st.d, st.point, true, st.e, st.minus, st.exp⟩ := by unfold dgStep; rw [if_neg (by decide), if_neg (by decide), if_pos (by decide)]
        rw [g] at hfs
        have HF := Lib.hid hfs
        clear g hfs e1
        go_wp2
        refine ⟨⟨k + 1, by omega, by go_num, ?_⟩, by simp [intOf]; omega⟩
        rw [HF.out]
        exact ⟨by rw [HDS.out], rfl, rfl, rfl, rfl, rfl⟩
      have n3 : ((z : Int) == 46) = false := beq_false_of_ne (by omega)
      by_cases q4 : 48 ≤ z ∧ z ≤ 57
      · have v1 : decide ((48 : Int) ≤ (z : Int)) = true := decide_eq_true (by omega)
        have v2 : decide ((z : Int) ≤ 57) = true := decide_eq_true (by omega)
        by_cases q5 : st.exp = true
        · have g : dgStep st (z : Int) = ⟨st.d, st.point, st.seen, st.e * 10 + ((z : Int) - 48).toNat, st.minus, st.exp⟩ := by
            unfold dgStep
            rw [if_neg (by omega), if_neg (by omega), if_neg (by omega), if_pos (by omega), if_pos q5]
          rw [g] at hfs
          have HF := Lib.hid hfs
          clear g hfs e1
          go_wp2
          refine ⟨⟨k + 1, by omega, by go_num, ?_⟩, by simp [intOf]; omega⟩
          rw [HF.out]
          exact ⟨by rw [HDS.out], rfl, rfl, congrArg (Value.int .i64) (show (st.e : Int) * 10 + z - 48 = ((st.e * 10 + ((z : Int) - 48).toNat : Nat) : Int) by omega), rfl, by rw [q5]⟩
        · have q5 : st.exp = false := by simpa using q5
          by_cases q6 : st.d = [] ∧ z = 48
          · have g : dgStep st (z : Int) = ⟨st.d, if st.seen then st.point - 1 else st.point, st.seen, st.e, st.minus, st.exp⟩ := by
              unfold dgStep
              rw [if_neg (by omega), if_neg (by omega), if_neg (by omega), if_pos (by omega), if_neg (by simp [q5]), if_pos ⟨q6.1, by omega⟩]
            rw [g] at hfs
            obtain ⟨q7, q8⟩ := q6
            have d0 : ds.toList = [] := empty_list (by rw [← HDS.out, q7]; rfl)
            subst q8
            obtain ⟨sn, hsn⟩ : ∃ sn, st.seen = sn := ⟨_, rfl⟩
            rw [hsn] at hfs ⊢
            have HF := Lib.hid hfs
            clear g hfs e1 hsn
            cases sn
            · go_wp2
              refine ⟨⟨k + 1, by omega, by go_num, ?_⟩, by simp [intOf]; omega⟩
              rw [HF.out]
              exact ⟨by rw [HDS.out], rfl, rfl, rfl, rfl, by rw [q5]⟩
            · go_wp2
              refine ⟨⟨k + 1, by omega, by go_num, ?_⟩, by simp [intOf]; omega⟩
              rw [HF.out]
              exact ⟨by rw [HDS.out], rfl, rfl, rfl, rfl, by rw [q5]⟩
          · have g : dgStep st (z : Int) = ⟨st.d ++ [(z : Int)], if st.seen then st.point else st.point + 1, st.seen, st.e, st.minus, st.exp⟩ := by
              unfold dgStep
              rw [if_neg (by omega), if_neg (by omega), if_neg (by omega), if_pos (by omega), if_neg (by simp [q5]), if_neg (by intro h; exact q6 ⟨h.1, by have := h.2; omega⟩)]
            rw [g] at hfs
            obtain ⟨sn, hsn⟩ : ∃ sn, st.seen = sn := ⟨_, rfl⟩
            rw [hsn] at hfs ⊢
            have HF := Lib.hid hfs
            have hx : ds ++ strOfNums [(z : Int)] = strOfNums (st.d ++ [(z : Int)]) := by rw [← HDS.out]; exact str_app _ _
            have HX := Lib.hid hx
            have E1 := Lib.hid e1
            have hsl : (s.extract k (k + 1)).size = 1 := by rw [e1]; exact str_size _
            clear g hfs e1 hsn hx
            by_cases q9 : ds.size = 0
            · have q10 : z ≠ 48 := fun h => q6 ⟨List.length_eq_zero_iff.1 (by have := HDZ.out; omega), h⟩
              have d1 : ((z : Int) == 48) = false := beq_false_of_ne (by omega)
              have d0 : ds.toList = [] := empty_list (ByteArray.size_eq_zero_iff.1 q9)
              clear q9
              cases sn
              · go_wp2
                refine ⟨⟨k + 1, by omega, by go_num, ?_⟩, by simp [intOf]; omega⟩
                rw [HF.out]
                exact ⟨by rw [E1.out, HX.out], rfl, rfl, rfl, rfl, by rw [q5]⟩
              · go_wp2
                refine ⟨⟨k + 1, by omega, by go_num, ?_⟩, by simp [intOf]; omega⟩
                rw [HF.out]
                exact ⟨by rw [E1.out, HX.out], rfl, rfl, rfl, rfl, by rw [q5]⟩
            · have d0 : ¬ ds.toList = [] := full_list (by omega)
              clear q9
              cases sn
              · go_wp2
                refine ⟨⟨k + 1, by omega, by go_num, ?_⟩, by simp [intOf]; omega⟩
                rw [HF.out]
                exact ⟨by rw [E1.out, HX.out], rfl, rfl, rfl, rfl, by rw [q5]⟩
              · go_wp2
                refine ⟨⟨k + 1, by omega, by go_num, ?_⟩, by simp [intOf]; omega⟩
                rw [HF.out]
                exact ⟨by rw [E1.out, HX.out], rfl, rfl, rfl, rfl, by rw [q5]⟩
      · have g : dgStep st (z : Int) = st := by
          unfold dgStep
          rw [if_neg (by omega), if_neg (by omega), if_neg (by omega), if_neg (by omega)]
        rw [g] at hfs
        have HF := Lib.hid hfs
        clear g hfs e1
        rcases (show z < 48 ∨ 57 < z by omega) with q5 | q5
        · have v1 : decide ((48 : Int) ≤ (z : Int)) = false := decide_eq_false (by omega)
          go_wp2
          refine ⟨⟨k + 1, by omega, by go_num, ?_⟩, by simp [intOf]; omega⟩
          rw [HF.out]
          exact ⟨by rw [HDS.out], rfl, rfl, rfl, rfl, rfl⟩
        · have v1 : decide ((48 : Int) ≤ (z : Int)) = true := decide_eq_true (by omega)
          have v2 : decide ((z : Int) ≤ 57) = false := decide_eq_false (by omega)
          go_wp2
          refine ⟨⟨k + 1, by omega, by go_num, ?_⟩, by simp [intOf]; omega⟩
          rw [HF.out]
          exact ⟨by rw [HDS.out], rfl, rfl, rfl, rfl, rfl⟩
    · obtain rfl : k = l.length := by omega
      rw [List.take_length]
      obtain ⟨c, hd, hp, he, hdl⟩ := HG.out
      obtain ⟨st, hste⟩ : ∃ st, dgFold dgStart l = st := ⟨_, rfl⟩
      rw [hste] at hd hp he hdl ⊢
      rw [hd]
      have bp : -1000 ≤ st.point ∧ st.point ≤ 1000 := by
        have := HI.out l.length (Nat.le_refl _)
        rw [List.take_length, hste] at this
        obtain ⟨i1, i2, _⟩ := this
        omega
      obtain ⟨bp0, bp1⟩ := bp
      obtain ⟨L, hL⟩ : ∃ L, (decZ D).length = L := ⟨_, rfl⟩
      have hLp : 0 < L := by rw [← hL]; exact dec_pos D
      have hlast := dec_last D
      rw [hL] at hlast
      have hcl : L + c ≤ 40 := by
        rw [hd, List.length_append, List.length_replicate, hL] at hdl
        exact hdl
      have HP := Lib.hid hp
      have HLL := Lib.hid hL
      have HLa := Lib.hid hlast
      clear hste hd hp hdl hlt hlast hL
      go_wp2
      go_loop [4] (fun d => ∃ j : Nat, j ≤ c ∧ d = .string (strOfNums (decZ D ++ List.replicate j 48))) strLen
      case atStart => exact ⟨c, Nat.le_refl _, rfl⟩
      case round =>
        obtain ⟨j, hj, rfl⟩ := hrel
        obtain ⟨t, ht⟩ : ∃ t, strOfNums (decZ D ++ List.replicate j 48) = t := ⟨_, rfl⟩
        have hts : t.size = L + j := by rw [← ht, str_size, List.length_append, List.length_replicate, HLL.out]
        have htl : ∀ z ∈ decZ D ++ List.replicate j 48, 0 ≤ z ∧ z < 256 := fun z hz => by have := ((IsDig.dec D).app (.zeros j)) z hz; omega
        have hlt : t.size - 1 < t.size := by omega
        have hby : ((t[t.size - 1]'hlt).toNat : Int) = (decZ D ++ List.replicate j 48).getD (L + j - 1) 0 := by
          subst ht
          rw [str_byte _ htl]
          rw [hts]
        have h0 : 0 < t.size := by omega
        have h1 : t.size ≤ 1000 := by omega
        obtain ⟨y, hy⟩ : ∃ y, t[t.size - 1]'hlt = y := ⟨_, rfl⟩
        rw [hy] at hby
        rw [ht]
        by_cases hj0 : j = 0
        · subst hj0
          have hf : (y.toNat : Int) ≠ 48 := by
            rw [hby]
            simp only [List.replicate_zero, List.append_nil, Nat.add_zero]
            rw [HLa.out]
            omega
          obtain ⟨z, hz⟩ : ∃ z, y.toNat = z := ⟨_, rfl⟩
          rw [hz] at hf
          have hf2 : ((z : Int) == 48) = false := beq_false_of_ne hf
          have HTt := Lib.hid ht
          obtain ⟨mn, hmn⟩ : ∃ mn, st.minus = mn := ⟨_, rfl⟩
          have hpe := HP.out
          rw [hmn] at hpe ⊢
          clear hts htl hby ht hmn hf
          cases mn
          · have HPE := Lib.hid hpe
            clear hpe
            go_wp2
            go_ret2
            refine ⟨?_, rfl⟩
            show Ending.returned (Value.tuple #[.string t, .int .i64 (st.point + st.e)]) = _
            rw [show t = strOfNums (decZ D) by rw [← HTt.out]; simp, show st.point + (st.e : Int) = p by have := HPE.out; simpa using this]
          · have HPE := Lib.hid hpe
            clear hpe
            go_wp2
            go_ret2
            refine ⟨?_, rfl⟩
            show Ending.returned (Value.tuple #[.string t, .int .i64 (st.point + -(st.e : Int))]) = _
            rw [show t = strOfNums (decZ D) by rw [← HTt.out]; simp, show st.point + -(st.e : Int) = p by have := HPE.out; simpa using this]
        · obtain ⟨i, rfl⟩ : ∃ i, j = i + 1 := ⟨j - 1, by omega⟩
          have hA := rep_last (decZ D) i
          have hB := rep_take (decZ D) i
          rw [HLL.out] at hA hB
          have hf : y.toNat = 48 := by rw [hA] at hby; omega
          have hx : t.extract 0 (t.size - 1) = strOfNums (decZ D ++ List.replicate i 48) := by
            rw [← ht, str_take, str_size, List.length_append, List.length_replicate, HLL.out, hB]
          have HX := Lib.hid hx
          have HTS := Lib.hid hts
          clear hts htl hby ht hA hB hx
          go_wp2
          refine ⟨⟨i, by omega, by rw [HX.out]⟩, ?_⟩
          show (t.extract 0 (t.size - 1)).size < t.size
          rw [HX.out, str_size, HTS.out, List.length_append, List.length_replicate, HLL.out]
          omega
end Go.Proofs.YtbcolebomgcphaaGreatFmt
