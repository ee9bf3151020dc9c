/- The statement UnitsTurned: for every string the Go function UnitsTurned returns true and leaves its argument as it was. Conditions: unicode/utf8's two tables, unicode.Zs and unicode.CaseRanges hold what their initialisers lay; the card ties them to the program's text. -/
import Derived.Test.YtmhbkilidpbenaaDoorRows
import Derived.Test.YtmhbkilidpbenaaDoorCards
import Derived.Test.YtmhbkilidpbenaaDoorTie
import Derived.Test.YtmhbkilidpbenaaDoorM
import Derived.ProofKit
import Derived.LaidMore
import Derived.OpenShut
import Derived.Stop.Joined
import Derived.SevenTiedAt
import Derived.Lib.LaidU8
import Derived.Lib.LaidRTabT
import Derived.Lib.LaidCaseMet
namespace Go.Proofs.YtmhbkilidpbenaaDoor
open Go.ChangeShapes Go.WideShapes Go.ChangeAt Go.WideElems Go.RowKit Go.ChangeMaps

theorem t_own : ownKnob Tryd.prog.godebug = none := by kernel_rfl
theorem t_laidOut : laidOutB Tryd.prog = true := by kernel_rfl
theorem t_first : Rows.laid_unicode_utf8_first = Lib.firstData := by kernel_rfl
theorem t_accept : (Rows.laid_unicode_utf8_acceptRanges : DataW Unit) = Lib.acceptData := by kernel_rfl
theorem t_zs : (Rows.laid_unicode_Zs : DataW Unit) = Lib.rtabData zsT := by kernel_rfl
theorem t_case : Rows.laid_unicode_CaseRanges = Lib.caseData := by kernel_rfl

/-- The witness: the settled world with three blocks more, in which the four variables hold what their initialisers lay. -/
noncomputable def turnWorld (os : Os) : World :=
  let N := (World.settled Tryd.prog os).heap.size
  let w0 := World.holding Tryd.prog os ⟨#[.cells (Lib.rgCells .u16 zsT.r16) 65, .cells #[.slice (some ⟨N, 0, none⟩) 5 5, .slice none 0 0, .int .i64 1] 63, .cells Lib.caseCells5 78], #[], []⟩
  let put (h : Array Obj) (g : Nat) (cs : Array Value) : Array Obj := h.modify g fun
    | .cells _ t frozen => .cells cs t frozen
    | o => o
  let h1 := put w0.heap 0 #[.pointer (some ⟨N + 1, 0, none⟩)]
  let h2 := put h1 1 (Lib.firstTab.map fun z => Value.int .u8 z).toArray
  let h3 := put h2 2 ((List.range 16).flatMap fun i => [Value.int .u8 (Lib.accLo i), Value.int .u8 (Lib.accHi i)]).toArray
  let h4 := put h3 3 #[.slice (some ⟨N + 2, 0, none⟩) 336 336]
  { w0 with heap := h4 }

theorem laid_swap {P : Program} {w : World} {a b c d : String × DataW Unit} (h : laidMet P [a, b, c, d] w) : laidMet P [a, b, d, c] w := by
  obtain ⟨na, da⟩ := a
  obtain ⟨nb, db⟩ := b
  obtain ⟨nc, dc⟩ := c
  obtain ⟨nd, dd⟩ := d
  obtain ⟨ps, ⟨g1, t1, cs1, f1, p1, q1, a1, a2, a3, a4, ⟨g2, t2, cs2, f2, p2, q2, b1, b2, b3, b4, ⟨g3, t3, cs3, f3, p3, q3, c1, c2, c3, c4, ⟨g4, t4, cs4, f4, p4, q4, d1, d2, d3, d4, d5, rfl⟩, rfl⟩, rfl⟩, rfl⟩, hn, hr⟩ := h
  obtain rfl : q4 = [] := d5
  have hp : (MemPlace.row ⟨g1, 0, none⟩ cs1.size ++ p1 ++ (MemPlace.row ⟨g2, 0, none⟩ cs2.size ++ p2 ++ (MemPlace.row ⟨g4, 0, none⟩ cs4.size ++ p4 ++ (MemPlace.row ⟨g3, 0, none⟩ cs3.size ++ p3 ++ [])))).Perm
      (MemPlace.row ⟨g1, 0, none⟩ cs1.size ++ p1 ++ (MemPlace.row ⟨g2, 0, none⟩ cs2.size ++ p2 ++ (MemPlace.row ⟨g3, 0, none⟩ cs3.size ++ p3 ++ (MemPlace.row ⟨g4, 0, none⟩ cs4.size ++ p4 ++ [])))) := by
    refine List.Perm.append_left _ (List.Perm.append_left _ ?_)
    simp only [List.append_nil]
    exact List.perm_append_comm
  refine ⟨_, ⟨g1, t1, cs1, f1, p1, _, a1, a2, a3, a4, ⟨g2, t2, cs2, f2, p2, _, b1, b2, b3, b4, ⟨g4, t4, cs4, f4, p4, _, d1, d2, d3, d4, ⟨g3, t3, cs3, f3, p3, _, c1, c2, c3, c4, rfl, rfl⟩, rfl⟩, rfl⟩, rfl⟩, hp.nodup_iff.2 hn, fun b off hb => hr b off (hp.mem_iff.1 hb)⟩

theorem turn_met (os : Os) (args : Array Value) : laidMetH Tryd.prog Rows.unitsTurnedRow.laid ((turnWorld os).forCall (fun _ _ => 0) ⟨#[], args, []⟩).memory := by
  rw [MakeChecks.laidMetH_plain _ _ _ (by kernel_rfl)]
  refine laid_swap (P := Tryd.prog) (a := ("unicode/utf8.acceptRanges", Rows.laid_unicode_utf8_acceptRanges)) (b := ("unicode.Zs", Rows.laid_unicode_Zs)) (c := ("unicode/utf8.first", Rows.laid_unicode_utf8_first)) (d := ("unicode.CaseRanges", Rows.laid_unicode_CaseRanges)) ?_
  rw [t_case]
  exact laidMet_with_case (ρ := Tryd.lays204_ren) { Tryd.lays204 with } Tryd.lays204.t206 ⟨by kernel_rfl, by kernel_rfl, by kernel_rfl, by kernel_rfl, by kernel_rfl, by kernel_rfl⟩
    (l := [("unicode/utf8.acceptRanges", Rows.laid_unicode_utf8_acceptRanges), ("unicode.Zs", Rows.laid_unicode_Zs), ("unicode/utf8.first", Rows.laid_unicode_utf8_first)])
    10 (by kernel_rfl) (by kernel_rfl) (by kernel_rfl) ((World.settled Tryd.prog default).heap.size + 2) 78 (of_decide_eq_true (by kernel_rfl)) (by kernel_rfl) (by kernel_rfl) (by kernel_rfl)

theorem turn_of_laid {W : World} (h : laidMetH Tryd.prog Rows.unitsTurnedRow.laid W) : Lib.Utf8Tabs 1 2 W ∧ Lib.RVar 0 zsT W ∧ Lib.CaseVar 3 Lib.caseA W := by
  rw [MakeChecks.laidMetH_plain _ _ _ (by kernel_rfl)] at h
  have h1 := Lib.laidMet.reads h (.tail _ (.tail _ (.tail _ (.head _))))
  have h2 := Lib.laidMet.reads h (.head _)
  have h3 := Lib.laidMet.reads h (.tail _ (.head _))
  have h4 := Lib.laidMet.reads h (.tail _ (.tail _ (.head _)))
  rw [t_first] at h1
  rw [t_accept] at h2
  rw [t_zs] at h3
  rw [t_case] at h4
  exact ⟨utf8Tabs_of_reads Tryd.lays260 ⟨by kernel_rfl, by kernel_rfl, by kernel_rfl, by kernel_rfl, by kernel_rfl, by kernel_rfl, by kernel_rfl⟩ h1 h2,
    rvar_of_readsT (RTypes.ofGn14 Tryd.laysGn14) ⟨by kernel_rfl, by kernel_rfl, by kernel_rfl, by kernel_rfl, by kernel_rfl, by kernel_rfl, by kernel_rfl, by kernel_rfl⟩ (by kernel_rfl) (by kernel_rfl) h3,
    caseVar_of_reads (ρ := Tryd.lays204_ren) { Tryd.lays204 with } Tryd.lays204.t206 ⟨by kernel_rfl, by kernel_rfl, by kernel_rfl, by kernel_rfl, by kernel_rfl, by kernel_rfl⟩ h4⟩

set_option maxRecDepth 100000 in
theorem turned_lifted (os : Os) (started : os.Started) (H : Type) (enc : TypeId × Value → H) :
    ReturnsInHanded {} Tryd.checked os 4 .any (fun w args => (Rows.unitsTurnedSpec.pre enc Tryd.prog Tryd.f4 [] false w args ∧ laidMetH Tryd.prog Rows.unitsTurnedRow.laid w) ∧ sizedMet enc Tryd.prog Tryd.f4 (OpenSpec.ofChange Rows.unitsTurnedSpec) false w args)
      (Rows.unitsTurnedSpec.post enc Tryd.prog Tryd.f4 false true false false) := by
  refine returnsInHanded_of_change_and (C := Tryd.checked) (X := fun w _ => laidMetH Tryd.prog Rows.unitsTurnedRow.laid w) (fun _ _ _ hh h => h.of_heap hh) t_own started (by kernel_rfl) Tryd.func4
    (ChangeSpec.witness_shaped (enc := enc) (C := Tryd.checked) (os := os) (X := fun w _ => laidMetH Tryd.prog Rows.unitsTurnedRow.laid w) false (turnWorld os) #[.string ByteArray.empty] 8 rfl (World.shaped_of_RefB (by kernel_rfl) (by kernel_rfl)) (by kernel_rfl) (by kernel_rfl) (by kernel_rfl) (turn_met os _)) ?_
  intro W base args ds gs before hval0 hW _ _ hL _
  have hval : ∀ (j : Nat) t v, Tryd.f4.params[j]? = some t → args[j]? = some v → Value.okWide Tryd.prog W .any base t v := hval0
  have hW' := hW
  obtain ⟨p, q, hA0, hV, rfl, hfz, hnd⟩ := hW
  have hA : DataW.TrodAll enc Tryd.prog W 0 (fun _ => true) true Tryd.f4.params.toList args.toList ds p := hA0
  rw [Tryd.params4] at hA hval
  obtain ⟨v0, d0, rfl, rfl, h0⟩ := trodAll_one hA
  obtain ⟨rfl, rfl⟩ := trodVars_none hV
  have h0k := h0
  obtain ⟨s, rfl, rfl, rfl, hs⟩ := open_string Tryd.underlying9 (hval 0 9 v0 rfl rfl) h0
  obtain ⟨hT, hZ, hC⟩ := turn_of_laid hL
  clear hA0 hval0 hA hval
  simp only [List.append_nil] at hW'
  refine (turned_any s W hT hC hZ (by unfold maxLen at hs; omega)).mono ?_
  rintro e W' ⟨rfl, bel⟩
  refine ⟨_, rfl, _, _, _, [], [], [], hW', ?_, ?_, ?_, bel.frame _, fun h => by cases h⟩
  · exact trodAll_mk1 (shut_bool Tryd.underlying4 _)
  · exact trodAll_mk1 (Below.trod t_laidOut (by kernel_rfl) (of_decide_eq_true (by kernel_rfl)) h0k bel (fun x hx => by cases hx))
  · rfl

theorem turned_row : Rows.UnitsTurnedSaid :=
  OpenClaim.holds_of_wide 4 Tryd.f4 rfl rfl rfl rfl rfl rfl rfl ⟨rfl, rfl, rfl, rfl, rfl⟩ rfl rfl rfl rfl rfl (by kernel_rfl) Tryd.func4 (by kernel_rfl)
    (of_decide_eq_true (by kernel_rfl)) (by unfold Func.isWrapper; rw [if_neg (of_decide_eq_false (by kernel_rfl))]; exact ⟨rfl, rfl⟩)
    (fun os started H enc _ => turned_lifted os started H enc)

/-- THE TIED CARD of UnitsTurned. -/
theorem unitsTurned_holds : Rows.UnitsTurnedCardSaid :=
  Claim7.holds_tied_plain_at .later [] [.data, .listed, .pinned, .pinned] true (true, "800987871b493804a390d6c2c1af0c9c75a7e910f1655f90af78986cc334229c") false
    turned_row (fun _ h => by cases h) (by kernel_rfl) (fun _ h => by cases h) unitsTurned_row_tie rfl ⟨rfl, rfl⟩ (by kernel_rfl) rfl
    (fun f fn hf hfn => by
      obtain rfl : f = 4 := Option.some.inj ((show Tryd.prog.funcNamed "ecmacore/ecmacorelaw1.UnitsTurned" = some 4 by kernel_rfl).symm.trans hf) |>.symm
      obtain rfl : fn = Tryd.f4 := (Option.some.inj (Tryd.func4.symm.trans hfn)).symm
      exact ⟨by kernel_rfl, fun j t ht => by
        rw [Tryd.params4] at ht
        have hm : t ∈ [9] := by simpa using Array.mem_of_getElem? ht
        have hall : ([9].all fun u => !Tryd.prog.wantsStandIn u) = true := by kernel_rfl
        exact (show Tryd.prog.wantsStandIn t = false by simpa using List.all_eq_true.1 hall t hm)⟩)
    (by kernel_rfl)
#print axioms unitsTurned_holds
end Go.Proofs.YtmhbkilidpbenaaDoor
