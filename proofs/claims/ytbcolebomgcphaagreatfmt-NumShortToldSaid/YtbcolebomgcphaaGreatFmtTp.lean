/- The closed facts of NumShort's card. No condition. -/
import Derived.Test.YtbcolebomgcphaaGreatFmtRows
import Derived.Test.YtbcolebomgcphaaGreatFmtCards
import Derived.SevenTiedAt
import Derived.ProofKit
namespace Go.Proofs.YtbcolebomgcphaaGreatFmt

theorem goes_of_none {P : Program} (h : P.funcs.any Func.goes = false) (f : FuncId) : P.goes f = false := by
  have key : ∀ g : Nat, (P.funcs[g]?).any Func.goes = false := fun g => by
    cases hg : P.funcs[g]? with
    | none => rfl
    | some fn =>
      have hm : fn ∈ P.funcs := Array.mem_of_getElem? hg
      cases hf : fn.goes with
      | false => simp [hf]
      | true =>
        exfalso
        have : P.funcs.any Func.goes = true := Array.any_eq_true'.2 ⟨fn, hm, hf⟩
        rw [h] at this
        cases this
  unfold Program.goes
  rw [h, Bool.and_false, Bool.or_false]
  exact List.any_eq_false.2 (fun g _ => by rw [key g]; decide)
theorem no_goes : Tryz.pinned.checked.prog.funcs.any Func.goes = false := by kernel_rfl
theorem row_goes : false = Rows.numShortRow.goesBy Tryz.pinned.checked.prog := by
  unfold OpenClaim.goesBy Program.goesAt Program.goesFrom
  have h : (Tryz.pinned.checked.prog.funcNamed Rows.numShortRow.func).any Tryz.pinned.checked.prog.goes = false := by
    cases hf : Tryz.pinned.checked.prog.funcNamed Rows.numShortRow.func with
    | none => rfl
    | some f => rw [Option.any_some]; exact goes_of_none no_goes f
  rw [h]
  rfl
theorem k_named : Tryz.pinned.checked.prog.funcNamed Rows.numShortRow.func = some 3 := by kernel_rfl
theorem k_wf : Rows.numShortRow.wfByText (OpenSpec.ofChange Rows.numShortSpec) = true := by kernel_rfl
theorem k_out : laidOutB Tryz.pinned.checked.prog = true := by kernel_rfl
theorem k_maps : mapsRowed Tryz.pinned.checked.prog = true := by kernel_rfl
theorem k_stops : Tryz.pinned.checked.prog.stops = ["fmt.Sprintf"] := by kernel_rfl
theorem k_knobs : Tryz.pinned.checked.prog.stopKnobs = [] := by kernel_rfl
theorem k_word : Tryz.pinned.checked.prog.envWorded = true := by kernel_rfl
end Go.Proofs.YtbcolebomgcphaaGreatFmt
