/- The statement NumShort: for every uint64 the Go function NumShort returns true and leaves its argument as it was. Conditions: the listed package variables hold what their initialisers lay; the card ties them to the program's text; the variables left open hold any value. -/
import Derived.Test.YtbcolebomgcphaaGreatFmtTp
import Derived.Test.YtbcolebomgcphaaGreatFmtTq
import Derived.Test.YtbcolebomgcphaaGreatFmtTs
import Derived.Test.YtbcolebomgcphaaGreatFmtTie
import Derived.Test.YtbcolebomgcphaaGreatFmtCards
import Derived.SevenTiedAt
namespace Go.Proofs.YtbcolebomgcphaaGreatFmt
open Go.ChangeShapes Go.WideShapes Go.ChangeAt Go.RowKit

theorem k_quiet (os : Os) : Stop.quiet Tryz.pinned.checked.prog os := by
  intro k hk
  rw [k_knobs] at hk
  cases hk
theorem k_wrap : Tryz.f3.isWrapper Tryz.pinned.checked.prog Rows.numShortRow.wrapper Rows.numShortRow.mainSum := by
  unfold Func.isWrapper
  rw [if_neg (of_decide_eq_false (by kernel_rfl))]
  exact ⟨rfl, rfl⟩
theorem k_inst : Tryz.f3.isInstance Tryz.pinned.checked.prog Rows.numShortRow.origin Rows.numShortRow.targs := of_decide_eq_true (by kernel_rfl)
theorem k_more : Rows.numShortRow.moreEntering Tryz.pinned.checked.prog Tryz.f3 :=
  OpenClaim.moreEntering_of (by kernel_rfl) (by kernel_rfl) (by kernel_rfl) (by kernel_rfl) (by kernel_rfl) (by kernel_rfl) (by kernel_rfl) (by kernel_rfl) (by kernel_rfl) (by kernel_rfl)
/-- THE TOLD AND TIED CARD of NumShort. -/
theorem numShort_holds : Rows.NumShortToldSaid :=
  Claim7.holds_of_told_tied_any_at .later 3 Tryz.f3 "fmt.Sprintf" [] [] _ _ _ _ _ k_wf rfl rfl rfl k_out k_maps rfl ⟨rfl, rfl, rfl, rfl, rfl, rfl, rfl⟩ rfl rfl k_tie k_named Tryz.func3 k_read
    k_inst k_wrap k_stops.symm rfl k_knobs.symm k_word
    k_in k_op k_rc k_vs (by kernel_rfl) (by kernel_rfl) (by kernel_rfl) (by kernel_rfl) (by kernel_rfl) rfl (by kernel_rfl) rfl rfl
    rfl rfl
    rfl k_main k_looks k_fun (by decide) row_goes numShort_row_tie
    k_more
    ⟨_, WideRow.started_initial, k_quiet _⟩
    (fun os started _ H enc _ => short_lifted os started H enc)
#print axioms numShort_holds
end Go.Proofs.YtbcolebomgcphaaGreatFmt
