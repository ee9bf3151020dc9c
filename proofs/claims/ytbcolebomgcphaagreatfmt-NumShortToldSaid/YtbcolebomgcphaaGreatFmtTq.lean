/- More closed facts of NumShort's card. No condition. -/
import Derived.Test.YtbcolebomgcphaaGreatFmtRows
import Derived.Test.YtbcolebomgcphaaGreatFmtCards
import Derived.SevenTiedAt
import Derived.ProofKit
namespace Go.Proofs.YtbcolebomgcphaaGreatFmt

theorem k_tie : namedTie Tryz.pinned.checked.prog Rows.numShortRow.namedList (OpenSpec.ofChange Rows.numShortSpec).vars = true := by kernel_rfl
theorem k_read : (Tryz.f3.params.toList.all fun t => Tryz.pinned.checked.prog.readableRec t) = true := by kernel_rfl
theorem k_in : Rows.numShortRow.inPlace = Tryz.pinned.checked.prog.inPlace 3 := by kernel_rfl
theorem k_op : Rows.numShortRow.unfollowed = Tryz.pinned.checked.prog.unfollowed 3 := by kernel_rfl
theorem k_rc : Rows.numShortRow.recurses = Tryz.pinned.checked.prog.recurses 3 := by kernel_rfl
theorem k_vs : Rows.numShortRow.named = Tryz.pinned.checked.prog.varsNamed 3 := by kernel_rfl
theorem k_main : Tryz.pinned.checked.prog.mainIs = some (true, "52937366fe9784c597caac0364f9bf1873ab35b23710b5aa79cada9625dfad08".toList) := by kernel_rfl
theorem k_looks : true = Tryz.pinned.checked.prog.looks [] := by kernel_rfl
theorem k_fun : (Tryz.f3.params.toList.all fun t => !Tryz.pinned.checked.prog.wantsStandIn t) = true := by kernel_rfl
end Go.Proofs.YtbcolebomgcphaaGreatFmt
