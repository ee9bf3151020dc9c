/-
  DERIVED. GIVEN WITH THE SEED: THE CARDS: each row of YtbcolebomgcphaaGreatFmtRows.lean that lists a variable, with what it lists TIED to the program's text (the seventh form; the later family's looks); each row that meets fmt, with fmt's text TOLD by the authors' own Lean function (tested against real Go, not proved from fmt's source: count such statements apart). THE CARD IS WHAT COUNTS. Prove the row's statement (the work); the ties are given (YtbcolebomgcphaaGreatFmtTie.lean); close each card by the builder's one call (the guide's Derived/Test/ToyasCard.lean, 'card_holds'). Laid BY PROGRAM, IN A SANDBOX (cutbox-door.mjs). By AI agents, Wed Nov 11 2026. No macro, syntax, notation, axiom, sorry.
-/
import Derived.Test.YtbcolebomgcphaaGreatFmtRows
import GoSem.ClaimSeven
namespace Go.Proofs.YtbcolebomgcphaaGreatFmt
namespace Rows

/-- THE TOLD AND TIED CARD OF 'ecmacorelaw1.NumShort'. -/
def numShortCard : Claim7 := { stood := { row := numShortRow, standIns := [], harness := (true, "52937366fe9784c597caac0364f9bf1873ab35b23710b5aa79cada9625dfad08"), looks := true }, told := true, laidByText := true, laidKinds := [.data, .data, .widerDeep, .widerDeep, .data, .data, .data, .data, .data, .data, .sentinel, .sentinel, .sentinel, .sentinel, .sentinel, .data, .data, .data, .data, .data, .pinned, .pinned, .pinned], laidTests := true, laidLooks := .later, goes := false }
def NumShortToldSaid : Prop := Claim7.holds Tryz.pinned (.plain (OpenSpec.ofChange numShortSpec)) numShortCard
/-- ITS FALSE NEIGHBOUR. Refute it at one input. -/
def NumShortToldWrongFalsely : Prop := Claim7.holds Tryz.pinned (.plain (OpenSpec.ofChange numShortWrong)) numShortCard
end Rows
end Go.Proofs.YtbcolebomgcphaaGreatFmt
