/- The contract of FormatFloat at the shortest form with an exponent. Each lemma's conditions stand in its own statement. -/
import Derived.Test.YtmhbkilidpbenaaGreatDoorXf
namespace Go.Proofs.YtmhbkilidpbenaaGreatDoor
open Go.RowKit Go.Sort

theorem ftoa_any (r base : Nat) (v : Value) (w0 w : World) (h0 : 0 < r) (hr : r < 9218868437227405312) (hown : w.ownsRow base 5 1 v 0 []) (hbl : Below base w0 w) (hbase : base ≤ w.heap.size) (hT : PowTab w)
    (hU : Lib.TabIs Tryz.prog w "internal/strconv.uint64pow10" .u64 Lib.pow10Tab) :
    Calls Tryz.prog 66 #[v, .float .f64 r, .int .u8 101, .int .i64 (-1)] w (FtoaIs base w0 r) := by
  rcases Nat.lt_or_ge r 4503599627370496 with g | g
  · exact ftoa_sub r base v w0 w h0 g hown hbl hbase hT hU
  · exact ftoa_norm r base v w0 w g hr hown hbl hbase hT hU
theorem make24 (W : World) : (Instr.makeSlice 53 (.int .i64 0) (.int .i64 24)).run Tryz.prog W = .ok (.slice (some ⟨W.heap.size, 0, none⟩) 0 24) (W.alloc (.cells (cellsU .u8 (List.replicate 24 0)) 5)) := by kernel_rfl
/-- What FormatFloat answers. -/
def FfIs (w : World) (r : Nat) (e : Ending) (w' : World) : Prop :=
  ∃ (D : Nat) (j : Int), Shr r D j ∧ 0 < D ∧ D < 1000000000000000000 ∧ -400 ≤ j ∧ j ≤ 366 ∧ e = .returned (.string (strOfNums (fmtE (decZ D) (j + (decZ D).length - 1)))) ∧ Below w.heap.size w w'
set_option maxRecDepth 100000 in
set_option maxHeartbeats 1600000 in
theorem fmtfloat_in (r : Nat) (w : World) (h0 : 0 < r) (hr : r < 9218868437227405312) (hT : PowTab w) (hU : Lib.TabIs Tryz.prog w "internal/strconv.uint64pow10" .u64 Lib.pow10Tab) :
    Calls Tryz.prog 42 #[.float .f64 r, .int .u8 101, .int .i64 (-1), .int .i64 64] w (FfIs w r) := by
  have hmax := fun _ : True => (show max (3 : Int) 24 = 24 by decide)
  have hmk := make24 w
  have hbl : Below w.heap.size w (w.alloc (.cells (cellsU .u8 (List.replicate 24 0)) 5)) := (Below.refl _ _).alloc (Nat.le_refl _) _
  have hown : (w.alloc (.cells (cellsU .u8 (List.replicate 24 0)) 5)).ownsRow w.heap.size 5 1 (.slice (some ⟨w.heap.size, 0, none⟩) 0 24) 0 [] := World.ownsRow_made w _ 24 (Nat.le_refl _) (by unfold maxLen; omega) (by simp [cellsU])
  have cf := ftoa_any r w.heap.size (.slice (some ⟨w.heap.size, 0, none⟩) 0 24) w _ h0 hr hown hbl (by rw [World.size_alloc]; omega) (pow_below hT hbl (Nat.le_refl _)) (tab_below hU hbl (Nat.le_refl _))
  clear h0 hr hT hU hown hbl
  go_enter Tryz.func42, Tryz.ntmps42
  go_wp2_with fail
  refine cf.mono ?_
  rintro e w' ⟨D, j, v, h1, h2, h3, h4, h5, rfl, hown, hbl⟩
  have hcv := conv_own (P := Tryz.prog) 53 9 5 (by kernel_rfl) (by kernel_rfl) (by kernel_rfl) hown
  have HF := Lib.hid (show FfIs w r (.returned (.string (strOfNums (fmtE (decZ D) (j + (decZ D).length - 1))))) w' from ⟨D, j, h1, h2, h3, h4, h5, rfl, hbl⟩)
  clear h1 h2 h3 h4 h5 hown hbl cf hmk
  go_wp2
  go_ret
  exact HF.out
set_option maxRecDepth 100000 in
theorem fmtfloat_any (r : Nat) (w : World) (h0 : 0 < r) (hr : r < 9218868437227405312) (hT : PowTab w) (hU : Lib.TabIs Tryz.prog w "internal/strconv.uint64pow10" .u64 Lib.pow10Tab) :
    Calls Tryz.prog 21 #[.float .f64 r, .int .u8 101, .int .i64 (-1), .int .i64 64] w (FfIs w r) := by
  have cf := fmtfloat_in r w h0 hr hT hU
  clear h0 hr hT hU
  go_enter Tryz.func21, Tryz.ntmps21
  go_wp2_with fail
  refine cf.mono ?_
  rintro e w' ⟨D, j, h1, h2, h3, h4, h5, rfl, hbl⟩
  have HF := Lib.hid (show FfIs w r (.returned (.string (strOfNums (fmtE (decZ D) (j + (decZ D).length - 1))))) w' from ⟨D, j, h1, h2, h3, h4, h5, rfl, hbl⟩)
  clear h1 h2 h3 h4 h5 hbl cf
  go_wp2
  go_ret
  exact HF.out
end Go.Proofs.YtmhbkilidpbenaaGreatDoor
