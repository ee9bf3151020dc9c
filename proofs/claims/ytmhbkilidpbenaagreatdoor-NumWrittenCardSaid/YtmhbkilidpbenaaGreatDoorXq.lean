/- From what the listed variables read as, to what the walk asks of the world. Conditions: the tables uint64pow10 and pow10Tab read as the form's constants. -/
import Derived.Test.YtmhbkilidpbenaaGreatDoorRows
import Derived.Test.YtmhbkilidpbenaaGreatDoorXp
import Derived.Lib.LaidU8
import Derived.LaidMore
namespace Go.Proofs.YtmhbkilidpbenaaGreatDoor
open Go.RowKit Go.Lib

theorem q_pow : (Rows.laid_internal_strconv_uint64pow10 : DataW Unit) = tabData .u64 pow10Tab := by kernel_rfl
theorem tab_of_reads {w : World} (h : VarReads Tryz.prog w "internal/strconv.uint64pow10" (tabData .u64 pow10Tab)) : TabIs Tryz.prog w "internal/strconv.uint64pow10" .u64 pow10Tab := by
  obtain ⟨g, t, cs, fuel, p, hg, hty, hvar, hd⟩ := h
  obtain rfl := Option.some.inj ((show Tryz.prog.globalNamed "internal/strconv.uint64pow10" = some 7 by kernel_rfl).symm.trans hg)
  obtain rfl := Option.some.inj ((show (Tryz.prog.globals[7]?).map (·.type) = some 148 by kernel_rfl).symm.trans hty)
  unfold TabIs
  rw [hvar, ← cells_of_tab (P := Tryz.prog) (n := 20) (e := 22) (by kernel_rfl) (by kernel_rfl) (by kernel_rfl) (by kernel_rfl) hd]
theorem p10_len : Go.Pinned.pow10Rows.length = 696 := by kernel_rfl
theorem powTab_of_reads {w : World} (hz : 8 < w.heap.size) (h : VarReads Tryz.prog w "internal/strconv.pow10Tab" Go.Pinned.pow10Tab) : PowTab w := by
  refine ⟨hz, fun i hi lo hr => ?_⟩
  have hil : i < 696 := by
    rw [← p10_len]
    exact (List.getElem?_eq_some_iff.1 hr).1
  obtain ⟨g, t, cs, fuel, p, hg, hty, hvar, hd⟩ := h
  obtain rfl := Option.some.inj ((show Tryz.prog.globalNamed "internal/strconv.pow10Tab" = some 8 by kernel_rfl).symm.trans hg)
  obtain rfl := Option.some.inj ((show (Tryz.prog.globals[8]?).map (·.type) = some 165 by kernel_rfl).symm.trans hty)
  unfold Go.Pinned.pow10Tab at hd
  obtain ⟨fuel', d, q, hdi, he⟩ := array_elem (P := Tryz.prog) (n := 696) (e := 164) (by kernel_rfl) hd i hil
  rw [List.getElem?_map, hr, Option.map_some, Option.some.injEq] at hdi
  subst hdi
  have c164 : Tryz.prog.cellsOf 164 = 2 := by kernel_rfl
  have c22 : Tryz.prog.cellsOf 22 = 1 := by kernel_rfl
  have u22 : Tryz.prog.underlying 22 = some (.int .u64) := by kernel_rfl
  rw [c164] at he
  have hcs := ints_of_struct (P := Tryz.prog) (t := 164) (k := .u64) (zs := [(hi : Int), (lo : Int)])
    (fs := #[{ name := "hi", type := 22, offset := 0, embedded := false, tag := "", pkgPath := "internal/strconv", byteOffset := 0 }, { name := "lo", type := 22, offset := 1, embedded := false, tag := "", pkgPath := "internal/strconv", byteOffset := 8 }])
    (by kernel_rfl) (fun j f hj => by
      match j, hj with
      | 0, hj => simp at hj; subst hj; exact ⟨u22, rfl, c22⟩
      | 1, hj => simp at hj; subst hj; exact ⟨u22, rfl, c22⟩
      | j + 2, hj => simp at hj) (by rw [c164]; rfl) he
  have e0 := congrArg (·[0]?) hcs
  have e1 := congrArg (·[1]?) hcs
  simp only [List.getElem?_take, List.getElem?_drop] at e0 e1
  constructor
  · rw [World.var?_cell hg hvar (i * 2), ← Array.getElem?_toList]
    simpa using e0
  · rw [World.var?_cell hg hvar (i * 2 + 1), ← Array.getElem?_toList]
    simpa using e1
theorem start_of_laid {W : World} (h : laidMetH Tryz.prog Rows.numWrittenRow.laid W) (hm : MaxL W) (hz : 8 < W.heap.size) : Start W := by
  rw [MakeChecks.laidMetH_plain _ _ _ (by kernel_rfl)] at h
  have h1 := Lib.laidMet.reads h (.tail _ (.tail _ (.tail _ (.head _))))
  have h2 := Lib.laidMet.reads h (.tail _ (.tail _ (.tail _ (.tail _ (.tail _ (.tail _ (.tail _ (.tail _ (.head _)))))))))
  rw [q_pow] at h1
  exact ⟨powTab_of_reads hz h2, tab_of_reads h1, hm⟩
end Go.Proofs.YtmhbkilidpbenaaGreatDoor
