/- From what the listed variables read as, to what the walk asks of the world. Conditions: the listed tables read as the row says; the world has the program's shape. -/
import Derived.Test.YtbcolebomgcphaaGreatFmtRows
import Derived.Test.YtbcolebomgcphaaGreatFmtTl
import Derived.Lib.LaidU8
import Derived.LaidMore
import Derived.Deep.Strs
namespace Go.Proofs.YtbcolebomgcphaaGreatFmt
open Go.RowKit Go.Lib Go.Deep

section
variable {H : Type} {enc : TypeId × Value → H} {P : Program} {w : World} {base : Nat} {sp : Nat → Bool}
theorem trod_iface_some {fuel : Nat} {t : TypeId} {ms : Array (String × TypeId)} {cs : List Value} {name : String} {d : DataW H} {p : List MemPlace} (ht : P.underlying t = some (.interface ms))
    (h : DataW.trod enc P w base sp false fuel t cs = some (.iface name d, p)) : ∃ u v, cs = [.iface u v] := by
  cases fuel with
  | zero => simp [DataW.trod] at h
  | succ n =>
    unfold DataW.trod at h
    rw [ht] at h
    split at h <;> simp_all
theorem trod_float_lit {fuel : Nat} {t : TypeId} {k : FloatKind} {cs : List Value} {x : Nat} {p : List MemPlace} (ht : P.underlying t = some (.float k))
    (h : DataW.trod enc P w base sp false fuel t cs = some (.lit (.float k x), p)) : cs = [.float k x] := by
  cases fuel with
  | zero => simp [DataW.trod] at h
  | succ n =>
    unfold DataW.trod at h
    rw [ht] at h
    split at h <;> simp_all
end
theorem q_pow : (Rows.laid_internal_strconv_uint64pow10 : DataW Unit) = tabData .u64 pow10Tab := by kernel_rfl
theorem tab_of_reads {w : World} (h : VarReads Tryz.prog w "internal/strconv.uint64pow10" (tabData .u64 pow10Tab)) : TabIs Tryz.prog w "internal/strconv.uint64pow10" .u64 pow10Tab := by
  obtain ⟨g, t, cs, fuel, p, hg, hty, hvar, hd⟩ := h
  obtain rfl := Option.some.inj ((show Tryz.prog.globalNamed "internal/strconv.uint64pow10" = some 9 by kernel_rfl).symm.trans hg)
  obtain rfl := Option.some.inj ((show (Tryz.prog.globals[9]?).map (·.type) = some 212 by kernel_rfl).symm.trans hty)
  unfold TabIs
  rw [hvar, ← cells_of_tab (P := Tryz.prog) (n := 20) (e := 22) (by kernel_rfl) (by kernel_rfl) (by kernel_rfl) (by kernel_rfl) hd]
theorem p696_len : Go.Pinned.pow10Rows.length = 696 := by kernel_rfl
theorem powTab_of_reads {w : World} (hz : 14 < w.heap.size) (h : VarReads Tryz.prog w "internal/strconv.pow10Tab" Go.Pinned.pow10Tab) : PowTab w := by
  refine ⟨hz, fun i hi lo hr => ?_⟩
  have hil : i < 696 := by
    rw [← p696_len]
    exact (List.getElem?_eq_some_iff.1 hr).1
  obtain ⟨g, t, cs, fuel, p, hg, hty, hvar, hd⟩ := h
  obtain rfl := Option.some.inj ((show Tryz.prog.globalNamed "internal/strconv.pow10Tab" = some 14 by kernel_rfl).symm.trans hg)
  obtain rfl := Option.some.inj ((show (Tryz.prog.globals[14]?).map (·.type) = some 260 by kernel_rfl).symm.trans hty)
  unfold Go.Pinned.pow10Tab at hd
  obtain ⟨fuel', d, q, hdi, he⟩ := array_elem (P := Tryz.prog) (n := 696) (e := 259) (by kernel_rfl) hd i hil
  rw [List.getElem?_map, hr, Option.map_some, Option.some.injEq] at hdi
  subst hdi
  have c164 : Tryz.prog.cellsOf 259 = 2 := by kernel_rfl
  have c22 : Tryz.prog.cellsOf 22 = 1 := by kernel_rfl
  have u22 : Tryz.prog.underlying 22 = some (.int .u64) := by kernel_rfl
  rw [c164] at he
  have hcs := ints_of_struct (P := Tryz.prog) (t := 259) (k := .u64) (zs := [(hi : Int), (lo : Int)])
    (fs := #[{ name := "hi", type := 22, offset := 0, embedded := false, tag := "", pkgPath := "internal/strconv", byteOffset := 0 }, { name := "lo", type := 22, offset := 1, embedded := false, tag := "", pkgPath := "internal/strconv", byteOffset := 8 }])
    (by kernel_rfl) (fun j f hj => by
      match j, hj with
      | 0, hj => simp at hj; subst hj; exact ⟨u22, rfl, c22⟩
      | 1, hj => simp at hj; subst hj; exact ⟨u22, rfl, c22⟩
      | j + 2, hj => simp at hj) (by rw [c164]; rfl) he
  have e0 := congrArg (·[0]?) hcs
  have e1 := congrArg (·[1]?) hcs
  simp only [List.getElem?_take, List.getElem?_drop] at e0 e1
  constructor
  · rw [World.var?_cell hg hvar (i * 2), ← Array.getElem?_toList]
    simpa using e0
  · rw [World.var?_cell hg hvar (i * 2 + 1), ← Array.getElem?_toList]
    simpa using e1
theorem optimize_of_reads {w : World} (h : VarReads Tryz.prog w "internal/strconv.optimize" (.lit (.bool true))) : w.cell? ⟨3, 0, none⟩ = some (.bool true) := by
  obtain ⟨g, t, cs, fuel, p, hg, hty, hvar, hd⟩ := h
  obtain rfl := Option.some.inj ((show Tryz.prog.globalNamed "internal/strconv.optimize" = some 3 by kernel_rfl).symm.trans hg)
  obtain rfl := Option.some.inj ((show (Tryz.prog.globals[3]?).map (·.type) = some 4 by kernel_rfl).symm.trans hty)
  obtain ⟨b, hb, hx⟩ := DataW.trod_bool (P := Tryz.prog) (by kernel_rfl) hd
  simp at hx
  obtain ⟨rfl, _⟩ := hx
  rw [World.var?_cell hg hvar 0, ← Array.getElem?_toList, hb]
  rfl
theorem err_of_reads {w : World} {name : String} {d : DataW Unit} (h : VarReads Tryz.prog w "strconv.ErrRange" (.iface name d)) : ∃ te pe, w.cell? ⟨6, 0, none⟩ = some (.iface te pe) := by
  obtain ⟨g, t, cs, fuel, p, hg, hty, hvar, hd⟩ := h
  obtain rfl := Option.some.inj ((show Tryz.prog.globalNamed "strconv.ErrRange" = some 6 by kernel_rfl).symm.trans hg)
  obtain rfl := Option.some.inj ((show (Tryz.prog.globals[6]?).map (·.type) = some 49 by kernel_rfl).symm.trans hty)
  obtain ⟨u, v, hb⟩ := trod_iface_some (P := Tryz.prog) (t := 49) Tryz.underlying49 hd
  refine ⟨u, v, ?_⟩
  rw [World.var?_cell hg hvar 0, ← Array.getElem?_toList, hb]
  rfl
theorem info_of_reads {w : World} (h : VarReads Tryz.prog w "internal/strconv.float64info" Rows.laid_internal_strconv_float64info) : w.cell? ⟨13, 0, none⟩ = some (.int .u64 52) := by
  obtain ⟨g, t, cs, fuel, p, hg, hty, hvar, hd⟩ := h
  obtain rfl := Option.some.inj ((show Tryz.prog.globalNamed "internal/strconv.float64info" = some 13 by kernel_rfl).symm.trans hg)
  obtain rfl := Option.some.inj ((show (Tryz.prog.globals[13]?).map (·.type) = some 245 by kernel_rfl).symm.trans hty)
  obtain ⟨y0, y1, y2, n, hx, hl, h0, _, _⟩ := trod_struct3 (P := Tryz.prog) (t := 245)
    (f0 := { name := "mantbits", type := 53, offset := 0, embedded := false, tag := "", pkgPath := "internal/strconv", byteOffset := 0 }) (f1 := { name := "expbits", type := 53, offset := 1, embedded := false, tag := "", pkgPath := "internal/strconv", byteOffset := 8 })
    (f2 := { name := "bias", type := 3, offset := 2, embedded := false, tag := "", pkgPath := "internal/strconv", byteOffset := 16 }) (by kernel_rfl) hd
  obtain ⟨z, hz, hy, _⟩ := DataW.trod_int (P := Tryz.prog) (k := .u64) (by kernel_rfl) h0
  have hy0 : y0.1 = .lit (.int .u64 52) := by
    have := congrArg Prod.fst hx
    simp [Rows.laid_internal_strconv_float64info] at this
    exact this.1.symm
  have hz52 : z = 52 := by
    rw [hy] at hy0
    simpa using hy0
  subst hz52
  have c53 : Tryz.prog.cellsOf 53 = 1 := by kernel_rfl
  rw [c53] at hz
  have e0 := congrArg (·[0]?) hz
  simp only [List.getElem?_take, List.getElem?_drop] at e0
  rw [World.var?_cell hg hvar 0, ← Array.getElem?_toList]
  simpa using e0
theorem fp_data : (Rows.laid_internal_strconv_float64pow10 : DataW Unit) = .slice (p10W.map fun x => .lit (.float .f64 x)) [] := by kernel_rfl
theorem fp_len : p10W.length = 23 := by kernel_rfl
theorem add_plain {a : Addr} {w : World} {v : Value} (h : w.cell? a = some v) : ∃ b off : Nat, a = ⟨b, off, none⟩ ∧ b < w.heap.size := by
  have hs : a.spot = none := by
    unfold World.cell? at h
    split at h
    · cases hs : a.spot with
      | none => rfl
      | some x => simp [hs] at h
    · cases h
  have hb : a.block < w.heap.size := World.block_lt_of_cell? w a h
  obtain ⟨b, off, sp⟩ := a
  simp at hs
  subst hs
  exact ⟨b, off, rfl, hb⟩
theorem fp_of_reads {w : World} (h : VarReads Tryz.prog w "internal/strconv.float64pow10" (.slice (p10W.map fun x => .lit (.float .f64 x)) [])) :
    ∃ b off c : Nat, b < w.heap.size ∧ w.cell? ⟨18, 0, none⟩ = some (.slice (some ⟨b, off, none⟩) 23 c) ∧ ∀ k x, p10W[k]? = some x → w.cell? ⟨b, off + k, none⟩ = some (.float .f64 x) := by
  obtain ⟨g, t, cs, fuel, p, hg, hty, hvar, hd⟩ := h
  obtain rfl := Option.some.inj ((show Tryz.prog.globalNamed "internal/strconv.float64pow10" = some 18 by kernel_rfl).symm.trans hg)
  obtain rfl := Option.some.inj ((show (Tryz.prog.globals[18]?).map (·.type) = some 285 by kernel_rfl).symm.trans hty)
  have u285 : Tryz.prog.underlying 285 = some (.slice 23) := by kernel_rfl
  have c23 : Tryz.prog.cellsOf 23 = 1 := by kernel_rfl
  have u23 : Tryz.prog.underlying 23 = some (.float .f64) := by kernel_rfl
  obtain ⟨a, cap, hcs, _, hel⟩ := open_row u285 c23 hd
  have hcell : ∀ k x, p10W[k]? = some x → w.cell? (a.add k) = some (.float .f64 x) := fun k x hk => by
    obtain ⟨v, n, q, h1, h2⟩ := hel k (.lit (.float .f64 x)) (by rw [List.getElem?_map, hk]; rfl)
    have := trod_float_lit u23 h2
    rw [h1]
    simpa using this
  obtain ⟨x0, hx0⟩ : ∃ x0, p10W[0]? = some x0 := ⟨_, List.getElem?_eq_getElem (by rw [fp_len]; decide)⟩
  have h0 := hcell 0 x0 hx0
  rw [show a.add 0 = a by simp [Addr.add]] at h0
  obtain ⟨b, off, rfl, hb⟩ := add_plain h0
  refine ⟨b, off, cap, hb, ?_, fun k x hk => ?_⟩
  · rw [World.var?_cell hg hvar 0, ← Array.getElem?_toList, hcs, List.length_map, fp_len]
    rfl
  · have := hcell k x hk
    rwa [show (⟨b, off, none⟩ : Addr).add k = ⟨b, off + k, none⟩ by unfold Addr.add; split <;> simp_all] at this
theorem data_first : Rows.laid_unicode_utf8_first = Lib.firstData := by kernel_rfl
theorem data_accept : (Rows.laid_unicode_utf8_acceptRanges : DataW Unit) = Lib.acceptData := by kernel_rfl
theorem env_of_laid {W : World} (h : laidMetH Tryz.prog Rows.numShortRow.laid W) (hm : MaxL W) (hz : 18 < W.heap.size) : Env W := by
  rw [MakeChecks.laidMetH_plain _ _ _ (by kernel_rfl)] at h
  have rd : ∀ n d, (n, d) ∈ Rows.numShortRow.laid → VarReads Tryz.prog W n d := fun n d hm => Lib.laidMet.reads h hm
  have m1 := rd "internal/strconv.uint64pow10" Rows.laid_internal_strconv_uint64pow10 (by simp [Rows.numShortRow])
  have m2 := rd "internal/strconv.pow10Tab" Rows.laid_internal_strconv_pow10Tab (by simp [Rows.numShortRow])
  have m3 := rd "internal/strconv.optimize" Rows.laid_internal_strconv_optimize (by simp [Rows.numShortRow])
  have m4 := rd "internal/strconv.float64info" Rows.laid_internal_strconv_float64info (by simp [Rows.numShortRow])
  have m5 := rd "internal/strconv.float64pow10" Rows.laid_internal_strconv_float64pow10 (by simp [Rows.numShortRow])
  have m6 := rd "strconv.ErrRange" Rows.laid_strconv_ErrRange (by simp [Rows.numShortRow])
  have m7 := rd "unicode/utf8.first" Rows.laid_unicode_utf8_first (by simp [Rows.numShortRow])
  have m8 := rd "unicode/utf8.acceptRanges" Rows.laid_unicode_utf8_acceptRanges (by simp [Rows.numShortRow])
  rw [q_pow] at m1
  rw [fp_data] at m5
  rw [data_first] at m7
  rw [data_accept] at m8
  have hp := powTab_of_reads (by omega) m2
  exact ⟨⟨hp, tab_of_reads m1, hm⟩, ⟨hp, ⟨hz, info_of_reads m4, fp_of_reads m5⟩, optimize_of_reads m3⟩, ⟨by omega, err_of_reads m6⟩, utf8Tabs_of_reads Tryz.lays260 ⟨by kernel_rfl, by kernel_rfl, by kernel_rfl, by kernel_rfl, by kernel_rfl, by kernel_rfl, by kernel_rfl⟩ m7 m8⟩
end Go.Proofs.YtbcolebomgcphaaGreatFmt
