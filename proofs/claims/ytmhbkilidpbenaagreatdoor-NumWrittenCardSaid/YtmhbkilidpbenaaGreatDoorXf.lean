/- The contracts of ftoa64 and FormatFloat at the shortest form with an exponent. Each lemma's conditions stand in its own statement. -/
import Derived.Test.YtmhbkilidpbenaaGreatDoorXe
namespace Go.Proofs.YtmhbkilidpbenaaGreatDoor
open Go.RowKit Go.Sort

theorem sub52 (r : Nat) (h : r < 4503599627370496) : bits .and .u64 (r : Int) 4503599627370495 = (r : Int) := by
  rw [m52 r (by omega), Nat.mod_eq_of_lt h]
theorem sub_quo (r : Nat) (h : r < 4503599627370496) : (r : Int) / 4503599627370496 = 0 := Int.ediv_eq_zero_of_lt (by omega) (by omega)
theorem sub_parts {r : Nat} (hr : r < 4503599627370496) : mant r = r ∧ expo r = -1074 := by
  unfold mant expo
  rw [if_pos hr, if_pos hr]
  exact ⟨rfl, rfl⟩
theorem sub_eq (bl : Nat) (h : bl ≤ 53) : -1022 - (64 - (bl : Int)) - 52 = -1074 - ((64 - bl : Nat) : Int) := by omega
set_option maxRecDepth 100000 in
set_option maxHeartbeats 6400000 in
theorem ftoa_sub (r base : Nat) (v : Value) (w0 w : World) (h0 : 0 < r) (hr : r < 4503599627370496) (hown : w.ownsRow base 5 1 v 0 []) (hbl : Below base w0 w) (hbase : base ≤ w.heap.size) (hT : PowTab w)
    (hU : Lib.TabIs Tryz.prog w "internal/strconv.uint64pow10" .u64 Lib.pow10Tab) :
    Calls Tryz.prog 66 #[v, .float .f64 r, .int .u8 101, .int .i64 (-1)] w (FtoaIs base w0 r) := by
  have hx := ext_bits 87 (.inr rfl) r w
  have hz := z63 r (by omega)
  have hm52 := sub52 r hr
  obtain ⟨hmant, hexpo⟩ := sub_parts hr
  have hqi : (r : Int) / 4503599627370496 = 0 := sub_quo r hr
  have hm11 : bits .and .i64 0 2047 = 0 := by decide
  have hor : True := trivial
  have hM0 : r < 9007199254740992 := by omega
  have hM1 : 0 < r := h0
  have HR0 := Lib.hid h0
  obtain ⟨l1, l2, l3⟩ := len_left hM1 hM0
  have HL2 := Lib.hid l2
  have HL3 := Lib.hid l3
  have HR := Lib.hid (show r < 9218868437227405312 by omega)
  have HM0 := Lib.hid hM0
  clear l2 l3 hM0 h0 hr
  have hMn : ((r : Int) == 0) = false := n_ne hM1
  obtain ⟨bl, hbln⟩ : ∃ b, Lib.bitLen r = b := ⟨_, rfl⟩
  have clen := Tryz.bits_Len64 r
  rw [Int.toNat_natCast, hbln] at clen
  rw [hbln] at l1 HL2 HL3
  have HMANT := Lib.hid hmant
  have HEXPO := Lib.hid hexpo
  have HM1 := Lib.hid hM1
  have HOWN := Lib.hid hown
  have HBL := Lib.hid hbl
  have HT := Lib.hid hT
  have HU := Lib.hid hU
  clear hM1 hbln hmant hexpo hown hbl hT hU
  have hsl := shl_eq r bl HL3.out
  obtain ⟨mm, hmm⟩ : ∃ mm, r * 2 ^ (64 - bl) = mm := ⟨_, rfl⟩
  rw [hmm] at hsl
  have gsl := fun _ : True => hsl
  have cs : ∀ W, PowTab W → Calls Tryz.prog 100 #[.int .u64 mm, .int .i64 (-1022 - (64 - (bl : Int)) - 52)] W (ShIs W r) := by
    intro W hW
    have h := short_any r (64 - bl) W HR0.out HR.out (by rw [HMANT.out]; exact HL2.out) (by rw [HMANT.out]; exact HL3.out) hW
    rw [HMANT.out, HEXPO.out, hmm] at h
    rw [show -1022 - (64 - (bl : Int)) - 52 = -1074 - ((64 - bl : Nat) : Int) from sub_eq bl l1]
    exact h
  have gz := fun _ : True => hz
  have gqi := fun _ : True => hqi
  have gm52 := fun _ : True => hm52
  have gor := fun _ : True => hor
  have gm11 := fun _ : True => hm11
  clear hz hqi hm52 hor hm11 hsl hmm
  go_enter Tryz.func66, Tryz.ntmps66
  go_wp2
  go_quiet (fail)
  generalize hw1 : World.drewN w _ = w1
  have hown1 : w1.ownsRow base 5 1 v 0 [] := by rw [← hw1]; exact HOWN.out
  have hbl1 : Below base w0 w1 := by rw [← hw1]; exact below_drewN HBL.out _
  have hbase1 : base ≤ w1.heap.size := by rw [← hw1]; exact hbase
  have hT1 : PowTab w1 := by rw [← hw1]; exact HT.out
  have hU1 : Lib.TabIs Tryz.prog w1 "internal/strconv.uint64pow10" .u64 Lib.pow10Tab := by rw [← hw1]; exact HU.out
  clear hw1 hbase hx
  go_wp2_with fail
  have hcell : ∀ j, j < 32 → (w1.alloc (.cells (Array.replicate 32 (.int .u8 0)) 108)).cell? ⟨w1.heap.size, j, none⟩ = some (.int .u8 0) ∧ (w1.alloc (.cells (Array.replicate 32 (.int .u8 0)) 108)).frozen? ⟨w1.heap.size, j, none⟩ = false := by
    intro j hj
    refine ⟨?_, World.frozen?_alloc_new _ _ _ _⟩
    rw [World.cell?_alloc_new, Array.getElem?_replicate, if_pos hj]
  have hsz : (w1.alloc (.cells (Array.replicate 32 (.int .u8 0)) 108)).heap.size = w1.heap.size + 1 := World.size_alloc _ _
  have hown2 := hown1.alloc (.cells (Array.replicate 32 (.int .u8 0)) 108)
  have hblg : Below w1.heap.size w1 (w1.alloc (.cells (Array.replicate 32 (.int .u8 0)) 108)) := (Below.refl _ _).alloc (Nat.le_refl _) _
  have hbl2 : Below base w0 (w1.alloc (.cells (Array.replicate 32 (.int .u8 0)) 108)) := hbl1.alloc hbase1 _
  have hT2 := pow_below hT1 hblg (Nat.le_refl _)
  have hU2 := tab_below hU1 hblg (Nat.le_refl _)
  have hvg : ∀ k, v.ownBlock = some k → k < w1.heap.size := fun k e => (hown1.lt k e).2
  obtain ⟨g, hg⟩ : ∃ g, w1.heap.size = g := ⟨_, rfl⟩
  generalize hwb : World.alloc w1 _ = wb
  change w1.alloc (.cells (Array.replicate 32 (.int .u8 0)) 108) = wb at hwb
  rw [hwb] at hcell hsz hown2 hbl2 hT2 hU2
  rw [hg] at hcell hsz hbase1 hvg
  have HCELL := Lib.hid hcell
  have HSZ := Lib.hid hsz
  have HOWN2 := Lib.hid hown2
  have HBL2 := Lib.hid hbl2
  have HT2 := Lib.hid hT2
  have HU2 := Lib.hid hU2
  have HVG := Lib.hid hvg
  have HB1 := Lib.hid hbase1
  clear hcell hsz hown2 hbl2 hT2 hU2 hvg hwb hown1 hbl1 hT1 hU1 hblg
  refine (clen wb (len_in HM0.out).1 (len_in HM0.out).2).mono ?_
  rintro e1 w2 ⟨rfl, rfl⟩
  go_wp2_with fail
  refine (cs _ HT2.out).mono ?_
  rintro e3 w3 ⟨d, k, rfl, hsh, hbl3⟩
  have HSH := Lib.hid hsh
  have hsz2 := HSZ.out
  rw [hsz2] at hbl3
  have HBL3 := Lib.hid hbl3
  clear hsh hbl3 hsz2 cs
  go_wp2_with fail
  have hw3 := HBL3.out
  have hU3 := tab_below HU2.out HBL3.out (Nat.le_of_eq HSZ.out)
  obtain ⟨cc, i, hdi, hcc⟩ := strip_exists d HSH.out.1
  have hcell3 : ∀ j, j < 32 → w3.cell? ⟨g, j, none⟩ = some (.int .u8 0) ∧ w3.frozen? ⟨g, j, none⟩ = false := by
    intro j hj
    obtain ⟨a1, a2⟩ := HCELL.out j hj
    exact ⟨(HBL3.out.cell (p := ⟨g, j, none⟩) (show g < g + 1 by omega)).trans a1, (HBL3.out.frozen (p := ⟨g, j, none⟩) (show g < g + 1 by omega)).trans a2⟩
  have cnd : ∀ n, Calls Tryz.prog 94 #[.int .u64 d] (w3.drewN n) fun e w' => e = .returned (.int .i64 (Lib.nDigits d)) ∧ w' = w3.drewN n := fun n => Tryz.internal_strconv_numDigits d HSH.out.1 (d_lt HSH.out.2.1) _ hU3
  have csd : ∀ n, Calls Tryz.prog 93 #[.slice (some ⟨g, 0, none⟩) 32 32, .int .u64 d, .int .i64 k, .int .i64 (Lib.nDigits d)] (w3.drewN n) (SetIs (w3.drewN n) g d cc k) := fun n => setdigits_any g d cc i k _ hdi hcc (d_lt2 HSH.out.2.1) (by have := HSH.out.2.2.1; omega) (by have := HSH.out.2.2.2.1; omega) hcell3
  have HCC := Lib.hid hcc
  have HDI := Lib.hid hdi
  clear hw3 hU3 hcell3 hcc hdi
  go_region_with (first | (go_at_call 94; refine (cnd 1).mono ?_; rintro e w' ⟨rfl, rfl⟩) | (go_at_call 93; refine (csd 1).mono ?_; rintro e w' ⟨rfl, hdig, hbl4⟩))
  have hlen := ftoa_len HSH.out HDI.out HCC.out
  obtain ⟨q1, q2, q3, q4⟩ := hlen
  have gw := fun _ : True => IntWalk.wrap64_in ((Lib.nDigits cc : Int) - 1) (by omega)
  have gmax := fun _ : True => (show max ((Lib.nDigits cc : Int) - 1) 0 = (Lib.nDigits cc : Int) - 1 by omega)
  have hAS := as_start HB1.out HOWN2.out HVG.out HSZ.out HBL2.out HBL3.out 1 hbl4 hdig
  have HAS := Lib.hid hAS
  clear hAS hdig hbl4 cnd csd
  go_wp2_with fail
  refine (fmte_at g base (Lib.nDigits d) (Lib.nDigits cc) k w0 _ v cc HAS.out rfl q2 q1 (by omega) (by omega)).mono ?_
  rintro e5 w5 ⟨v5, rfl, has⟩
  have HFIN := Lib.hid (ftoa_fin HSH.out HDI.out HCC.out has)
  clear has
  go_wp2
  go_ret
  exact HFIN.out
end Go.Proofs.YtmhbkilidpbenaaGreatDoor
