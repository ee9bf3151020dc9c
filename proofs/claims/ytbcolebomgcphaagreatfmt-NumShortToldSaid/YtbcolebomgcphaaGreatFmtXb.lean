/- Contracts of prescale and shortFloat. Each lemma's conditions stand in its own statement. -/
import Derived.Test.YtbcolebomgcphaaGreatFmtZg
namespace Go.Proofs.YtbcolebomgcphaaGreatFmt
open Go.RowKit

/-- The powers' table as it lies in memory. -/
def PowTab (w : World) : Prop := 14 < w.heap.size ∧ ∀ (i hi lo : Nat), Go.Pinned.pow10Rows[i]? = some (hi, lo) → w.cell? ⟨14, i * 2, none⟩ = some (.int .u64 hi) ∧ w.cell? ⟨14, i * 2 + 1, none⟩ = some (.int .u64 lo)
theorem PowTab.below {w w' : World} {B : Nat} (h : PowTab w) (hB : 14 < B) (hb : Below B w w') : PowTab w' := by
  refine ⟨Nat.lt_of_lt_of_le h.1 hb.size, fun i hi lo hr => ?_⟩
  obtain ⟨h1, h2⟩ := h.2 i hi lo hr
  exact ⟨(hb.cell (p := ⟨14, i * 2, none⟩) hB).trans h1, (hb.cell (p := ⟨14, i * 2 + 1, none⟩) hB).trans h2⟩

set_option maxRecDepth 100000 in
set_option maxHeartbeats 1600000 in
theorem prescale_any (g i hi lo : Nat) (e p lp : Int) (x y z : Value) (w : World) (hi' : i < 696) (hp : p = (i : Int) - 348) (he0 : -3000 ≤ e) (he1 : e ≤ 3000) (hl0 : -3000 ≤ lp) (hl1 : lp ≤ 3000)
    (hT : w.cell? ⟨14, i * 2, none⟩ = some (.int .u64 hi)) (hT2 : w.cell? ⟨14, i * 2 + 1, none⟩ = some (.int .u64 lo)) (hg : 14 < g)
    (k0 : w.cell? ⟨g, 0, none⟩ = some x) (k1 : w.cell? ⟨g, 1, none⟩ = some y) (k2 : w.cell? ⟨g, 2, none⟩ = some z)
    (f0 : w.frozen? ⟨g, 0, none⟩ = false) (f1 : w.frozen? ⟨g, 1, none⟩ = false) (f2 : w.frozen? ⟨g, 2, none⟩ = false) :
    Calls Tryz.prog 155 #[.pointer (some ⟨g, 0, none⟩), .int .i64 e, .int .i64 p, .int .i64 lp] w fun ee w' => ee = .returned (.tuple #[]) ∧
      w' = ((w.setCell ⟨g, 0, none⟩ (.int .u64 hi)).setCell ⟨g, 1, none⟩ (.int .u64 lo)).setCell ⟨g, 2, none⟩ (.int .i64 (-(e + lp + 3))) := by
  subst hp
  have hne : (8 : Nat) ≠ g := by omega
  go_enter Tryz.func155, Tryz.ntmps155
  go_wp2
  refine bodyPost_end (v := .tuple #[]) (by simp [results, Tryz.results155, go_sem]) rfl ⟨rfl, ?_⟩
  rfl
/-- The scaler's three cells. -/
def Pre (w : World) (g hi lo s : Nat) : Prop := w.cell? ⟨g, 0, none⟩ = some (.int .u64 hi) ∧ w.cell? ⟨g, 1, none⟩ = some (.int .u64 lo) ∧ w.cell? ⟨g, 2, none⟩ = some (.int .i64 s)
theorem prescale_new (i hi lo s : Nat) (e p lp : Int) (w : World) (hi' : i < 696) (hp : p = (i : Int) - 348) (he0 : -3000 ≤ e) (he1 : e ≤ 3000) (hl0 : -3000 ≤ lp) (hl1 : lp ≤ 3000) (hs : (s : Int) = -(e + lp + 3))
    (hT : w.cell? ⟨14, i * 2, none⟩ = some (.int .u64 hi)) (hT2 : w.cell? ⟨14, i * 2 + 1, none⟩ = some (.int .u64 lo)) (hg : 14 < w.heap.size) :
    Calls Tryz.prog 155 #[.pointer (some ⟨w.heap.size, 0, none⟩), .int .i64 e, .int .i64 p, .int .i64 lp] (w.alloc (.cells #[.int .u64 0, .int .u64 0, .int .i64 0] 204)) fun ee w' => ee = .returned (.tuple #[]) ∧
      Pre w' w.heap.size hi lo s ∧ Below w.heap.size w w' := by
  refine (prescale_any w.heap.size i hi lo e p lp (.int .u64 0) (.int .u64 0) (.int .i64 0) _ hi' hp he0 he1 hl0 hl1 ?_ ?_ hg ?_ ?_ ?_ ?_ ?_ ?_).mono ?_
  · exact (World.cell?_alloc_lt w _ ⟨14, i * 2, none⟩ hg).trans hT
  · exact (World.cell?_alloc_lt w _ ⟨14, i * 2 + 1, none⟩ hg).trans hT2
  · simp
  · simp
  · simp
  · simp
  · simp
  · simp
  rintro ee w' ⟨rfl, rfl⟩
  refine ⟨rfl, ⟨?_, ?_, ?_⟩, ?_⟩
  · simp [go_sem]
  · simp [go_sem]
  · simp [go_sem, hs]
  · exact ((((Below.refl _ _).alloc (Nat.le_refl _) _).setCell (by simp) _).setCell (by simp) _).setCell (by simp) _
theorem Pre.drewN {w : World} {g hi lo s : Nat} (h : Pre w g hi lo s) (q : Nat) : Pre (w.drewN q) g hi lo s := h
/-- The scaling, over the scaler's cells. -/
theorem uscale_pre (x hi lo s g B : Nat) (w0 w : World) (hx : x < 18446744073709551616) (hx2 : 2 ≤ x) (hh : hi < 18446744073709551616) (hh2 : 9223372036854775808 ≤ hi) (hl : lo < 18446744073709551616) (hs : s < 64)
    (hP : Pre w g hi lo s) (hb : Below B w0 w) (u : Nat) (hu : usc x hi lo s = u) :
    Calls Tryz.prog 157 #[.int .u64 x, .pointer (some ⟨g, 0, none⟩)] w fun e w' => e = .returned (.int .u64 u) ∧ Pre w' g hi lo s ∧ Below B w0 w' := by
  have h1 : 1 ≤ x * hi / 18446744073709551616 := by
    rw [Nat.le_div_iff_mul_le (by omega)]
    have : 2 * 9223372036854775808 ≤ x * hi := Nat.mul_le_mul hx2 hh2
    omega
  refine (uscale_any x hi lo s g w hx hh hl hs h1 hP.1 hP.2.1 hP.2.2).mono ?_
  rintro e w' ⟨rfl, q, rfl⟩
  rw [hu]
  exact ⟨rfl, hP.drewN q, below_drewN hb q⟩
theorem nudge_z (v d : Int) (w : World) (h0 : 1 ≤ v) (h : v < 1152921504606846976) (hd0 : -1 ≤ d) (hd1 : d ≤ 1) : Calls Tryz.prog 158 #[.int .u64 v, .int .i64 d] w fun e w' => e = .returned (.int .u64 (v + d)) ∧ w = w' := by
  obtain ⟨u, rfl⟩ : ∃ u : Nat, v = u := ⟨v.toNat, by omega⟩
  exact nudge_any u d w (by omega) (by omega) hd0 hd1
theorem ceil_z (v : Int) (w : World) (h0 : 0 ≤ v) (h : v < 1152921504606846978) : Calls Tryz.prog 159 #[.int .u64 v] w fun e w' => e = .returned (.int .u64 ((v + 3) / 4)) ∧ w = w' := by
  obtain ⟨u, rfl⟩ : ∃ u : Nat, v = u := ⟨v.toNat, by omega⟩
  refine (ceil_any u w (by omega)).mono ?_
  rintro e w' ⟨rfl, rfl⟩
  exact ⟨ret_int (by omega), rfl⟩
theorem floor_z (v : Int) (w : World) (h0 : 0 ≤ v) (h : v < 1152921504606846978) : Calls Tryz.prog 160 #[.int .u64 v] w fun e w' => e = .returned (.int .u64 (v / 4)) ∧ w = w' := by
  obtain ⟨u, rfl⟩ : ∃ u : Nat, v = u := ⟨v.toNat, by omega⟩
  refine (ufloor_any u w (by omega)).mono ?_
  rintro e w' ⟨rfl, rfl⟩
  exact ⟨ret_int (by omega), rfl⟩
set_option maxRecDepth 100000 in
theorem rows_big : (Go.Pinned.pow10Rows.all fun h => Nat.ble 9223372036854775808 h.1) = true := by decide +kernel
theorem row_big {i hi lo : Nat} (h : Go.Pinned.pow10Rows[i]? = some (hi, lo)) : 9223372036854775808 ≤ hi := by
  have := List.all_eq_true.1 rows_big _ (List.mem_of_getElem? h)
  simpa using this
theorem row_lt {i hi lo : Nat} (h : Go.Pinned.pow10Rows[i]? = some (hi, lo)) : hi < 18446744073709551616 ∧ lo < 18446744073709551616 := by
  have := rowsOK_get _ 0 i (hi, lo) rows_ok h
  unfold rowOK at this
  simp only [Bool.and_eq_true, Nat.ble_eq, Nat.blt_eq] at this
  exact ⟨this.1.2, this.2⟩
/-- What shortFloat answers. -/
def ShIs (w : World) (r : Nat) (e : Ending) (w' : World) : Prop := ∃ (d : Nat) (k : Int), e = .returned (.tuple #[.int .u64 d, .int .i64 k]) ∧ ShortOf r d k ∧ Below w.heap.size w w'
theorem q_lt {mm Q : Nat} (h : mm < 18446744073709551616) (hQ : Q ≤ mm / 4096) : (Q : Int) < 9223372036854775808 := by omega
theorem q_lt2 {mm Q : Nat} (h : mm < 18446744073709551616) (hQ : Q ≤ mm / 4096) : -9223372036854775808 ≤ (Q : Int) ∧ (Q : Int) ≤ 9223372036854775807 := by omega
theorem dmin_odd (b : Bool) (u : Nat) : (dminOf b u : Int) = ((u : Int) + (if b then 0 else 1) + 3) / 4 := by unfold dminOf; cases b <;> simp <;> omega
theorem dmax_odd (b : Bool) (u : Nat) (h : 4 ≤ u) : (dmaxOf b u : Int) = ((u : Int) + -(if b then 0 else 1)) / 4 := by unfold dmaxOf; cases b <;> simp <;> omega
set_option maxRecDepth 100000 in
set_option maxHeartbeats 6400000 in
theorem short_b (r mm mn mx i hi lo s u1 u2 u0 dmin dmax rnd : Nat) (b : Bool) (od e p lp : Int) (w : World)
    (hod : od = if b then 0 else 1) (hmn : mn < 18446744073709551616 ∧ 2 ≤ mn) (hmx : mx < 18446744073709551616 ∧ 2 ≤ mx) (hmm : mm < 18446744073709551616 ∧ 2 ≤ mm)
    (hi1 : i < 696) (hpi : p = (i : Int) - 348) (hlp : l2 p = lp) (hlp0 : -2000 ≤ lp) (hlp1 : lp ≤ 2000) (hs' : (s : Int) = -(e + lp + 3)) (hs64 : s < 64) (he0 : -2000 ≤ e) (he1 : e ≤ 2000)
    (hrow : Go.Pinned.pow10Rows[i]? = some (hi, lo)) (hT : PowTab w)
    (hu1 : usc mn hi lo s = u1) (hu2 : usc mx hi lo s = u2) (hu0 : usc mm hi lo s = u0) (hub : u1 < 1152921504606846976 ∧ u2 < 1152921504606846976 ∧ u0 < 1152921504606846976) (h4 : 4 ≤ u2) (h1 : 1 ≤ u1)
    (hdmin : dminOf b u1 = dmin) (hdmax : dmaxOf b u2 = dmax) (hrnd : rndOf u0 = rnd) (hsh : ShortOf r (ansD dmin dmax rnd) (ansP dmin dmax p))
    (hpE : l10 (e + 11) = -p) (hlo : -1085 ≤ e) (hnot : ¬ (mm = 9223372036854775808 ∧ -1085 < e)) (hmn2 : (mm : Int) - 1024 = mn) (hmx2 : (mm : Int) + 1024 = mx) (hodd : (mm : Int) / 2048 % 2 = od) :
    Calls Tryz.prog 126 #[.int .u64 mm, .int .i64 e] w (ShIs w r) := by
  have hg8 := hT.1
  obtain ⟨ht1, ht2⟩ := hT.2 i hi lo hrow
  have HT1 := Lib.hid ht1
  have HT2 := Lib.hid ht2
  have HHI := Lib.hid (And.intro (row_lt hrow).1 (row_big hrow))
  have HLO := Lib.hid (row_lt hrow).2
  have HMN := Lib.hid hmn
  have HMX := Lib.hid hmx
  have HMM := Lib.hid hmm
  have HLP := Lib.hid hlp
  have HU1 := Lib.hid hu1
  have HU2 := Lib.hid hu2
  have HU0 := Lib.hid hu0
  have HB := Lib.hid hub
  have hod01 : 0 ≤ od ∧ od ≤ 1 := by rw [hod]; cases b <;> simp
  obtain ⟨od0, od1⟩ := hod01
  have hdm : ((u1 : Int) + od + 3) / 4 = (dmin : Int) := by rw [← hdmin, dmin_odd, hod]
  have HDMIN := Lib.hid hdm
  have hdx : ((u2 : Int) + -od) / 4 = (dmax : Int) := by rw [← hdmax, dmax_odd b u2 h4, hod]
  have HDMAX := Lib.hid hdx
  have HRND := Lib.hid hrnd
  have HSH := Lib.hid hsh
  have hdxb : dmax < 1000000000000000000 := by have h1 := hub.2.1; have h2 : (dmax : Int) ≤ u2 := (by omega); omega
  have hp0 : -348 ≤ p := by omega
  have hp1 : p < 348 := by omega
  have HPI := Lib.hid hpi
  clear hpi hmn hmx hmm hlp hu1 hu2 hu0 hub hod hdmin hdmax hrnd hsh hdm hdx ht1 ht2 hT hrow
  have HPE := Lib.hid hpE
  have hwn : IntKind.u64.wrap ((mm : Int) - 1024) = (mn : Int) := by rw [hmn2]; exact u64_wrap _ (by omega) (by have := HMN.out.1; omega)
  have hwx : IntKind.u64.wrap ((mm : Int) + 1024) = (mx : Int) := by rw [hmx2]; exact u64_wrap _ (by omega) (by have := HMX.out.1; omega)
  have hao : bits .and .i64 ((mm : Int) / 2048) 1 = od := by rw [← hodd]; exact bits_mask .i64 63 (by decide) (fun n h0 h1 => IntWalk.i64_in n (by omega)) 1 (by decide) ((mm : Int) / 2048) (by omega) (by have := HMM.out.1; omega)
  have hw64 : wrap64 ((mm : Int) / 2048) = (mm : Int) / 2048 := IntWalk.wrap64_in _ (by have h := HMM.out.1; omega)
  have hlo2 : decide (-1085 ≤ e) = true := decide_eq_true hlo
  clear hmn2 hmx2 hodd hpE
  by_cases hq : mm = 9223372036854775808
  · have hb1 : ((mm : Int) == 9223372036854775808) = true := by simp; omega
    have hb2 : decide (-1085 < e) = false := decide_eq_false (fun h => hnot ⟨hq, h⟩)
    have HQ := Lib.hid hq
    clear hq hnot
    go_enter Tryz.func126, Tryz.ntmps126
    go_wp2_with fail
    refine (log10pow2_any (e + 11) _ (by omega) (by omega)).mono ?_
    rintro e1 w1 ⟨rfl, rfl⟩
    rw [HPE.out]
    go_wp2_with fail
    refine (log2pow10_any p _ (by omega) (by omega)).mono ?_
    rintro e2 w2 ⟨rfl, rfl⟩
    rw [HLP.out]
    go_wp2_with fail
    refine (prescale_new i hi lo s e p lp _ hi1 HPI.out (by omega) (by omega) (by omega) (by omega) hs' HT1.out HT2.out hg8).mono ?_
    rintro e3 w3 ⟨rfl, hpre3, hbl3⟩
    go_wp2_with fail
    refine (uscale_pre mn hi lo s _ _ _ w3 HMN.out.1 HMN.out.2 HHI.out.1 HHI.out.2 HLO.out hs64 hpre3 hbl3 u1 HU1.out).mono ?_
    rintro e4 w4 ⟨rfl, hpre4, hbl4⟩
    clear hpre3 hbl3
    go_wp2_with fail
    refine (nudge_z u1 od _ (by omega) (by have := HB.out.1; omega) (by omega) (by omega)).mono ?_
    rintro e5 w5 ⟨rfl, rfl⟩
    go_wp2_with fail
    refine (ceil_z ((u1 : Int) + od) _ (by omega) (by have := HB.out.1; omega)).mono ?_
    rintro e6 w6 ⟨rfl, rfl⟩
    rw [HDMIN.out]
    go_wp2_with fail
    refine (uscale_pre mx hi lo s _ _ _ _ HMX.out.1 HMX.out.2 HHI.out.1 HHI.out.2 HLO.out hs64 hpre4 hbl4 u2 HU2.out).mono ?_
    rintro e7 w7 ⟨rfl, hpre7, hbl7⟩
    clear hpre4 hbl4
    go_wp2_with fail
    refine (nudge_z u2 (-od) _ (by omega) (by have := HB.out.2.1; omega) (by omega) (by omega)).mono ?_
    rintro e8 w8 ⟨rfl, rfl⟩
    go_wp2_with fail
    refine (floor_z ((u2 : Int) + -od) _ (by omega) (by have := HB.out.2.1; omega)).mono ?_
    rintro e9 w9 ⟨rfl, rfl⟩
    rw [HDMAX.out]
    by_cases hA : dmin ≤ dmax / 10 * 10
    · have htA : decide ((dmin : Int) ≤ (dmax : Int) / 10 * 10) = true := decide_eq_true (by omega)
      have ha1 : ansD dmin dmax rnd = dmax / 10 := if_pos hA
      have ha2 : ansP dmin dmax p = 1 - p := if_pos hA
      have HS := Lib.hid (show ShortOf r (dmax / 10) (1 - p) by have h := HSH.out; rw [ha1, ha2] at h; exact h)
      clear ha1 ha2 hA
      go_wp2
      go_ret2
      exact ⟨dmax / 10, 1 - p, ret_pair (by omega) (by omega), HS.out, hbl7⟩
    · have htA : decide ((dmin : Int) ≤ (dmax : Int) / 10 * 10) = false := decide_eq_false (by omega)
      have ha2 : ansP dmin dmax p = -p := if_neg hA
      by_cases hB : dmin < dmax
      · have htB : decide ((dmin : Int) < (dmax : Int)) = true := decide_eq_true (by omega)
        have htB2 : decide (dmin < dmax) = true := decide_eq_true hB
        have ha1 : ansD dmin dmax rnd = rnd := by unfold ansD; rw [if_neg hA, if_pos hB]
        have HS := Lib.hid (show ShortOf r rnd (-p) by have h := HSH.out; rw [ha1, ha2] at h; exact h)
        clear ha1 ha2 hA hB
        go_wp2_with fail
        refine (uscale_pre mm hi lo s _ _ _ _ HMM.out.1 HMM.out.2 HHI.out.1 HHI.out.2 HLO.out hs64 hpre7 hbl7 u0 HU0.out).mono ?_
        rintro e10 w10 ⟨rfl, hpre10, hbl10⟩
        go_wp2_with fail
        refine (uround_any u0 _ (by have := HB.out.2.2; omega)).mono ?_
        rintro e11 w11 ⟨rfl, rfl⟩
        rw [HRND.out]
        go_wp2
        go_ret2
        exact ⟨rnd, -p, ret_pair (by omega) (by omega), HS.out, hbl10⟩
      · have htB : decide ((dmin : Int) < (dmax : Int)) = false := decide_eq_false (by omega)
        have htB2 : decide (dmin < dmax) = false := decide_eq_false hB
        have ha1 : ansD dmin dmax rnd = dmin := by unfold ansD; rw [if_neg hA, if_neg hB]
        have HS := Lib.hid (show ShortOf r dmin (-p) by have h := HSH.out; rw [ha1, ha2] at h; exact h)
        clear ha1 ha2 hA hB
        go_wp2
        go_ret2
        exact ⟨dmin, -p, ret_pair (by omega) (by omega), HS.out, hbl7⟩
  · have hb1 : ((mm : Int) == 9223372036854775808) = false := by simp; omega
    clear hq hnot
    go_enter Tryz.func126, Tryz.ntmps126
    go_wp2_with fail
    refine (log10pow2_any (e + 11) _ (by omega) (by omega)).mono ?_
    rintro e1 w1 ⟨rfl, rfl⟩
    rw [HPE.out]
    go_wp2_with fail
    refine (log2pow10_any p _ (by omega) (by omega)).mono ?_
    rintro e2 w2 ⟨rfl, rfl⟩
    rw [HLP.out]
    go_wp2_with fail
    refine (prescale_new i hi lo s e p lp _ hi1 HPI.out (by omega) (by omega) (by omega) (by omega) hs' HT1.out HT2.out hg8).mono ?_
    rintro e3 w3 ⟨rfl, hpre3, hbl3⟩
    go_wp2_with fail
    refine (uscale_pre mn hi lo s _ _ _ w3 HMN.out.1 HMN.out.2 HHI.out.1 HHI.out.2 HLO.out hs64 hpre3 hbl3 u1 HU1.out).mono ?_
    rintro e4 w4 ⟨rfl, hpre4, hbl4⟩
    clear hpre3 hbl3
    go_wp2_with fail
    refine (nudge_z u1 od _ (by omega) (by have := HB.out.1; omega) (by omega) (by omega)).mono ?_
    rintro e5 w5 ⟨rfl, rfl⟩
    go_wp2_with fail
    refine (ceil_z ((u1 : Int) + od) _ (by omega) (by have := HB.out.1; omega)).mono ?_
    rintro e6 w6 ⟨rfl, rfl⟩
    rw [HDMIN.out]
    go_wp2_with fail
    refine (uscale_pre mx hi lo s _ _ _ _ HMX.out.1 HMX.out.2 HHI.out.1 HHI.out.2 HLO.out hs64 hpre4 hbl4 u2 HU2.out).mono ?_
    rintro e7 w7 ⟨rfl, hpre7, hbl7⟩
    clear hpre4 hbl4
    go_wp2_with fail
    refine (nudge_z u2 (-od) _ (by omega) (by have := HB.out.2.1; omega) (by omega) (by omega)).mono ?_
    rintro e8 w8 ⟨rfl, rfl⟩
    go_wp2_with fail
    refine (floor_z ((u2 : Int) + -od) _ (by omega) (by have := HB.out.2.1; omega)).mono ?_
    rintro e9 w9 ⟨rfl, rfl⟩
    rw [HDMAX.out]
    by_cases hA : dmin ≤ dmax / 10 * 10
    · have htA : decide ((dmin : Int) ≤ (dmax : Int) / 10 * 10) = true := decide_eq_true (by omega)
      have ha1 : ansD dmin dmax rnd = dmax / 10 := if_pos hA
      have ha2 : ansP dmin dmax p = 1 - p := if_pos hA
      have HS := Lib.hid (show ShortOf r (dmax / 10) (1 - p) by have h := HSH.out; rw [ha1, ha2] at h; exact h)
      clear ha1 ha2 hA
      go_wp2
      go_ret2
      exact ⟨dmax / 10, 1 - p, ret_pair (by omega) (by omega), HS.out, hbl7⟩
    · have htA : decide ((dmin : Int) ≤ (dmax : Int) / 10 * 10) = false := decide_eq_false (by omega)
      have ha2 : ansP dmin dmax p = -p := if_neg hA
      by_cases hB : dmin < dmax
      · have htB : decide ((dmin : Int) < (dmax : Int)) = true := decide_eq_true (by omega)
        have htB2 : decide (dmin < dmax) = true := decide_eq_true hB
        have ha1 : ansD dmin dmax rnd = rnd := by unfold ansD; rw [if_neg hA, if_pos hB]
        have HS := Lib.hid (show ShortOf r rnd (-p) by have h := HSH.out; rw [ha1, ha2] at h; exact h)
        clear ha1 ha2 hA hB
        go_wp2_with fail
        refine (uscale_pre mm hi lo s _ _ _ _ HMM.out.1 HMM.out.2 HHI.out.1 HHI.out.2 HLO.out hs64 hpre7 hbl7 u0 HU0.out).mono ?_
        rintro e10 w10 ⟨rfl, hpre10, hbl10⟩
        go_wp2_with fail
        refine (uround_any u0 _ (by have := HB.out.2.2; omega)).mono ?_
        rintro e11 w11 ⟨rfl, rfl⟩
        rw [HRND.out]
        go_wp2
        go_ret2
        exact ⟨rnd, -p, ret_pair (by omega) (by omega), HS.out, hbl10⟩
      · have htB : decide ((dmin : Int) < (dmax : Int)) = false := decide_eq_false (by omega)
        have htB2 : decide (dmin < dmax) = false := decide_eq_false hB
        have ha1 : ansD dmin dmax rnd = dmin := by unfold ansD; rw [if_neg hA, if_neg hB]
        have HS := Lib.hid (show ShortOf r dmin (-p) by have h := HSH.out; rw [ha1, ha2] at h; exact h)
        clear ha1 ha2 hA hB
        go_wp2
        go_ret2
        exact ⟨dmin, -p, ret_pair (by omega) (by omega), HS.out, hbl7⟩
set_option maxRecDepth 100000 in
set_option maxHeartbeats 6400000 in
theorem short_c (r mm mn mx i hi lo s u1 u2 u0 dmin dmax rnd : Nat) (b : Bool) (od e p lp : Int) (w : World)
    (hod : od = if b then 0 else 1) (hmn : mn < 18446744073709551616 ∧ 2 ≤ mn) (hmx : mx < 18446744073709551616 ∧ 2 ≤ mx) (hmm : mm < 18446744073709551616 ∧ 2 ≤ mm)
    (hi1 : i < 696) (hpi : p = (i : Int) - 348) (hlp : l2 p = lp) (hlp0 : -2000 ≤ lp) (hlp1 : lp ≤ 2000) (hs' : (s : Int) = -(e + lp + 3)) (hs64 : s < 64) (_ : -2000 ≤ e) (_ : e ≤ 2000)
    (hrow : Go.Pinned.pow10Rows[i]? = some (hi, lo)) (hT : PowTab w)
    (hu1 : usc mn hi lo s = u1) (hu2 : usc mx hi lo s = u2) (hu0 : usc mm hi lo s = u0) (hub : u1 < 1152921504606846976 ∧ u2 < 1152921504606846976 ∧ u0 < 1152921504606846976) (h4 : 4 ≤ u2) (h1 : 1 ≤ u1)
    (hdmin : dminOf b u1 = dmin) (hdmax : dmaxOf b u2 = dmax) (hrnd : rndOf u0 = rnd) (hsh : ShortOf r (ansD dmin dmax rnd) (ansP dmin dmax p))
    (zz : Nat) (hz1 : 12 ≤ zz) (hz2 : zz ≤ 63) (hez : e = -1074 - zz) (hpE : l10 (-1074) = -p) (hmn2 : (mm : Int) - (2 ^ (zz - 1) : Nat) = mn) (hmx2 : (mm : Int) + (2 ^ (zz - 1) : Nat) = mx) (hodd : ((mm / 2 ^ zz : Nat) : Int) % 2 = od) :
    Calls Tryz.prog 126 #[.int .u64 mm, .int .i64 e] w (ShIs w r) := by
  have hg8 := hT.1
  obtain ⟨ht1, ht2⟩ := hT.2 i hi lo hrow
  have HT1 := Lib.hid ht1
  have HT2 := Lib.hid ht2
  have HHI := Lib.hid (And.intro (row_lt hrow).1 (row_big hrow))
  have HLO := Lib.hid (row_lt hrow).2
  have HMN := Lib.hid hmn
  have HMX := Lib.hid hmx
  have HMM := Lib.hid hmm
  have HLP := Lib.hid hlp
  have HU1 := Lib.hid hu1
  have HU2 := Lib.hid hu2
  have HU0 := Lib.hid hu0
  have HB := Lib.hid hub
  have hod01 : 0 ≤ od ∧ od ≤ 1 := by rw [hod]; cases b <;> simp
  obtain ⟨od0, od1⟩ := hod01
  have hdm : ((u1 : Int) + od + 3) / 4 = (dmin : Int) := by rw [← hdmin, dmin_odd, hod]
  have HDMIN := Lib.hid hdm
  have hdx : ((u2 : Int) + -od) / 4 = (dmax : Int) := by rw [← hdmax, dmax_odd b u2 h4, hod]
  have HDMAX := Lib.hid hdx
  have HRND := Lib.hid hrnd
  have HSH := Lib.hid hsh
  have hdxb : dmax < 1000000000000000000 := by have h1 := hub.2.1; have h2 : (dmax : Int) ≤ u2 := (by omega); omega
  have hp0 : -348 ≤ p := by omega
  have hp1 : p < 348 := by omega
  have HPI := Lib.hid hpi
  clear hpi hmn hmx hmm hlp hu1 hu2 hu0 hub hod hdmin hdmax hrnd hsh hdm hdx ht1 ht2 hT hrow
  have HPE := Lib.hid hpE
  have hnot : ¬ (mm = 9223372036854775808 ∧ -1085 < e) := by omega
  have hz3 : 11 + (-1085 - e) = (zz : Int) := by omega
  have hz4 : e + (zz : Int) = -1074 := by omega
  have hlo2 : decide (-1085 ≤ e) = false := decide_eq_false (by omega)
  obtain ⟨H, hH⟩ : ∃ H, 2 ^ (zz - 1) = H := ⟨_, rfl⟩
  obtain ⟨Q, hQ⟩ : ∃ Q, mm / 2 ^ zz = Q := ⟨_, rfl⟩
  have hHb : H < 18446744073709551616 := by rw [← hH]; exact Nat.lt_of_le_of_lt (Nat.pow_le_pow_right (n := 2) (by decide) (show zz - 1 ≤ 62 by omega)) (by decide)
  have hQb : Q ≤ mm / 4096 := by rw [← hQ]; exact Nat.div_le_div_left (show 2 ^ 12 ≤ 2 ^ zz from Nat.pow_le_pow_right (by decide) hz1) (by decide)
  have hQ2 : (mm : Int) / 2 ^ zz = (Q : Int) := by rw [cast_shr, hQ]
  have hHw : IntKind.u64.wrap (2 ^ (zz - 1)) = (H : Int) := by rw [← hH, Int.natCast_pow]; exact u64_wrap _ (Int.le_of_lt (Int.pow_pos (by decide))) (by have h : ((2 ^ (zz - 1) : Nat) : Int) < 18446744073709551616 := (by rw [hH]; omega); rw [Int.natCast_pow] at h; exact h)
  rw [hH] at hmn2 hmx2
  rw [hQ] at hodd
  have hwn : IntKind.u64.wrap ((mm : Int) - (H : Int)) = (mn : Int) := by rw [hmn2]; exact u64_wrap _ (by omega) (by have := HMN.out.1; omega)
  have hwx : IntKind.u64.wrap ((mm : Int) + (H : Int)) = (mx : Int) := by rw [hmx2]; exact u64_wrap _ (by omega) (by have := HMX.out.1; omega)
  have hw64 : wrap64 (Q : Int) = (Q : Int) := IntWalk.wrap64_in _ (q_lt2 HMM.out.1 hQb)
  have hao : bits .and .i64 (Q : Int) 1 = od := by rw [← hodd]; exact bits_mask .i64 63 (by decide) (fun n h0 h1 => IntWalk.i64_in n (by omega)) 1 (by decide) (Q : Int) (Int.natCast_nonneg _) (q_lt HMM.out.1 hQb)
  clear hpE hmn2 hmx2 hodd hez hH hQ hHb hQb
  by_cases hq : mm = 9223372036854775808
  · have hb1 : ((mm : Int) == 9223372036854775808) = true := by simp; omega
    have hb2 : decide (-1085 < e) = false := decide_eq_false (fun h => hnot ⟨hq, h⟩)
    have HQ := Lib.hid hq
    clear hq hnot
    go_enter Tryz.func126, Tryz.ntmps126
    go_wp2_with fail
    refine (log10pow2_any (-1074) _ (by omega) (by omega)).mono ?_
    rintro e1 w1 ⟨rfl, rfl⟩
    rw [HPE.out]
    go_wp2_with fail
    refine (log2pow10_any p _ (by omega) (by omega)).mono ?_
    rintro e2 w2 ⟨rfl, rfl⟩
    rw [HLP.out]
    go_wp2_with fail
    refine (prescale_new i hi lo s e p lp _ hi1 HPI.out (by omega) (by omega) (by omega) (by omega) hs' HT1.out HT2.out hg8).mono ?_
    rintro e3 w3 ⟨rfl, hpre3, hbl3⟩
    go_wp2_with fail
    refine (uscale_pre mn hi lo s _ _ _ w3 HMN.out.1 HMN.out.2 HHI.out.1 HHI.out.2 HLO.out hs64 hpre3 hbl3 u1 HU1.out).mono ?_
    rintro e4 w4 ⟨rfl, hpre4, hbl4⟩
    clear hpre3 hbl3
    go_wp2_with fail
    refine (nudge_z u1 od _ (by omega) (by have := HB.out.1; omega) (by omega) (by omega)).mono ?_
    rintro e5 w5 ⟨rfl, rfl⟩
    go_wp2_with fail
    refine (ceil_z ((u1 : Int) + od) _ (by omega) (by have := HB.out.1; omega)).mono ?_
    rintro e6 w6 ⟨rfl, rfl⟩
    rw [HDMIN.out]
    go_wp2_with fail
    refine (uscale_pre mx hi lo s _ _ _ _ HMX.out.1 HMX.out.2 HHI.out.1 HHI.out.2 HLO.out hs64 hpre4 hbl4 u2 HU2.out).mono ?_
    rintro e7 w7 ⟨rfl, hpre7, hbl7⟩
    clear hpre4 hbl4
    go_wp2_with fail
    refine (nudge_z u2 (-od) _ (by omega) (by have := HB.out.2.1; omega) (by omega) (by omega)).mono ?_
    rintro e8 w8 ⟨rfl, rfl⟩
    go_wp2_with fail
    refine (floor_z ((u2 : Int) + -od) _ (by omega) (by have := HB.out.2.1; omega)).mono ?_
    rintro e9 w9 ⟨rfl, rfl⟩
    rw [HDMAX.out]
    by_cases hA : dmin ≤ dmax / 10 * 10
    · have htA : decide ((dmin : Int) ≤ (dmax : Int) / 10 * 10) = true := decide_eq_true (by omega)
      have ha1 : ansD dmin dmax rnd = dmax / 10 := if_pos hA
      have ha2 : ansP dmin dmax p = 1 - p := if_pos hA
      have HS := Lib.hid (show ShortOf r (dmax / 10) (1 - p) by have h := HSH.out; rw [ha1, ha2] at h; exact h)
      clear ha1 ha2 hA
      go_wp2
      go_ret2
      exact ⟨dmax / 10, 1 - p, ret_pair (by omega) (by omega), HS.out, hbl7⟩
    · have htA : decide ((dmin : Int) ≤ (dmax : Int) / 10 * 10) = false := decide_eq_false (by omega)
      have ha2 : ansP dmin dmax p = -p := if_neg hA
      by_cases hB : dmin < dmax
      · have htB : decide ((dmin : Int) < (dmax : Int)) = true := decide_eq_true (by omega)
        have htB2 : decide (dmin < dmax) = true := decide_eq_true hB
        have ha1 : ansD dmin dmax rnd = rnd := by unfold ansD; rw [if_neg hA, if_pos hB]
        have HS := Lib.hid (show ShortOf r rnd (-p) by have h := HSH.out; rw [ha1, ha2] at h; exact h)
        clear ha1 ha2 hA hB
        go_wp2_with fail
        refine (uscale_pre mm hi lo s _ _ _ _ HMM.out.1 HMM.out.2 HHI.out.1 HHI.out.2 HLO.out hs64 hpre7 hbl7 u0 HU0.out).mono ?_
        rintro e10 w10 ⟨rfl, hpre10, hbl10⟩
        go_wp2_with fail
        refine (uround_any u0 _ (by have := HB.out.2.2; omega)).mono ?_
        rintro e11 w11 ⟨rfl, rfl⟩
        rw [HRND.out]
        go_wp2
        go_ret2
        exact ⟨rnd, -p, ret_pair (by omega) (by omega), HS.out, hbl10⟩
      · have htB : decide ((dmin : Int) < (dmax : Int)) = false := decide_eq_false (by omega)
        have htB2 : decide (dmin < dmax) = false := decide_eq_false hB
        have ha1 : ansD dmin dmax rnd = dmin := by unfold ansD; rw [if_neg hA, if_neg hB]
        have HS := Lib.hid (show ShortOf r dmin (-p) by have h := HSH.out; rw [ha1, ha2] at h; exact h)
        clear ha1 ha2 hA hB
        go_wp2
        go_ret2
        exact ⟨dmin, -p, ret_pair (by omega) (by omega), HS.out, hbl7⟩
  · have hb1 : ((mm : Int) == 9223372036854775808) = false := by simp; omega
    clear hq hnot
    go_enter Tryz.func126, Tryz.ntmps126
    go_wp2_with fail
    refine (log10pow2_any (-1074) _ (by omega) (by omega)).mono ?_
    rintro e1 w1 ⟨rfl, rfl⟩
    rw [HPE.out]
    go_wp2_with fail
    refine (log2pow10_any p _ (by omega) (by omega)).mono ?_
    rintro e2 w2 ⟨rfl, rfl⟩
    rw [HLP.out]
    go_wp2_with fail
    refine (prescale_new i hi lo s e p lp _ hi1 HPI.out (by omega) (by omega) (by omega) (by omega) hs' HT1.out HT2.out hg8).mono ?_
    rintro e3 w3 ⟨rfl, hpre3, hbl3⟩
    go_wp2_with fail
    refine (uscale_pre mn hi lo s _ _ _ w3 HMN.out.1 HMN.out.2 HHI.out.1 HHI.out.2 HLO.out hs64 hpre3 hbl3 u1 HU1.out).mono ?_
    rintro e4 w4 ⟨rfl, hpre4, hbl4⟩
    clear hpre3 hbl3
    go_wp2_with fail
    refine (nudge_z u1 od _ (by omega) (by have := HB.out.1; omega) (by omega) (by omega)).mono ?_
    rintro e5 w5 ⟨rfl, rfl⟩
    go_wp2_with fail
    refine (ceil_z ((u1 : Int) + od) _ (by omega) (by have := HB.out.1; omega)).mono ?_
    rintro e6 w6 ⟨rfl, rfl⟩
    rw [HDMIN.out]
    go_wp2_with fail
    refine (uscale_pre mx hi lo s _ _ _ _ HMX.out.1 HMX.out.2 HHI.out.1 HHI.out.2 HLO.out hs64 hpre4 hbl4 u2 HU2.out).mono ?_
    rintro e7 w7 ⟨rfl, hpre7, hbl7⟩
    clear hpre4 hbl4
    go_wp2_with fail
    refine (nudge_z u2 (-od) _ (by omega) (by have := HB.out.2.1; omega) (by omega) (by omega)).mono ?_
    rintro e8 w8 ⟨rfl, rfl⟩
    go_wp2_with fail
    refine (floor_z ((u2 : Int) + -od) _ (by omega) (by have := HB.out.2.1; omega)).mono ?_
    rintro e9 w9 ⟨rfl, rfl⟩
    rw [HDMAX.out]
    by_cases hA : dmin ≤ dmax / 10 * 10
    · have htA : decide ((dmin : Int) ≤ (dmax : Int) / 10 * 10) = true := decide_eq_true (by omega)
      have ha1 : ansD dmin dmax rnd = dmax / 10 := if_pos hA
      have ha2 : ansP dmin dmax p = 1 - p := if_pos hA
      have HS := Lib.hid (show ShortOf r (dmax / 10) (1 - p) by have h := HSH.out; rw [ha1, ha2] at h; exact h)
      clear ha1 ha2 hA
      go_wp2
      go_ret2
      exact ⟨dmax / 10, 1 - p, ret_pair (by omega) (by omega), HS.out, hbl7⟩
    · have htA : decide ((dmin : Int) ≤ (dmax : Int) / 10 * 10) = false := decide_eq_false (by omega)
      have ha2 : ansP dmin dmax p = -p := if_neg hA
      by_cases hB : dmin < dmax
      · have htB : decide ((dmin : Int) < (dmax : Int)) = true := decide_eq_true (by omega)
        have htB2 : decide (dmin < dmax) = true := decide_eq_true hB
        have ha1 : ansD dmin dmax rnd = rnd := by unfold ansD; rw [if_neg hA, if_pos hB]
        have HS := Lib.hid (show ShortOf r rnd (-p) by have h := HSH.out; rw [ha1, ha2] at h; exact h)
        clear ha1 ha2 hA hB
        go_wp2_with fail
        refine (uscale_pre mm hi lo s _ _ _ _ HMM.out.1 HMM.out.2 HHI.out.1 HHI.out.2 HLO.out hs64 hpre7 hbl7 u0 HU0.out).mono ?_
        rintro e10 w10 ⟨rfl, hpre10, hbl10⟩
        go_wp2_with fail
        refine (uround_any u0 _ (by have := HB.out.2.2; omega)).mono ?_
        rintro e11 w11 ⟨rfl, rfl⟩
        rw [HRND.out]
        go_wp2
        go_ret2
        exact ⟨rnd, -p, ret_pair (by omega) (by omega), HS.out, hbl10⟩
      · have htB : decide ((dmin : Int) < (dmax : Int)) = false := decide_eq_false (by omega)
        have htB2 : decide (dmin < dmax) = false := decide_eq_false hB
        have ha1 : ansD dmin dmax rnd = dmin := by unfold ansD; rw [if_neg hA, if_neg hB]
        have HS := Lib.hid (show ShortOf r dmin (-p) by have h := HSH.out; rw [ha1, ha2] at h; exact h)
        clear ha1 ha2 hA hB
        go_wp2
        go_ret2
        exact ⟨dmin, -p, ret_pair (by omega) (by omega), HS.out, hbl7⟩
set_option maxRecDepth 100000 in
set_option maxHeartbeats 6400000 in
theorem short_a (r mm mn mx i hi lo s u1 u2 u0 dmin dmax rnd : Nat) (b : Bool) (od e p lp : Int) (w : World)
    (hod : od = if b then 0 else 1) (hmn : mn < 18446744073709551616 ∧ 2 ≤ mn) (hmx : mx < 18446744073709551616 ∧ 2 ≤ mx) (hmm : mm < 18446744073709551616 ∧ 2 ≤ mm)
    (hi1 : i < 696) (hpi : p = (i : Int) - 348) (hlp : l2 p = lp) (hlp0 : -2000 ≤ lp) (hlp1 : lp ≤ 2000) (hs' : (s : Int) = -(e + lp + 3)) (hs64 : s < 64) (he0 : -2000 ≤ e) (he1 : e ≤ 2000)
    (hrow : Go.Pinned.pow10Rows[i]? = some (hi, lo)) (hT : PowTab w)
    (hu1 : usc mn hi lo s = u1) (hu2 : usc mx hi lo s = u2) (hu0 : usc mm hi lo s = u0) (hub : u1 < 1152921504606846976 ∧ u2 < 1152921504606846976 ∧ u0 < 1152921504606846976) (h4 : 4 ≤ u2) (h1 : 1 ≤ u1)
    (hdmin : dminOf b u1 = dmin) (hdmax : dmaxOf b u2 = dmax) (hrnd : rndOf u0 = rnd) (hsh : ShortOf r (ansD dmin dmax rnd) (ansP dmin dmax p))
    (hpE : skw (e + 11) = -p) (hlo : -1085 < e) (hq : mm = 9223372036854775808) (hmn2 : (mm : Int) - 512 = mn) (hmx2 : (mm : Int) + 1024 = mx) (hodd : (mm : Int) / 2048 % 2 = od) :
    Calls Tryz.prog 126 #[.int .u64 mm, .int .i64 e] w (ShIs w r) := by
  have hg8 := hT.1
  obtain ⟨ht1, ht2⟩ := hT.2 i hi lo hrow
  have HT1 := Lib.hid ht1
  have HT2 := Lib.hid ht2
  have HHI := Lib.hid (And.intro (row_lt hrow).1 (row_big hrow))
  have HLO := Lib.hid (row_lt hrow).2
  have HMN := Lib.hid hmn
  have HMX := Lib.hid hmx
  have HMM := Lib.hid hmm
  have HLP := Lib.hid hlp
  have HU1 := Lib.hid hu1
  have HU2 := Lib.hid hu2
  have HU0 := Lib.hid hu0
  have HB := Lib.hid hub
  have hod01 : 0 ≤ od ∧ od ≤ 1 := by rw [hod]; cases b <;> simp
  obtain ⟨od0, od1⟩ := hod01
  have hdm : ((u1 : Int) + od + 3) / 4 = (dmin : Int) := by rw [← hdmin, dmin_odd, hod]
  have HDMIN := Lib.hid hdm
  have hdx : ((u2 : Int) + -od) / 4 = (dmax : Int) := by rw [← hdmax, dmax_odd b u2 h4, hod]
  have HDMAX := Lib.hid hdx
  have HRND := Lib.hid hrnd
  have HSH := Lib.hid hsh
  have hdxb : dmax < 1000000000000000000 := by have h1 := hub.2.1; have h2 : (dmax : Int) ≤ u2 := (by omega); omega
  have hp0 : -348 ≤ p := by omega
  have hp1 : p < 348 := by omega
  have HPI := Lib.hid hpi
  clear hpi hmn hmx hmm hlp hu1 hu2 hu0 hub hod hdmin hdmax hrnd hsh hdm hdx ht1 ht2 hT hrow
  have HPE := Lib.hid hpE
  have hwn : IntKind.u64.wrap ((mm : Int) - 512) = (mn : Int) := by rw [hmn2]; exact u64_wrap _ (by omega) (by have := HMN.out.1; omega)
  have hwx : IntKind.u64.wrap ((mm : Int) + 1024) = (mx : Int) := by rw [hmx2]; exact u64_wrap _ (by omega) (by have := HMX.out.1; omega)
  have hao : bits .and .i64 ((mm : Int) / 2048) 1 = od := by rw [← hodd]; exact bits_mask .i64 63 (by decide) (fun n h0 h1 => IntWalk.i64_in n (by omega)) 1 (by decide) ((mm : Int) / 2048) (by omega) (by have := HMM.out.1; omega)
  have hw64 : wrap64 ((mm : Int) / 2048) = (mm : Int) / 2048 := IntWalk.wrap64_in _ (by have h := HMM.out.1; omega)
  have hb1 : ((mm : Int) == 9223372036854775808) = true := by simp; omega
  have hb2 : decide (-1085 < e) = true := decide_eq_true hlo
  clear hmn2 hmx2 hodd hpE hq
  go_enter Tryz.func126, Tryz.ntmps126
  go_wp2_with fail
  refine (skewed_any (e + 11) _ (by omega) (by omega)).mono ?_
  rintro e1 w1 ⟨rfl, rfl⟩
  rw [HPE.out]
  go_wp2_with fail
  refine (log2pow10_any p _ (by omega) (by omega)).mono ?_
  rintro e2 w2 ⟨rfl, rfl⟩
  rw [HLP.out]
  go_wp2_with fail
  refine (prescale_new i hi lo s e p lp _ hi1 HPI.out (by omega) (by omega) (by omega) (by omega) hs' HT1.out HT2.out hg8).mono ?_
  rintro e3 w3 ⟨rfl, hpre3, hbl3⟩
  go_wp2_with fail
  refine (uscale_pre mn hi lo s _ _ _ w3 HMN.out.1 HMN.out.2 HHI.out.1 HHI.out.2 HLO.out hs64 hpre3 hbl3 u1 HU1.out).mono ?_
  rintro e4 w4 ⟨rfl, hpre4, hbl4⟩
  clear hpre3 hbl3
  go_wp2_with fail
  refine (nudge_z u1 od _ (by omega) (by have := HB.out.1; omega) (by omega) (by omega)).mono ?_
  rintro e5 w5 ⟨rfl, rfl⟩
  go_wp2_with fail
  refine (ceil_z ((u1 : Int) + od) _ (by omega) (by have := HB.out.1; omega)).mono ?_
  rintro e6 w6 ⟨rfl, rfl⟩
  rw [HDMIN.out]
  go_wp2_with fail
  refine (uscale_pre mx hi lo s _ _ _ _ HMX.out.1 HMX.out.2 HHI.out.1 HHI.out.2 HLO.out hs64 hpre4 hbl4 u2 HU2.out).mono ?_
  rintro e7 w7 ⟨rfl, hpre7, hbl7⟩
  clear hpre4 hbl4
  go_wp2_with fail
  refine (nudge_z u2 (-od) _ (by omega) (by have := HB.out.2.1; omega) (by omega) (by omega)).mono ?_
  rintro e8 w8 ⟨rfl, rfl⟩
  go_wp2_with fail
  refine (floor_z ((u2 : Int) + -od) _ (by omega) (by have := HB.out.2.1; omega)).mono ?_
  rintro e9 w9 ⟨rfl, rfl⟩
  rw [HDMAX.out]
  by_cases hA : dmin ≤ dmax / 10 * 10
  · have htA : decide ((dmin : Int) ≤ (dmax : Int) / 10 * 10) = true := decide_eq_true (by omega)
    have ha1 : ansD dmin dmax rnd = dmax / 10 := if_pos hA
    have ha2 : ansP dmin dmax p = 1 - p := if_pos hA
    have HS := Lib.hid (show ShortOf r (dmax / 10) (1 - p) by have h := HSH.out; rw [ha1, ha2] at h; exact h)
    clear ha1 ha2 hA
    go_wp2
    go_ret2
    exact ⟨dmax / 10, 1 - p, ret_pair (by omega) (by omega), HS.out, hbl7⟩
  · have htA : decide ((dmin : Int) ≤ (dmax : Int) / 10 * 10) = false := decide_eq_false (by omega)
    have ha2 : ansP dmin dmax p = -p := if_neg hA
    by_cases hB : dmin < dmax
    · have htB : decide ((dmin : Int) < (dmax : Int)) = true := decide_eq_true (by omega)
      have htB2 : decide (dmin < dmax) = true := decide_eq_true hB
      have ha1 : ansD dmin dmax rnd = rnd := by unfold ansD; rw [if_neg hA, if_pos hB]
      have HS := Lib.hid (show ShortOf r rnd (-p) by have h := HSH.out; rw [ha1, ha2] at h; exact h)
      clear ha1 ha2 hA hB
      go_wp2_with fail
      refine (uscale_pre mm hi lo s _ _ _ _ HMM.out.1 HMM.out.2 HHI.out.1 HHI.out.2 HLO.out hs64 hpre7 hbl7 u0 HU0.out).mono ?_
      rintro e10 w10 ⟨rfl, hpre10, hbl10⟩
      go_wp2_with fail
      refine (uround_any u0 _ (by have := HB.out.2.2; omega)).mono ?_
      rintro e11 w11 ⟨rfl, rfl⟩
      rw [HRND.out]
      go_wp2
      go_ret2
      exact ⟨rnd, -p, ret_pair (by omega) (by omega), HS.out, hbl10⟩
    · have htB : decide ((dmin : Int) < (dmax : Int)) = false := decide_eq_false (by omega)
      have htB2 : decide (dmin < dmax) = false := decide_eq_false hB
      have ha1 : ansD dmin dmax rnd = dmin := by unfold ansD; rw [if_neg hA, if_neg hB]
      have HS := Lib.hid (show ShortOf r dmin (-p) by have h := HSH.out; rw [ha1, ha2] at h; exact h)
      clear ha1 ha2 hA hB
      go_wp2
      go_ret2
      exact ⟨dmin, -p, ret_pair (by omega) (by omega), HS.out, hbl7⟩

/-- Of a word's whole number put to the left: shortFloat's answer is the shortest. -/
theorem short_any (r z : Nat) (w : World) (h0 : 0 < r) (hr : r < 9218868437227405312) (hz1 : 9223372036854775808 ≤ mant r * 2 ^ z) (hz2 : mant r * 2 ^ z < 18446744073709551616) (hT : PowTab w) :
    Calls Tryz.prog 126 #[.int .u64 (mant r * 2 ^ z : Nat), .int .i64 (expo r - z)] w (ShIs w r) := by
  have hm0 := mant_pos h0
  have hm1 := mant_lt r
  have hE0 := expo_ge r
  have hE1 := expo_le hr
  have hsub : mant r < 4503599627370496 → expo r = -1074 := by unfold mant expo; split <;> omega
  have hpar := par_mant r
  obtain ⟨m, hm⟩ : ∃ m, mant r = m := ⟨_, rfl⟩
  obtain ⟨E, hE⟩ : ∃ E, expo r = E := ⟨_, rfl⟩
  rw [hm] at hz1 hz2 hm0 hm1 hsub hpar ⊢
  rw [hE] at hE0 hE1 hsub ⊢
  -- how far it is put to the left
  have hz64 : z < 64 := by
    rcases Nat.lt_or_ge z 64 with g | g
    · exact g
    · have h1 : 2 ^ 64 ≤ 2 ^ z := Nat.pow_le_pow_right (by decide) g
      have h2 : 1 * 2 ^ z ≤ m * 2 ^ z := Nat.mul_le_mul_right _ hm0
      omega
  have hz11 : 11 ≤ z := by
    rcases Nat.lt_or_ge z 11 with g | g
    · have h1 : 2 ^ z ≤ 2 ^ 10 := Nat.pow_le_pow_right (by decide) (by omega)
      have h2 : m * 2 ^ z ≤ 9007199254740991 * 2 ^ 10 := Nat.mul_le_mul (by omega) h1
      omega
    · exact g
  have hz11' : 4503599627370496 ≤ m → z = 11 := by
    intro g
    rcases Nat.lt_or_ge 11 z with g' | g'
    · have h1 : 2 ^ 12 ≤ 2 ^ z := Nat.pow_le_pow_right (by decide) g'
      have h2 : 4503599627370496 * 2 ^ 12 ≤ m * 2 ^ z := Nat.mul_le_mul g h1
      omega
    · omega
  have hz12' : m < 4503599627370496 → 12 ≤ z := by
    intro g
    rcases Nat.lt_or_ge z 12 with g' | g'
    · have h1 : 2 ^ z ≤ 2 ^ 11 := Nat.pow_le_pow_right (by decide) (by omega)
      have h2 : m * 2 ^ z ≤ 4503599627370495 * 2 ^ 11 := Nat.mul_le_mul (by omega) h1
      omega
    · exact g'
  have hodd : (if decide (r % 2 = 0) = true then (0 : Int) else 1) = (m : Int) % 2 := by
    by_cases g : r % 2 = 0
    · rw [if_pos (decide_eq_true g)]; omega
    · rw [if_neg (by simpa using g)]; omega
  by_cases hs : m = 4503599627370496 ∧ -1074 < E
  · obtain ⟨hs1, hs2⟩ := hs
    have hz := hz11' (by omega)
    subst hz
    obtain ⟨p, hp⟩ : ∃ p, -skw E = p := ⟨_, rfl⟩
    obtain ⟨c1, c2, c3, c4, _⟩ := chk_skw hE0 hE1
    rw [hp] at c1 c2 c3 c4
    obtain ⟨hi, lo, hrow⟩ := row_get (p := p) c2
    obtain ⟨s, hss⟩ : ∃ s : Nat, (s : Int) = 8 - E - l2 p := ⟨(8 - E - l2 p).toNat, by omega⟩
    obtain ⟨a1, a2, a3, hpos, a4, a5⟩ := skw_ans (s := s) hr ⟨by rw [hm]; exact hs1, by rw [hE]; exact hs2⟩ hE hp hrow hss
    have hpar0 : decide (r % 2 = 0) = true := decide_eq_true (by omega)
    have := short_a r 9223372036854775808 9223372036854775296 9223372036854776832 (rowAt p) hi lo s _ _ _ _ _ _ true 0 (E - 11) p (l2 p) w rfl (by omega) (by omega) (by omega) (by unfold rowAt; omega) (by unfold rowAt; omega) rfl (by omega) (by omega) (by omega) (by omega) (by omega) (by omega) hrow hT rfl rfl rfl ⟨a1, a2, a3⟩ a4 hpos rfl rfl rfl a5 (by rw [show E - 11 + 11 = E by omega]; omega) (by omega) rfl (by omega) (by omega) (by omega)
    rw [show m * 2 ^ 11 = 9223372036854775808 by rw [hs1]]
    exact this
  · have hfit : m * 2 ^ z + 2 ^ z ≤ 18446744073709551616 := by
      have h1 : m * 2 ^ z < 2 ^ (64 - z) * 2 ^ z := by
        rw [← Nat.pow_add, show 64 - z + z = 64 by omega]
        exact hz2
      have h2 := Nat.lt_of_mul_lt_mul_right h1
      have h3 : (m + 1) * 2 ^ z ≤ 2 ^ (64 - z) * 2 ^ z := Nat.mul_le_mul_right _ h2
      rw [← Nat.pow_add, show 64 - z + z = 64 by omega, Nat.add_mul, Nat.one_mul] at h3
      exact h3
    obtain ⟨p, hp⟩ : ∃ p, -l10 E = p := ⟨_, rfl⟩
    obtain ⟨c1, c2, c3, c4, _⟩ := chk_reg hE0 hE1
    rw [hp] at c1 c2 c3 c4
    obtain ⟨hi, lo, hrow⟩ := row_get (p := p) c2
    obtain ⟨s, hss⟩ : ∃ s : Nat, (s : Int) = z - E - l2 p - 3 := ⟨(z - E - l2 p - 3).toNat, by omega⟩
    obtain ⟨a1, a2, a3, hpos, a4, a5⟩ := reg_ans (s := s) h0 hr (by rw [hm, hE]; exact hs) hm hE hp hz11 hfit hrow hss
    obtain ⟨y, hy⟩ : ∃ y, 2 ^ (z - 1) = y := ⟨_, rfl⟩
    have hzy : 2 ^ z = 2 * y := by rw [← hy, show z = (z - 1) + 1 by omega, Nat.pow_succ, Nat.mul_comm, show z - 1 + 1 - 1 = z - 1 by omega]
    have hy0 : 0 < y := by rw [← hy]; exact Nat.two_pow_pos _
    have hmm : m * 2 ^ z = 2 * m * y := by rw [hzy]; grind
    rw [hy] at a1 a2 a3 hpos a4 a5
    rw [hmm] at hz1 hz2 hfit ⊢
    rw [hzy] at hfit
    have hmn : (2 * m - 1) * y + y = 2 * m * y := by
      obtain ⟨k, rfl⟩ : ∃ k, m = k + 1 := ⟨m - 1, by omega⟩
      rw [show 2 * (k + 1) - 1 = 2 * k + 1 by omega, show 2 * (k + 1) = 2 * k + 1 + 1 by omega, Nat.add_mul (2 * k + 1) 1 y]
      omega
    have hmx : (2 * m + 1) * y = 2 * m * y + y := by rw [Nat.add_mul, Nat.one_mul]
    obtain ⟨mn, hmne⟩ : ∃ x, (2 * m - 1) * y = x := ⟨_, rfl⟩
    obtain ⟨mx, hmxe⟩ : ∃ x, (2 * m + 1) * y = x := ⟨_, rfl⟩
    obtain ⟨mm, hmme⟩ : ∃ x, 2 * m * y = x := ⟨_, rfl⟩
    rw [hmne] at a1 hpos a5 hmn
    rw [hmxe] at a2 a4 a5 hmx
    rw [hmme] at a3 a5 hmn hmx hz1 hz2 hfit ⊢
    have hb0 : (mn < 18446744073709551616 ∧ 2 ≤ mn) ∧ (mx < 18446744073709551616 ∧ 2 ≤ mx) ∧ (mm < 18446744073709551616 ∧ 2 ≤ mm) := by omega
    by_cases hreg : 4503599627370496 ≤ m
    · have hz := hz11' hreg
      subst hz
      have hy1024 : y = 1024 := hy.symm
      subst hy1024
      have := short_b r mm mn mx (rowAt p) hi lo s _ _ _ _ _ _ (decide (r % 2 = 0)) _ (E - 11) p (l2 p) w rfl hb0.1 hb0.2.1 hb0.2.2 (by unfold rowAt; omega) (by unfold rowAt; omega) rfl (by omega) (by omega) (by omega) (by omega) (by omega) (by omega) hrow hT rfl rfl rfl ⟨a1, a2, a3⟩ a4 hpos rfl rfl rfl a5 (by rw [show E - 11 + 11 = E by omega]; omega) (by omega) (fun ⟨h1, h2⟩ => hs ⟨by omega, by omega⟩) (by omega) (by omega) (by rw [hodd]; omega)
      exact this
    · have hE74 := hsub (by omega)
      subst hE74
      have hz := hz12' (by omega)
      have hq : mm / 2 ^ z = m := by
        rw [← hmme, show 2 * m * y = m * 2 ^ z by rw [hzy]; grind]
        exact Nat.mul_div_cancel _ (Nat.two_pow_pos _)
      have := short_c r mm mn mx (rowAt p) hi lo s _ _ _ _ _ _ (decide (r % 2 = 0)) _ (-1074 - z) p (l2 p) w rfl hb0.1 hb0.2.1 hb0.2.2 (by unfold rowAt; omega) (by unfold rowAt; omega) rfl (by omega) (by omega) (by omega) (by omega) (by omega) (by omega) hrow hT rfl rfl rfl ⟨a1, a2, a3⟩ a4 hpos rfl rfl rfl a5 z hz (by omega) rfl (by omega) (by rw [hy]; omega) (by rw [hy]; omega) (by rw [hq, hodd])
      exact this
end Go.Proofs.YtbcolebomgcphaaGreatFmt
