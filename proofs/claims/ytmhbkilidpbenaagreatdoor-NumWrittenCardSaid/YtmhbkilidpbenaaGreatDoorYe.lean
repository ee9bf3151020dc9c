/- The contract of the reference's point. Each lemma's conditions stand in its own statement. -/
import Derived.Test.YtmhbkilidpbenaaGreatDoorYd
namespace Go.Proofs.YtmhbkilidpbenaaGreatDoor
open Go.RowKit

theorem sc_pw (r : Nat) (k : Int) (hr : r < 9218868437227405312) (h0 : -1000000 ≤ k) (h1 : k ≤ 1000000) : ∃ M, M ≤ 3000000 ∧ (scP r k : Int) < pw M ∧ (scQ r k : Int) < pw M := by
  have hx0 := expo_ge r
  have hx1 := expo_le hr
  exact ⟨(4 + ((expo r).toNat + 1) + (k.toNat + 1)) + (((-expo r).toNat + 1) + ((-k).toNat + 1)), by omega, lt_pw_of (scP_lt r k) (by omega), lt_pw_of (scQ_lt r k) (by omega)⟩
/-- Scaled, and how the two compare, in one contract each. -/
def ScIs (w : World) (r : Nat) (k : Int) (e : Ending) (w' : World) : Prop := ∃ v u, e = .returned (.tuple #[v, u]) ∧ IsN w' v (scP r k) ∧ IsN w' u (scQ r k) ∧ Below w.heap.size w w'
theorem sc_any (r : Nat) (k : Int) (hr : r < 9218868437227405312) (h0 : -1000000 ≤ k) (h1 : k ≤ 1000000) (w : World) : Calls Tryz.prog 36 #[.float .f64 r, .int .i64 k] w (ScIs w r k) := scaled_any r k w hr (by omega) (by omega)
def PtIs (w : World) (r : Nat) (e : Ending) (w' : World) : Prop := ∃ n : Int, e = .returned (.int .i64 n) ∧ PointIs r n ∧ -330 ≤ n ∧ n ≤ 330 ∧ Below w.heap.size w w'
set_option maxRecDepth 100000 in
set_option maxHeartbeats 3200000 in
theorem point_any (r : Nat) (w : World) (h0 : 0 < r) (hr : r < 9218868437227405312) : Calls Tryz.prog 35 #[.float .f64 r] w (PtIs w r) := by
  have c1 := log10_any r w h0 hr
  have HR := Lib.hid hr
  clear hr
  go_enter Tryz.func35, Tryz.ntmps35
  go_wp2_with fail
  refine c1.mono ?_
  rintro e w' ⟨L, rfl, bL, rfl⟩
  have c2 := floor_any L w bL
  clear c1 bL
  go_wp2_with fail
  refine c2.mono ?_
  rintro e w' ⟨F, rfl, bF, rfl⟩
  obtain ⟨n, hn, n0, n1⟩ := toint_run bF
  have hcv := run_convert_float_int (P := Tryz.prog) w 23 3 .f64 .i64 F n (by kernel_rfl) (by kernel_rfl) hn
  clear c2 bF hn
  go_wp2
  go_loopw [3, 4, 5, 6] (fun nv _ _ _ wr => ∃ N : Int, nv = .int .i64 N ∧ -200001 ≤ N ∧ N ≤ 200001 ∧ Below w.heap.size w wr) (fun nv _ _ _ _ => (200002 - intOf nv).toNat)
  case atStart => exact ⟨n - 1, by go_num, by omega, by omega, Below.refl _ _⟩
  case round =>
    obtain ⟨N, rfl, N0, N1, hbl⟩ := hrel
    obtain ⟨M, hM, hP, hQ⟩ := sc_pw r (-N) HR.out (by omega) (by omega)
    have HP := Lib.hid hP
    have HQ := Lib.hid hQ
    clear hP hQ hcv
    go_wp2_with fail
    refine (sc_any r (-N) HR.out (by omega) (by omega) wr).mono ?_
    rintro e1 w1 ⟨v, u, rfl, iv, iu, b1⟩
    have hbl1 := hbl.trans (b1.mono hbl.size)
    clear b1 hbl
    go_wp2_with fail
    refine (cmp_any _ _ _ _ M w1 HP.out HQ.out (by omega) iv iu).mono ?_
    rintro e2 w2 ⟨c, rfl, ⟨hc1, hc2⟩, q, rfl⟩
    have hbl2 : Below w.heap.size w (w1.drewN q) := below_drewN hbl1 q
    by_cases hc : c < 0
    · have HLT := Lib.hid (hc1.1 hc)
      have hct : decide (c < 0) = true := decide_eq_true hc
      clear hbl1 iv iu hc1 hc2
      obtain ⟨wz, hwz⟩ : ∃ wz, w1.drewN q = wz := ⟨_, rfl⟩
      rw [hwz] at hbl2 ⊢
      clear hwz
      go_wp2
      go_loopw [3, 7, 8, 9] (fun nv _ _ _ wr => ∃ N : Int, nv = .int .i64 N ∧ -331 ≤ N ∧ N ≤ 200001 ∧ scP r (-N) < scQ r (-N) ∧ Below w.heap.size w wr) (fun nv _ _ _ _ => (intOf nv + 332).toNat)
      case atStart => exact ⟨N, rfl, by have := point_lo h0 HLT.out; omega, by omega, HLT.out, hbl2⟩
      case round =>
        obtain ⟨K, rfl, K0, K1, hlt, hbl3⟩ := hrel
        have K2 := point_lo h0 hlt
        have HLT2 := Lib.hid hlt
        obtain ⟨M', hM', hP', hQ'⟩ := sc_pw r (1 - K) HR.out (by omega) (by omega)
        have HP' := Lib.hid hP'
        have HQ' := Lib.hid hQ'
        clear hP' hQ' hlt
        go_wp2_with fail
        refine (sc_any r (1 - K) HR.out (by omega) (by omega) _).mono ?_
        rintro e3 w3 ⟨v, u, rfl, iv, iu, b3⟩
        have hbl4 := hbl3.trans (b3.mono hbl3.size)
        clear b3 hbl3
        go_wp2_with fail
        refine (cmp_any _ _ _ _ M' w3 HP'.out HQ'.out (by omega) iv iu).mono ?_
        rintro e4 w4 ⟨d, rfl, ⟨hd1, hd2⟩, q', rfl⟩
        have hbl5 : Below w.heap.size w (w3.drewN q') := below_drewN hbl4 q'
        by_cases hd : 0 ≤ d
        · have hge : scQ r (1 - K) ≤ scP r (1 - K) := by
            rcases Nat.lt_or_ge (scP r (1 - K)) (scQ r (1 - K)) with g | g
            · have := hd1.2 g; omega
            · exact g
          have HGE := Lib.hid hge
          have hdt : decide (0 ≤ d) = true := decide_eq_true hd
          clear hd1 hd2 hge
          go_wp2
          go_ret
          exact ⟨K, rfl, ⟨HLT2.out, HGE.out⟩, by omega, point_hi HR.out HGE.out, hbl5⟩
        · have HGE := Lib.hid (hd1.1 (by omega))
          have hdt : decide (0 ≤ d) = false := decide_eq_false hd
          clear hd1 hd2
          go_wp2
          go_roundw
          case rel => exact ⟨K - 1, by go_num, by omega, by omega, by rw [show -(K - 1) = 1 - K by omega]; exact HGE.out, hbl5⟩
          case measure => simp [intOf]; omega
    · have hge : scQ r (-N) ≤ scP r (-N) := by
        rcases Nat.lt_or_ge (scP r (-N)) (scQ r (-N)) with g | g
        · have := hc1.2 g; omega
        · exact g
      have hN2 : N + 1 ≤ 330 := point_hi (n := N + 1) HR.out (by rw [show 1 - (N + 1) = -N by omega]; exact hge)
      have hct : decide (c < 0) = false := decide_eq_false hc
      clear hbl1 iv iu hc1 hc2 hge
      go_wp2
      go_roundw
      case rel => exact ⟨N + 1, by go_num, by omega, by omega, hbl2⟩
      case measure => simp [intOf]; omega
end Go.Proofs.YtmhbkilidpbenaaGreatDoor
