/- The contracts of Log10, Floor and of the reference's point. Each lemma's conditions stand in its own statement. -/
import Derived.Test.YtmhbkilidpbenaaGreatDoorYc
import Derived.Test.YtmhbkilidpbenaaGreatDoorZi
namespace Go.Proofs.YtmhbkilidpbenaaGreatDoor
open Ieee Go.RowKit
open Go.Extern

theorem cut_way (way : Toward) (neg : Bool) (n d : Nat) : way.cut neg n d ≤ n / (1 <<< min d (n.log2 + 2)) + 1 := by
  unfold Toward.cut
  dsimp only
  have : ∀ b : Bool, b.toNat ≤ 1 := by decide
  exact Nat.add_le_add_left (this _) _
set_option exponentiation.threshold 6000 in
/-- A number made whole. -/
theorem whole_le {E : Nat} {m : Nat} {e : Int} (way : Toward) (s : Bool) (h : LeP E m e) : way.cut s (m <<< e.toNat) (-e).toNat ≤ 2 ^ E + 1 := by
  obtain ⟨h0, h1⟩ := h
  have hsp : 2 ^ ((E : Int) + 5000).toNat = 2 ^ E * 2 ^ 5000 := by
    rw [show ((E : Int) + 5000).toNat = E + 5000 by omega, Nat.pow_add]
  rw [hsp] at h1
  refine Nat.le_trans (cut_way way s _ _) (Nat.add_le_add_right ?_ 1)
  rw [Nat.shiftLeft_eq, Nat.one_shiftLeft]
  rcases Int.le_total 0 e with g | g
  · rw [show (-e).toNat = 0 by omega, Nat.zero_min, Nat.pow_zero, Nat.div_one]
    rw [show (e + 5000).toNat = e.toNat + 5000 by omega, Nat.pow_add, ← Nat.mul_assoc] at h1
    exact (Nat.mul_le_mul_right_iff (Nat.two_pow_pos _)).1 h1
  · rw [show e.toNat = 0 by omega, Nat.pow_zero, Nat.mul_one]
    obtain ⟨d, hd⟩ : ∃ d, (-e).toNat = d := ⟨_, rfl⟩
    rw [hd]
    rcases Nat.le_total d (m.log2 + 2) with k | k
    · rw [Nat.min_eq_left k]
      have h2 : m ≤ 2 ^ E * 2 ^ d := by
        have h3 : m * 2 ^ (e + 5000).toNat ≤ 2 ^ E * 2 ^ d * 2 ^ (e + 5000).toNat := by
          rw [Nat.mul_assoc (2 ^ E), ← Nat.pow_add, show d + (e + 5000).toNat = 5000 by omega]
          exact h1
        exact (Nat.mul_le_mul_right_iff (Nat.two_pow_pos _)).1 h3
      exact Nat.div_le_of_le_mul (by rw [Nat.mul_comm]; exact h2)
    · rw [Nat.min_eq_right k]
      have : m < 2 ^ (m.log2 + 2) := Nat.lt_of_lt_of_le Nat.lt_log2_self (two_le.2 (by omega))
      rw [Nat.div_eq_of_lt this]
      exact Nat.zero_le _
theorem leP_int (K E : Nat) (h : K ≤ 2 ^ E) : LeP E K 0 := by
  refine ⟨by omega, ?_⟩
  rw [show ((E : Int) + 5000).toNat = E + (0 + 5000 : Int).toNat by omega, Nat.pow_add]
  exact Nat.mul_le_mul_right _ h
theorem floor_run {P : Program} {L : Nat} (h : Bd 16 L) (w : World) : ∃ F, (MathFloor.toIntegral "math.archFloor" .down #[.float .f64 L]).run P w = .ok (.float .f64 F) w ∧ Bd 17 F := by
  obtain ⟨s, m, i, ra, la, _⟩ := bd_read h (by omega) (by omega)
  have hK := whole_le (E := 16) .down s la
  obtain ⟨K, hKe⟩ : ∃ K, Toward.down.cut s (m <<< i.toNat) (-i).toNat = K := ⟨_, rfl⟩
  rw [hKe] at hK
  refine ⟨double.nearest s K 0, ?_, write_le (leP_int K 17 (by omega)) (by omega) _⟩
  have hd : FloatKind.f64.decode L = .number s m i := ra
  conv =>
    lhs
    arg 2
    whnf
  rw [hd]
  show Result.ok (Value.float .f64 (double.nearest s (Toward.down.cut s (m <<< i.toNat) (-i).toNat) 0)) w = _
  rw [hKe]
theorem toint_run {F : Nat} (h : Bd 17 F) : ∃ n : Int, floatToIntVal .f64 F .i64 = some n ∧ -200000 ≤ n ∧ n ≤ 200000 := by
  obtain ⟨s, m, i, ra, la, _⟩ := bd_read h (by omega) (by omega)
  have hK := whole_le (E := 17) .zero s la
  obtain ⟨K, hKe⟩ : ∃ K, Toward.zero.cut s (m <<< i.toNat) (-i).toNat = K := ⟨_, rfl⟩
  rw [hKe] at hK
  have hd : FloatKind.f64.decode F = .number s m i := ra
  have ht : (FloatKind.f64.decode F).toInt .zero = some (signed s K 0) := by
    rw [hd]
    show some (signed s (Toward.zero.cut s (m <<< i.toNat) (-i).toNat) 0) = _
    rw [hKe]
  have hab : (signed s K 0).natAbs ≤ 131073 := by rw [signed_abs]; omega
  obtain ⟨n, hn⟩ : ∃ n, signed s K 0 = n := ⟨_, rfl⟩
  rw [hn] at ht hab
  refine ⟨n, ?_, by omega, by omega⟩
  unfold floatToIntVal
  rw [ht]
  have e1 : IntKind.i64.min = -9223372036854775808 := by decide
  have e2 : IntKind.i64.max = 9223372036854775807 := by decide
  dsimp only
  rw [e1, e2, if_pos (by omega)]
theorem ext_log (r : Nat) (w : World) (h0 : 0 < r) (hr : r < 9218868437227405312) : ∃ L, (callFunc 141 #[.float .f64 r]).run Tryz.prog w = .ok (.value (.float .f64 L)) w ∧ Bd 16 L := by
  obtain ⟨L, hL, bL⟩ := archLog_run (P := Tryz.prog) r h0 hr w
  refine ⟨L, ?_, bL⟩
  rw [run_callFunc_extern (fn := Tryz.f141) (e := MathLog.archLog) Tryz.func141 (by kernel_rfl) (by kernel_rfl) (by kernel_rfl) (by kernel_rfl), hL]
  rfl
theorem ext_floor (L : Nat) (w : World) (h : Bd 16 L) : ∃ F, (callFunc 79 #[.float .f64 L]).run Tryz.prog w = .ok (.value (.float .f64 F)) w ∧ Bd 17 F := by
  obtain ⟨F, hF, bF⟩ := floor_run (P := Tryz.prog) h w
  refine ⟨F, ?_, bF⟩
  rw [run_callFunc_extern (fn := Tryz.f79) (e := MathFloor.toIntegral "math.archFloor" .down) Tryz.func79 (by kernel_rfl) (by kernel_rfl) (by kernel_rfl) (by kernel_rfl), hF]
  rfl
end Go.Proofs.YtmhbkilidpbenaaGreatDoor
namespace Go.Proofs.YtmhbkilidpbenaaGreatDoor
def LogBd (w : World) (e : Ending) (w' : World) : Prop := ∃ L, e = .returned (.float .f64 L) ∧ Bd 16 L ∧ w = w'
set_option maxRecDepth 100000 in
set_option maxHeartbeats 800000 in
theorem log_any (r : Nat) (w : World) (h0 : 0 < r) (hr : r < 9218868437227405312) : Calls Tryz.prog 113 #[.float .f64 r] w (LogBd w) := by
  obtain ⟨L, hx, bL⟩ := ext_log r w h0 hr
  have BL := Lib.hid bL
  clear bL h0 hr
  go_enter Tryz.func113, Tryz.ntmps113
  go_wp2
  go_ret
  exact ⟨L, rfl, BL.out, rfl⟩
end Go.Proofs.YtmhbkilidpbenaaGreatDoor
namespace Go.Proofs.YtmhbkilidpbenaaGreatDoor
theorem bd_log10 : Bd 0 4601495173785380110 := by unfold Bd wp; decide
set_option maxRecDepth 100000 in
set_option maxHeartbeats 800000 in
theorem log10s_any (r : Nat) (w : World) (h0 : 0 < r) (hr : r < 9218868437227405312) : Calls Tryz.prog 82 #[.float .f64 r] w (LogBd w) := by
  have c1 := log_any r w h0 hr
  clear h0 hr
  go_enter Tryz.func82, Tryz.ntmps82
  go_wp2_with fail
  refine c1.mono ?_
  rintro e w' ⟨L, rfl, bL, rfl⟩
  obtain ⟨c, hc, bc⟩ := bd_mul bL bd_log10 (by omega) (by omega) (by omega) (by omega) (by omega)
  have hf := fl_run .mul L 4601495173785380110 c hc w
  have BC := Lib.hid bc
  clear bc hc bL c1
  go_wp2
  go_ret
  exact ⟨c, rfl, BC.out, rfl⟩
set_option maxRecDepth 100000 in
set_option maxHeartbeats 800000 in
theorem log10_any (r : Nat) (w : World) (h0 : 0 < r) (hr : r < 9218868437227405312) : Calls Tryz.prog 59 #[.float .f64 r] w (LogBd w) := by
  have c1 := log10s_any r w h0 hr
  clear h0 hr
  go_enter Tryz.func59, Tryz.ntmps59
  go_wp2_with fail
  refine c1.mono ?_
  rintro e w' ⟨L, rfl, bL, rfl⟩
  have BC := Lib.hid bL
  clear bL c1
  go_wp2
  go_ret
  exact ⟨L, rfl, BC.out, rfl⟩
def FloorBd (w : World) (e : Ending) (w' : World) : Prop := ∃ F, e = .returned (.float .f64 F) ∧ Bd 17 F ∧ w = w'
set_option maxRecDepth 100000 in
set_option maxHeartbeats 800000 in
theorem floor_any (L : Nat) (w : World) (h : Bd 16 L) : Calls Tryz.prog 58 #[.float .f64 L] w (FloorBd w) := by
  obtain ⟨F, hx, bF⟩ := ext_floor L w h
  have BF := Lib.hid bF
  clear bF h
  go_enter Tryz.func58, Tryz.ntmps58
  go_wp2
  go_ret
  exact ⟨F, rfl, BF.out, rfl⟩
end Go.Proofs.YtmhbkilidpbenaaGreatDoor
