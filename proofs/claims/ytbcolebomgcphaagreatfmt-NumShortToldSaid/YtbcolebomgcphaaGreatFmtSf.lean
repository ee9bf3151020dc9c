/- The contract of atof64, from those of special and readFloat. Each lemma's conditions stand in its own statement. -/
import Derived.Test.YtbcolebomgcphaaGreatFmtSd
namespace Go.Proofs.YtbcolebomgcphaaGreatFmt
open Go.RowKit

/-- What reading asks of memory. -/
def RdTab (w : World) : Prop := PowTab w ∧ FpTab w ∧ w.cell? ⟨3, 0, none⟩ = some (.bool true)
theorem RdTab.below {w w' : World} {B : Nat} (h : RdTab w) (hb : Below B w w') (hB : w.heap.size ≤ B) : RdTab w' := by
  obtain ⟨h1, h2, h3⟩ := h
  exact ⟨pow_below h1 hb hB, h2.below hb hB, (hb.cell (p := ⟨3, 0, none⟩) (by have := h2.1; show 3 < B; omega)).trans h3⟩
/-- What atof64 answers. -/
def AtIs (w : World) (M : Nat) (E : Int) (n : Nat) (e : Ending) (w' : World) : Prop :=
  ∃ (x : Nat) (er : Value), e = .returned (.tuple #[.float .f64 x, .int .i64 n, er]) ∧ (er = .nilIface ∨ er = .iface 119 (.int .i64 1)) ∧ PsIs M E x ∧ x ≤ 9218868437227405312 ∧ Below w.heap.size w w'
def SpNo (w : World) (e : Ending) (w' : World) : Prop := e = .returned (.tuple #[.float .f64 0, .int .i64 0, .bool false]) ∧ Below w.heap.size w w'
def RfIs (w : World) (M : Nat) (E : Int) (n : Nat) (e : Ending) (w' : World) : Prop :=
  e = .returned (.tuple #[.int .u64 M, .int .i64 E, .bool false, .bool false, .bool false, .int .i64 n, .bool true]) ∧ Below w.heap.size w w'
set_option maxRecDepth 100000 in
theorem bool2u_n (w : World) : Calls Tryz.prog 194 #[.bool false] w fun e w' => e = .returned (.int .u64 0) ∧ w' = w := by
  go_enter Tryz.func194, Tryz.ntmps194
  go_wp2
  go_ret
  exact ⟨rfl, rfl⟩
theorem or00 : bits .or .u64 0 0 = 0 := by decide
theorem or0i : bits .or .u64 0 9218868437227405312 = 9218868437227405312 := by decide
set_option maxRecDepth 100000 in
set_option maxHeartbeats 3200000 in
theorem atof64_any (s : ByteArray) (M n : Nat) (E : Int) (w : World) (h0 : 0 < M) (hM : M < 10000000000000000000) (hE0 : -100000 ≤ E) (hE1 : E ≤ 100000) (hb : M < 144115188075855872 ∨ (0 ≤ E ∧ E ≤ 4)) (hT : RdTab w)
    (cs : Calls Tryz.prog 185 #[.string s] w (SpNo w)) (cr : ∀ W, Calls Tryz.prog 186 #[.string s] W (RfIs W M E n)) :
    Calls Tryz.prog 150 #[.string s] w (AtIs w M E n) := by
  have hx := fun n W => ext_from 195 (.inr rfl) n W
  have o1 := or00
  have o2 := or0i
  have hMne : ((M : Int) == 0) = false := by simp; omega
  have HT := Lib.hid hT
  clear hT
  go_enter Tryz.func150, Tryz.ntmps150
  go_wp2_with fail
  refine cs.mono ?_
  rintro e w1 ⟨rfl, b1⟩
  have HT1 := Lib.hid (HT.out.below b1 (Nat.le_refl _))
  have B1 := Lib.hid b1
  clear cs b1
  go_wp2_with fail
  refine (cr w1).mono ?_
  rintro e w2 ⟨rfl, b2⟩
  have HT2 := Lib.hid (HT1.out.below b2 (Nat.le_refl _))
  have B2 := Lib.hid (B1.out.trans (b2.mono B1.out.size))
  clear cr b2
  have k3 := HT2.out.2.2
  go_wp2_with fail
  refine (bool2u_n _).mono ?_
  rintro e w3 ⟨rfl, rfl⟩
  rcases Int.lt_or_le 310 E with g1 | g1
  · have HR := Lib.hid (show AtIs w M E n (.returned (.tuple #[.float .f64 9218868437227405312, .int .i64 n, .iface 119 (.int .i64 1)])) w3 from ⟨_, _, rfl, .inr rfl, PsIs.high h0 g1 (Nat.le_refl _), Nat.le_refl _, B2.out⟩)
    go_wp2
    exact bodyPost_ret (v := .tuple #[.float .f64 9218868437227405312, .int .i64 n, .iface 119 (.int .i64 1)]) (by simp [results, Tryz.results150, go_sem]) rfl HR.out
  rcases Int.lt_or_le E (-345) with g2 | g2
  · have HR := Lib.hid (show AtIs w M E n (.returned (.tuple #[.float .f64 0, .int .i64 n, .nilIface])) w3 from ⟨_, _, rfl, .inl rfl, PsIs.low hM g2, by omega, B2.out⟩)
    go_wp2
    exact bodyPost_ret (v := .tuple #[.float .f64 0, .int .i64 n, .nilIface]) (by simp [results, Tryz.results150, go_sem]) rfl HR.out
  have ce := exact_any M E w3 h0 (by omega) HT2.out.2.1
  have cp := fun W hW => parse_f64 M E W h0 (by omega) hb g2 g1 hW
  go_wp2_with fail
  refine ce.mono ?_
  rintro e w4 ⟨x, ok, rfl, hok, rfl⟩
  clear ce
  cases ok
  · clear hok
    go_wp2_with fail
    refine (cp _ HT2.out.1).mono ?_
    rintro e w5 ⟨x5, er, rfl, her, hps, hle, b5⟩
    have HR := Lib.hid (show AtIs w M E n (.returned (.tuple #[.float .f64 x5, .int .i64 n, er])) w5 from ⟨_, _, rfl, her, hps, hle, B2.out.trans (b5.mono B2.out.size)⟩)
    clear her hps hle b5 cp
    go_wp2
    exact bodyPost_ret (v := .tuple #[.float .f64 x5, .int .i64 n, er]) (by simp [results, Tryz.results150, go_sem]) rfl HR.out
  · have HR := Lib.hid (show AtIs w M E n (.returned (.tuple #[.float .f64 x, .int .i64 n, .nilIface])) w4 from ⟨_, _, rfl, .inl rfl, (hok rfl).1, (hok rfl).2, B2.out⟩)
    clear hok cp
    go_wp2
    exact bodyPost_ret (v := .tuple #[.float .f64 x, .int .i64 n, .nilIface]) (by simp [results, Tryz.results150, go_sem]) rfl HR.out
set_option maxRecDepth 100000 in
set_option maxHeartbeats 3200000 in
theorem atof64_zero (s : ByteArray) (n : Nat) (w : World) (hT : RdTab w) (cs : Calls Tryz.prog 185 #[.string s] w (SpNo w)) (cr : ∀ W, Calls Tryz.prog 186 #[.string s] W (RfIs W 0 0 n)) :
    Calls Tryz.prog 150 #[.string s] w fun e w' => e = .returned (.tuple #[.float .f64 0, .int .i64 n, .nilIface]) ∧ Below w.heap.size w w' := by
  have hx := fun n W => ext_from 195 (.inr rfl) n W
  have o1 := or00
  have HT := Lib.hid hT
  clear hT
  go_enter Tryz.func150, Tryz.ntmps150
  go_wp2_with fail
  refine cs.mono ?_
  rintro e w1 ⟨rfl, b1⟩
  have HT1 := Lib.hid (HT.out.below b1 (Nat.le_refl _))
  have B1 := Lib.hid b1
  clear cs b1
  go_wp2_with fail
  refine (cr w1).mono ?_
  rintro e w2 ⟨rfl, b2⟩
  have HT2 := Lib.hid (HT1.out.below b2 (Nat.le_refl _))
  have B2 := Lib.hid (B1.out.trans (b2.mono B1.out.size))
  clear cr b2
  have k3 := HT2.out.2.2
  go_wp2_with fail
  refine (bool2u_n _).mono ?_
  rintro e w3 ⟨rfl, rfl⟩
  go_wp2
  exact bodyPost_ret (v := .tuple #[.float .f64 0, .int .i64 n, .nilIface]) (by simp [results, Tryz.results150, go_sem]) rfl ⟨rfl, B2.out⟩
end Go.Proofs.YtbcolebomgcphaaGreatFmt
