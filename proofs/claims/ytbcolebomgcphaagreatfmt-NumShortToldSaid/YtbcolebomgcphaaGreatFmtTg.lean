/- The contract of Read at a written number. Each lemma's conditions stand in its own statement. The contracts of Read at the texts of the infinite numbers and of NaN. Each lemma's conditions stand in its own statement. -/
import Derived.Test.YtbcolebomgcphaaGreatFmtTc
import Derived.Test.YtbcolebomgcphaaGreatFmtTd
namespace Go.Proofs.YtbcolebomgcphaaGreatFmt
open Go.RowKit Go.Sort

theorem full_empty {s : ByteArray} (h : 0 < s.size) : s.toList.isEmpty = false := by
  have := full_list h
  cases hl : s.toList with
  | nil => exact absurd hl this
  | cons a l => rfl
def TrIs (s : ByteArray) (w : World) (e : Ending) (w' : World) : Prop := e = .returned (.string s) ∧ Below w.heap.size w w'
set_option maxRecDepth 100000 in
set_option maxHeartbeats 1600000 in
theorem rd_num (s t : ByteArray) (f : Nat) (g : Nat → Nat) (Q : Nat → Prop) (w : World) (cT : Calls Tryz.prog 14 #[.string s] w (TrIs s w)) (hs0 : 0 < s.size) (cH : ∀ W, Calls Tryz.prog 15 #[.string s] W (HxNo W))
    (cS : ∀ W, Calls Tryz.prog 17 #[.string s] W (SgIs W f t)) (hinf : (t.toList == [73, 110, 102, 105, 110, 105, 116, 121]) = false) (ht0 : 0 < t.size) (cD : ∀ W, Calls Tryz.prog 19 #[.string t] W (DcIs W t.size))
    (hR : RdTab w) (hE : ErTab w) (cV : ∀ W, RdTab W → ErTab W → Calls Tryz.prog 20 #[.string t] W (VlIs Q W)) (hm : ∀ y, Q y → floatBits .mul .f64 f y = some (g y)) :
    Calls Tryz.prog 6 #[.string s] w (VlIs (fun z => ∃ y, Q y ∧ z = g y) w) := by
  have HR := Lib.hid hR
  have HE := Lib.hid hE
  have HM := Lib.hid hm
  have CV := Lib.hid cV
  have e1 := full_empty hs0
  have e2 := full_empty ht0
  clear hR hE hm cV
  go_enter Tryz.func6, Tryz.ntmps6
  go_wp2_with fail
  refine cT.mono ?_
  rintro e w1 ⟨rfl, b1⟩
  have B1 := Lib.hid b1
  clear cT b1
  go_wp2_with fail
  refine (cH _).mono ?_
  rintro e w1 ⟨rfl, rfl⟩
  go_wp2_with fail
  refine (cS _).mono ?_
  rintro e w2 ⟨rfl, q, rfl⟩
  have B2 := Lib.hid (Dr.below_drewN B1.out q)
  go_wp2_with fail
  refine (cD _).mono ?_
  rintro e w3 ⟨rfl, b3⟩
  have B3 := Lib.hid (B2.out.trans (b3.mono B2.out.size))
  have cV := CV.out w3 (HR.out.below B3.out (Nat.le_refl _)) (HE.out.below B3.out (Nat.le_refl _))
  clear cH cS cD b3
  go_wp2_with fail
  refine cV.mono ?_
  rintro e w4 ⟨y, rfl, hq, b4⟩
  have hy := HM.out y hq
  have rm := fun W => run_arith .mul f y (g y) hy W
  have HRes := Lib.hid (show VlIs (fun z => ∃ y, Q y ∧ z = g y) w (.returned (.float .f64 (g y))) w4 from ⟨g y, rfl, ⟨y, hq, rfl⟩, B3.out.trans (b4.mono B3.out.size)⟩)
  clear cV hq b4 hy
  go_wp2
  go_ret
  exact HRes.out
end Go.Proofs.YtbcolebomgcphaaGreatFmt

namespace Go.Proofs.YtbcolebomgcphaaGreatFmt
open Go.RowKit Go.Sort

def FlIs (w : World) (x : Nat) (e : Ending) (w' : World) : Prop := e = .returned (.float .f64 x) ∧ Below w.heap.size w w'
theorem inf_plus (w : World) : Calls Tryz.prog 18 #[.int .i64 1] w fun e w' => e = .returned (.float .f64 9218868437227405312) ∧ w' = w := by
  have hx := fun n W => ext_from 4 (.inl rfl) n W
  go_enter Tryz.func18, Tryz.ntmps18
  go_wp2
  go_ret
  exact ⟨rfl, rfl⟩
theorem inf_minus (w : World) : Calls Tryz.prog 18 #[.int .i64 (-1)] w fun e w' => e = .returned (.float .f64 18442240474082181120) ∧ w' = w := by
  have hx := fun n W => ext_from 4 (.inl rfl) n W
  go_enter Tryz.func18, Tryz.ntmps18
  go_wp2
  go_ret
  exact ⟨rfl, rfl⟩
theorem nan_call (w : World) : Calls Tryz.prog 21 #[] w fun e w' => e = .returned (.float .f64 9221120237041090561) ∧ w' = w := by
  have hx := fun n W => ext_from 4 (.inl rfl) n W
  go_enter Tryz.func21, Tryz.ntmps21
  go_wp2
  go_ret
  exact ⟨rfl, rfl⟩
theorem conv_one (w : World) : (convert 23 3 (.float .f64 4607182418800017408)).run Tryz.prog w = .ok (.int .i64 1) w :=
  run_convert_float_int (P := Tryz.prog) w 23 3 .f64 .i64 4607182418800017408 1 (by kernel_rfl) (by kernel_rfl) (by kernel_rfl)
theorem conv_mone (w : World) : (convert 23 3 (.float .f64 13830554455654793216)).run Tryz.prog w = .ok (.int .i64 (-1)) w :=
  run_convert_float_int (P := Tryz.prog) w 23 3 .f64 .i64 13830554455654793216 (-1) (by kernel_rfl) (by kernel_rfl) (by kernel_rfl)
set_option maxRecDepth 100000 in
set_option maxHeartbeats 1600000 in
theorem rd_inf (s : ByteArray) (w : World) (cT : Calls Tryz.prog 14 #[.string s] w (TrIs s w)) (hs0 : 0 < s.size) (cH : ∀ W, Calls Tryz.prog 15 #[.string s] W (HxNo W))
    (cS : ∀ W, Calls Tryz.prog 17 #[.string s] W (SgIs W 4607182418800017408 ⟨#[73, 110, 102, 105, 110, 105, 116, 121]⟩)) : Calls Tryz.prog 6 #[.string s] w (FlIs w 9218868437227405312) := by
  have e1 := full_empty hs0
  have hc := conv_one
  have h2 : ((⟨#[73, 110, 102, 105, 110, 105, 116, 121]⟩ : ByteArray).toList == [73, 110, 102, 105, 110, 105, 116, 121]) = true := by rw [ByteArray.toList_eq]; rfl
  go_enter Tryz.func6, Tryz.ntmps6
  go_wp2_with fail
  refine cT.mono ?_
  rintro e w1 ⟨rfl, b1⟩
  have B1 := Lib.hid b1
  clear cT b1
  go_wp2_with fail
  refine (cH _).mono ?_
  rintro e w1 ⟨rfl, rfl⟩
  go_wp2_with fail
  refine (cS _).mono ?_
  rintro e w2 ⟨rfl, q, rfl⟩
  have B2 := Lib.hid (Dr.below_drewN B1.out q)
  go_wp2_with fail
  refine (inf_plus _).mono ?_
  rintro e w3 ⟨rfl, rfl⟩
  go_wp2
  go_ret
  exact ⟨rfl, B2.out⟩
set_option maxRecDepth 100000 in
set_option maxHeartbeats 1600000 in
theorem rd_minf (s : ByteArray) (w : World) (cT : Calls Tryz.prog 14 #[.string s] w (TrIs s w)) (hs0 : 0 < s.size) (cH : ∀ W, Calls Tryz.prog 15 #[.string s] W (HxNo W))
    (cS : ∀ W, Calls Tryz.prog 17 #[.string s] W (SgIs W 13830554455654793216 ⟨#[73, 110, 102, 105, 110, 105, 116, 121]⟩)) : Calls Tryz.prog 6 #[.string s] w (FlIs w 18442240474082181120) := by
  have e1 := full_empty hs0
  have hc := conv_mone
  have h2 : ((⟨#[73, 110, 102, 105, 110, 105, 116, 121]⟩ : ByteArray).toList == [73, 110, 102, 105, 110, 105, 116, 121]) = true := by rw [ByteArray.toList_eq]; rfl
  go_enter Tryz.func6, Tryz.ntmps6
  go_wp2_with fail
  refine cT.mono ?_
  rintro e w1 ⟨rfl, b1⟩
  have B1 := Lib.hid b1
  clear cT b1
  go_wp2_with fail
  refine (cH _).mono ?_
  rintro e w1 ⟨rfl, rfl⟩
  go_wp2_with fail
  refine (cS _).mono ?_
  rintro e w2 ⟨rfl, q, rfl⟩
  have B2 := Lib.hid (Dr.below_drewN B1.out q)
  go_wp2_with fail
  refine (inf_minus _).mono ?_
  rintro e w3 ⟨rfl, rfl⟩
  go_wp2
  go_ret
  exact ⟨rfl, B2.out⟩
/-- decimal at NaN. -/
theorem dec_nan (w : World) : Calls Tryz.prog 19 #[.string ⟨#[78, 97, 78]⟩] w (DcIs w 0) := by
  have hmf : ∀ (fn : Fn) (first cap : Array Value) (w : World), (Instr.makeFunc fn first cap).run Tryz.prog w = .ok (.func fn first cap) w := fun _ _ _ _ => rfl
  have cr0 := (DcSt.start w ⟨#[78, 97, 78]⟩).call 0 0 0 (by decide) rfl (by decide) rfl (fun j h1 h2 => by omega) (fun _ => .inr (show 57 < 78 by decide))
  go_enter Tryz.func19, Tryz.ntmps19
  go_wp2_with fail
  refine cr0.mono ?_
  rintro e w1 ⟨rfl, hst⟩
  have S1 := Lib.hid hst
  have i1 := cell_blk hst.hi
  have s1 := cell_blk hst.hs
  have f1 := free_blk hst.hi
  clear cr0 hst
  go_wp2
  go_ret
  exact ⟨rfl, S1.out.hb⟩
set_option maxRecDepth 100000 in
set_option maxHeartbeats 1600000 in
theorem rd_nan (w : World) (cT : Calls Tryz.prog 14 #[.string ⟨#[78, 97, 78]⟩] w (TrIs ⟨#[78, 97, 78]⟩ w)) : Calls Tryz.prog 6 #[.string ⟨#[78, 97, 78]⟩] w (FlIs w 9221120237041090561) := by
  have e1 : (⟨#[78, 97, 78]⟩ : ByteArray).toList = [78, 97, 78] := ByteArray.toList_eq _
  have cH := fun W => hex_first ⟨#[78, 97, 78]⟩ W (by decide) (by decide) 78 ⟨by decide, by decide⟩ (by decide)
  have cS := fun W => signed_plain ⟨#[78, 97, 78]⟩ W (by decide) (by decide)
  have cD := dec_nan
  go_enter Tryz.func6, Tryz.ntmps6
  go_wp2_with fail
  refine cT.mono ?_
  rintro e w1 ⟨rfl, b1⟩
  have B1 := Lib.hid b1
  clear cT b1
  go_wp2_with fail
  refine (cH _).mono ?_
  rintro e w1 ⟨rfl, rfl⟩
  go_wp2_with fail
  refine (cS _).mono ?_
  rintro e w2 ⟨rfl, q, rfl⟩
  have B2 := Lib.hid (Dr.below_drewN B1.out q)
  go_wp2_with fail
  refine (cD _).mono ?_
  rintro e w3 ⟨rfl, b3⟩
  have B3 := Lib.hid (B2.out.trans (b3.mono B2.out.size))
  clear b3
  go_wp2_with fail
  refine (nan_call _).mono ?_
  rintro e w4 ⟨rfl, rfl⟩
  go_wp2
  go_ret
  exact ⟨rfl, B3.out⟩
end Go.Proofs.YtbcolebomgcphaaGreatFmt
