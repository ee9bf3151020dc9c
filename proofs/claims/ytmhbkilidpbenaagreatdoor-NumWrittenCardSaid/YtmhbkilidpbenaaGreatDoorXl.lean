/- Contracts of odd and of the reference's Odd. Each lemma's conditions stand in its own statement. -/
import Derived.Test.YtmhbkilidpbenaaGreatDoorXk
namespace Go.Proofs.YtmhbkilidpbenaaGreatDoor
open Go.RowKit

theorem neg_pos {r : Nat} (h : r < 9223372036854775808) : Op.negFloat .f64 r = 9223372036854775808 + r := by
  show r ^^^ 2 ^ 63 = _
  have h1 : 9223372036854775808 + r = 2 ^ 63 ||| r := by
    have := Nat.two_pow_add_eq_or_of_lt (i := 63) (b := r) h 1
    rw [Nat.mul_one] at this
    exact this
  rw [h1]
  apply Nat.eq_of_testBit_eq
  intro i
  rw [Nat.testBit_xor, Nat.testBit_or, Nat.testBit_two_pow]
  by_cases hi : 63 = i
  · subst hi
    rw [Nat.testBit_lt_two_pow (show r < 2 ^ 63 from h)]
    simp
  · simp [hi]
theorem neg_neg' {r : Nat} (h : r < 9223372036854775808) : Op.negFloat .f64 (9223372036854775808 + r) = r := by
  rw [← neg_pos h]
  show r ^^^ 2 ^ 63 ^^^ 2 ^ 63 = r
  rw [Nat.xor_assoc, Nat.xor_self, Nat.xor_zero]
theorem run_neg (b : Nat) (w : World) : (Op.unary .neg (.float .f64 b)).run Tryz.prog w = .ok (.float .f64 (Op.negFloat .f64 b)) w := rfl
set_option maxRecDepth 100000 in
theorem isinf_p (b : Nat) (t : Bool) (w : World) (h : (FloatKind.f64.format.order b 9218868437227405311 == some .gt) = t) : Calls Tryz.prog 20 #[.float .f64 b, .int .i64 1] w fun e w' => e = .returned (.bool t) ∧ w = w' := by
  have g := fun _ : True => h
  clear h
  go_enter Tryz.func20, Tryz.ntmps20
  go_wp2
  go_ret
  exact ⟨rfl, rfl⟩
set_option maxRecDepth 100000 in
theorem isinf_m (b c : Nat) (t : Bool) (w : World) (hc : Op.negFloat .f64 b = c) (h : (FloatKind.f64.format.order c 9218868437227405311 == some .gt) = t) : Calls Tryz.prog 20 #[.float .f64 b, .int .i64 (-1)] w fun e w' => e = .returned (.bool t) ∧ w = w' := by
  have g := fun _ : True => h
  have hn := run_neg b w
  rw [hc] at hn
  clear h hc
  go_enter Tryz.func20, Tryz.ntmps20
  go_wp2
  go_ret
  exact ⟨rfl, rfl⟩
def OddIs (w : World) (s : ByteArray) (t : Bool) (e : Ending) (w' : World) : Prop := e = .returned (.tuple #[.string s, .bool t]) ∧ w = w'
/-- What the program's odd tests of a word. -/
theorem odd_walk (b c : Nat) (t1 t2 t3 t4 : Bool) (s : ByteArray) (t : Bool) (w : World) (hc : Op.negFloat .f64 b = c) (h1 : (FloatKind.f64.format.order b b != some .eq) = t1) (h2 : (FloatKind.f64.format.order b 9218868437227405311 == some .gt) = t2)
    (h3 : (FloatKind.f64.format.order c 9218868437227405311 == some .gt) = t3) (h4 : (FloatKind.f64.format.order b 0 == some .eq) = t4)
    (hs : (s, t) = if t1 then (⟨#[78, 97, 78]⟩, true) else if t2 then (⟨#[73, 110, 102, 105, 110, 105, 116, 121]⟩, true) else if t3 then (⟨#[45, 73, 110, 102, 105, 110, 105, 116, 121]⟩, true) else if t4 then (⟨#[48]⟩, true) else (⟨#[]⟩, false)) :
    Calls Tryz.prog 7 #[.float .f64 b] w (OddIs w s t) := by
  have c1 := isinf_p b t2 w h2
  have c2 := isinf_m b c t3 w hc h3
  have g1 := fun _ : True => h1
  have g4 := fun _ : True => h4
  clear h1 h2 h3 h4 hc
  cases t1
  · cases t2
    · cases t3
      · cases t4
        · simp only [Bool.false_eq_true, if_false, Prod.mk.injEq] at hs
          obtain ⟨rfl, rfl⟩ := hs
          go_enter Tryz.func7, Tryz.ntmps7
          go_wp2_with fail
          refine c1.mono ?_
          rintro e w' ⟨rfl, rfl⟩
          go_wp2_with fail
          refine c2.mono ?_
          rintro e w' ⟨rfl, rfl⟩
          go_wp2
          go_ret2
          exact ⟨rfl, rfl⟩
        · simp only [Bool.false_eq_true, if_false, if_true, Prod.mk.injEq] at hs
          obtain ⟨rfl, rfl⟩ := hs
          go_enter Tryz.func7, Tryz.ntmps7
          go_wp2_with fail
          refine c1.mono ?_
          rintro e w' ⟨rfl, rfl⟩
          go_wp2_with fail
          refine c2.mono ?_
          rintro e w' ⟨rfl, rfl⟩
          go_wp2
          go_ret2
          exact ⟨rfl, rfl⟩
      · simp only [Bool.false_eq_true, if_false, if_true, Prod.mk.injEq] at hs
        obtain ⟨rfl, rfl⟩ := hs
        go_enter Tryz.func7, Tryz.ntmps7
        go_wp2_with fail
        refine c1.mono ?_
        rintro e w' ⟨rfl, rfl⟩
        go_wp2_with fail
        refine c2.mono ?_
        rintro e w' ⟨rfl, rfl⟩
        go_wp2
        go_ret2
        exact ⟨rfl, rfl⟩
    · simp only [Bool.false_eq_true, if_false, if_true, Prod.mk.injEq] at hs
      obtain ⟨rfl, rfl⟩ := hs
      go_enter Tryz.func7, Tryz.ntmps7
      go_wp2_with fail
      refine c1.mono ?_
      rintro e w' ⟨rfl, rfl⟩
      go_wp2
      go_ret2
      exact ⟨rfl, rfl⟩
  · simp only [if_true, Prod.mk.injEq] at hs
    obtain ⟨rfl, rfl⟩ := hs
    go_enter Tryz.func7, Tryz.ntmps7
    go_wp2
    go_ret2
    exact ⟨rfl, rfl⟩
/-- What the reference's Odd tests of a word. -/
theorem odd_ref (b : Nat) (t1 t2 t3 t4 : Bool) (s : ByteArray) (t : Bool) (w : World) (h1 : (FloatKind.f64.format.order b b != some .eq) = t1) (h4 : (FloatKind.f64.format.order b 0 == some .eq) = t4)
    (h2 : (FloatKind.f64.format.order b 9218868437227405311 == some .gt) = t2) (h3 : (FloatKind.f64.format.order b 18442240474082181119 == some .lt) = t3)
    (hs : (s, t) = if t1 then (⟨#[78, 97, 78]⟩, true) else if t4 then (⟨#[48]⟩, true) else if t2 then (⟨#[73, 110, 102, 105, 110, 105, 116, 121]⟩, true) else if t3 then (⟨#[45, 73, 110, 102, 105, 110, 105, 116, 121]⟩, true) else (⟨#[]⟩, false)) :
    Calls Tryz.prog 12 #[.float .f64 b] w (OddIs w s t) := by
  have g1 := fun _ : True => h1
  have g2 := fun _ : True => h2
  have g3 := fun _ : True => h3
  have g4 := fun _ : True => h4
  clear h1 h2 h3 h4
  cases t1 <;> cases t4 <;> cases t2 <;> cases t3 <;> simp only [Bool.false_eq_true, if_false, if_true, Prod.mk.injEq] at hs <;> obtain ⟨rfl, rfl⟩ := hs
  all_goals
    go_enter Tryz.func12, Tryz.ntmps12
    go_wp2
    go_ret2
    exact ⟨rfl, rfl⟩
end Go.Proofs.YtmhbkilidpbenaaGreatDoor
