/- The contract of the reference's decimal. Each lemma's conditions stand in its own statement. -/
import Derived.Test.YtmhbkilidpbenaaGreatDoorY
namespace Go.Proofs.YtmhbkilidpbenaaGreatDoor
open Go.RowKit

theorem ten_pow (X : Int) (hX : X ≤ 1000000) (hX0 : -1000000 ≤ X) : ∀ W, Calls Tryz.prog 61 #[.int .u64 10, .int .i64 X] W fun ee w' => ∃ v, ee = .returned v ∧ IsN w' v (10 ^ X.toNat) ∧ Below W.heap.size W w' :=
  fun W => power_any 10 X W (by omega) (by omega) (by omega)
theorem nat_one : ∀ W, Calls Tryz.prog 14 #[.int .u64 1] W fun ee w' => ∃ v, ee = .returned v ∧ IsN w' v 1 ∧ Below W.heap.size W w' :=
  fun W => nat_any 1 W (by omega)
def RatioAt (w : World) (p q : Nat) (e : Ending) (w' : World) : Prop := ∃ R : Nat, e = .returned (.float .f64 R) ∧ RatioIs R p q ∧ Below w.heap.size w w'
set_option maxHeartbeats 1600000 in
set_option maxRecDepth 100000 in
theorem decimal_any (vs : Value) (s m : Nat) (k : Int) (w : World) (hs0 : 0 < s) (hs : (s : Int) < pw m) (hm : m ≤ 1000) (hk0 : -100000 ≤ k) (hk1 : k ≤ 100000) (ha : IsN w vs s) :
    Calls Tryz.prog 38 #[vs, .int .i64 k] w (RatioAt w (s * 10 ^ k.toNat) (10 ^ (-k).toNat)) := by
  by_cases h0 : 0 ≤ k
  · obtain ⟨T, hT⟩ : ∃ T, 10 ^ k.toNat = T := ⟨_, rfl⟩
    have hTp : 0 < T := by rw [← hT]; exact Nat.pow_pos (by decide)
    have hTb : (T : Int) < pw (k.toNat + 1) := by rw [← hT]; exact pow_lt_pw 10 _ (by decide)
    have h1 : 10 ^ (-k).toNat = 1 := by rw [show (-k).toNat = 0 by omega, Nat.pow_zero]
    have c1 := ten_pow k (by omega) (by omega) w
    rw [hT] at c1 ⊢
    rw [h1]
    have HTb := Lib.hid hTb
    have HS := Lib.hid hs
    clear hT hTb h1 hs
    go_enter Tryz.func38, Tryz.ntmps38
    go_wp2_with fail
    refine c1.mono ?_
    rintro e1 w1 ⟨v1, rfl, i1, b1⟩
    have ha1 := ha.below b1
    clear c1
    go_wp2_with fail
    refine (mul_any _ _ s T m (k.toNat + 1) w1 HS.out HTb.out (by omega) (by omega) ha1 i1).mono ?_
    rintro e2 w2 ⟨v2, rfl, i2, b2⟩
    have b02 := b1.trans (b2.mono b1.size)
    clear b1 b2 i1 ha1 ha
    go_wp2_with fail
    refine (nat_one w2).mono ?_
    rintro e3 w3 ⟨v3, rfl, i3, b3⟩
    have i23 := i2.below b3
    have b03 := b02.trans (b3.mono b02.size)
    clear b02 b3 i2
    go_wp2_with fail
    refine (ratio_any _ _ (s * T) 1 (m + (k.toNat + 1)) w3 (Nat.mul_pos hs0 hTp) (by omega) (mul_lt_pw HS.out HTb.out) (lt_pw_of (m := 1) (by show (1 : Int) < 65536; omega) (by omega)) (by omega) i23 i3).mono ?_
    rintro e4 w4 ⟨R, rfl, hR, b4⟩
    have b04 := b03.trans (b4.mono b03.size)
    go_wp2
    go_ret
    exact ⟨R, rfl, hR, b04⟩
  · obtain ⟨T, hT⟩ : ∃ T, 10 ^ (-k).toNat = T := ⟨_, rfl⟩
    have hTp : 0 < T := by rw [← hT]; exact Nat.pow_pos (by decide)
    have hTb : (T : Int) < pw ((-k).toNat + 1) := by rw [← hT]; exact pow_lt_pw 10 _ (by decide)
    have h1 : s * 10 ^ k.toNat = s := by rw [show k.toNat = 0 by omega, Nat.pow_zero, Nat.mul_one]
    have c1 := ten_pow (-k) (by omega) (by omega) w
    rw [hT] at c1 ⊢
    rw [h1]
    have HTb := Lib.hid hTb
    have HS := Lib.hid hs
    clear hT hTb h1 hs
    go_enter Tryz.func38, Tryz.ntmps38
    go_wp2_with fail
    refine c1.mono ?_
    rintro e1 w1 ⟨v1, rfl, i1, b1⟩
    have ha1 := ha.below b1
    clear c1 ha
    go_wp2_with fail
    refine (ratio_any _ _ s T (m + ((-k).toNat + 1)) w1 hs0 hTp (lt_pw_of HS.out (by omega)) (lt_pw_of HTb.out (by omega)) (by omega) ha1 i1).mono ?_
    rintro e4 w4 ⟨R, rfl, hR, b4⟩
    have b04 := b1.trans (b4.mono b1.size)
    go_wp2
    go_ret
    exact ⟨R, rfl, hR, b04⟩
end Go.Proofs.YtmhbkilidpbenaaGreatDoor
