/- The plain law of whole numbers below 2 to the 53; the contract of Trunc. Each lemma's conditions stand in its own statement. -/
import Derived.Test.YtmhbkilidpbenaaGreatDoorXl
namespace Go.Proofs.YtmhbkilidpbenaaGreatDoor
open Go.RowKit

set_option exponentiation.threshold 3000 in
theorem u400 : U10 big 400 = 2 * (2 ^ 1074 * T4) := by
  unfold U10 T4
  rw [big_eq]
set_option exponentiation.threshold 3000 in
/-- The shortest decimal number of a whole number is it itself, without its zeros at the end. -/
theorem whole_shr {r K c i : Nat} (h0 : 0 < r) (hr : r < 4845873199050653696) (hK : unt r = K * 2 ^ 1074) (hc : K = c * 10 ^ i) (hcc : c % 10 ≠ 0) : Shr r c i := by
  have hE : expo r ≤ 0 := by unfold expo; split <;> omega
  have hE0 := expo_ge r
  have hn := unt_next r
  have hu := unt_eq r
  have hU := u400
  have hpos := U10_pos big_pos 400
  obtain ⟨U, hUe⟩ : ∃ U, U10 big 400 = U := ⟨_, rfl⟩
  rw [hUe] at hU hpos
  have hX : xOf r = K * U := by
    unfold xOf
    rw [hK, hU]
    generalize 2 ^ 1074 = b
    grind
  have hH : 2 * hOf r ≤ 2 * xOf r + U := by
    have h2 : 2 ^ (expo r + 1074).toNat ≤ 2 ^ 1074 := Nat.pow_le_pow_right (by decide) (by omega)
    have h3 : 2 ^ (expo r + 1074).toNat * T4 ≤ 2 ^ 1074 * T4 := Nat.mul_le_mul_right _ h2
    unfold hOf xOf
    rw [hn, Nat.add_mul (mant r) 1, Nat.one_mul, ← hu, hU]
    have e : (unt r + (unt r + 2 ^ (expo r + 1074).toNat)) * T4 = 2 * unt r * T4 + 2 ^ (expo r + 1074).toNat * T4 := by grind
    rw [e]
    omega
  have hLr : xOf r + xOf r ≤ lOf r + hOf r := by
    obtain ⟨Q, hQ, ⟨m, m0, _, e1, e2, e3, _⟩ | ⟨e1, e2, e3⟩⟩ := ends r h0
    · have k1 : (2 * m - 1) * Q + Q = 2 * m * Q := by rw [← Nat.succ_mul]; congr 1; omega
      have k2 : (2 * m + 1) * Q = 2 * m * Q + Q := Nat.succ_mul _ _
      rw [e1, e2, e3]; omega
    · rw [e1, e2, e3]; omega
  obtain ⟨e1, e2, e3, e4⟩ := ends_lt r h0
  have only : ∀ y, InI (cOf r) (lOf r) (hOf r) (y * U) → y = K := by
    intro y hy
    have h1 := hy.le
    rcases Nat.lt_trichotomy y K with g | g | g
    · exfalso
      have := Nat.mul_le_mul_right U (show y + 1 ≤ K by omega)
      rw [Nat.add_mul] at this
      omega
    · exact g
    · exfalso
      have := Nat.mul_le_mul_right U (show K + 1 ≤ y by omega)
      rw [Nat.add_mul] at this
      omega
  have at_n : ∀ D n, 400 ≤ n → D * U10 big n = D * 10 ^ (n - 400) * U := by
    intro D n hn
    obtain ⟨k, rfl⟩ := Nat.exists_eq_add_of_le hn
    rw [U10_add, show 400 + k - 400 = k by omega, hUe, Nat.mul_assoc]
  have hp10 : 0 < 10 ^ i := Nat.pow_pos (by decide)
  refine ⟨by omega, ?_⟩
  rw [show ((i : Int) + 400).toNat = i + 400 by omega]
  show Sh (cOf r) (lOf r) (xOf r) (hOf r) big c (i + 400)
  refine ⟨?_, ?_, ?_⟩
  · rw [at_n c (i + 400) (by omega), show i + 400 - 400 = i by omega, ← hc, ← hX]
    exact InI.mid e2 e3
  · intro n' D' hn' hin
    rw [at_n D' n' (by omega)] at hin
    have h1 := only _ hin
    obtain ⟨k, hk⟩ : ∃ k, n' - 400 = i + 1 + k := ⟨n' - 400 - i - 1, by omega⟩
    rw [hk, hc, Nat.pow_add, Nat.pow_succ] at h1
    have h2 : D' * 10 ^ k * 10 * 10 ^ i = c * 10 ^ i := by rw [← h1]; grind
    have h3 := Nat.eq_of_mul_eq_mul_right hp10 h2
    omega
  · intro D' hin
    rw [at_n D' (i + 400) (by omega), show i + 400 - 400 = i by omega] at hin
    have h1 := only _ hin
    rw [hc] at h1
    have h3 := Nat.eq_of_mul_eq_mul_right hp10 h1
    subst h3
    exact ⟨fun g => by omega, fun g => by omega⟩
theorem decZ_zeros (c i : Nat) (h : 0 < c) : decZ (c * 10 ^ i) = decZ c ++ List.replicate i 48 := by
  induction i with
  | zero => simp
  | succ i ih =>
    have hp : 0 < c * 10 ^ i := Nat.mul_pos h (Nat.pow_pos (by decide))
    rw [List.replicate_succ', ← List.append_assoc, ← ih, Nat.pow_succ, ← Nat.mul_assoc]
    unfold decZ
    rw [if_neg (by omega), if_neg (by omega), leD_pos (by omega), List.reverse_cons, asc_append, Nat.mul_div_cancel _ (by decide), Nat.mul_mod_left]
    rfl
/-- The text of a whole number is its digits. -/
theorem whole_text {K c i : Nat} (hc : K = c * 10 ^ i) (hcc : c % 10 ≠ 0) (hK : K < 9007199254740992) : textZ c i = decZ K := by
  have h1 := ndig_zeros c i (by omega)
  rw [← hc] at h1
  have h2 := ndig_le (u := K) (k := 16) (by omega) (by omega)
  unfold textZ
  rw [decZ_length, if_pos ⟨by omega, by omega⟩, hc, decZ_zeros c i (by omega), Int.toNat_natCast]
/-- A word cut to a whole number. -/
def trK (r : Nat) : Nat := Ieee.Toward.zero.cut false (mant r <<< (expo r).toNat) (-expo r).toNat
theorem trK_le {r : Nat} (hr : r < 4845873199050653696) : trK r < 9007199254740992 := by
  have hE : expo r ≤ 0 := by unfold expo; split <;> omega
  unfold trK Ieee.Toward.cut
  rw [show (expo r).toNat = 0 by omega, Nat.shiftLeft_zero]
  have := mant_lt r
  have h2 := Nat.div_le_self (mant r) (1 <<< min (-expo r).toNat ((mant r).log2 + 2))
  show _ + 0 < _
  omega
theorem unt_fl {K : Nat} (h0 : 1 ≤ K) (h1 : K ≤ 9007199254740992) : unt (floatOfInt .f64 (K : Int)) = K * 2 ^ 1074 := by
  obtain ⟨q, f, hfl, hq, hf, hm⟩ := fl_of K h0 h1
  have hL := log2_le53 h0 h1
  rw [hfl]
  have e1 := mant_of q f (by omega) hf
  have e2 := expo_of q f (by omega) hf
  unfold unt
  rw [e1, e2]
  obtain ⟨L, hLe⟩ : ∃ L, K.log2 = L := ⟨_, rfl⟩
  rw [hLe] at hq hm hL
  rw [show ((q : Int) - 1075 + 1074).toNat = (L + 1021) + 1 by omega, Nat.pow_succ]
  have e3 : ∀ t s, t = (53 - L) + s → (4503599627370496 + f) * (2 ^ s * 2) = K * 2 ^ t := by
    intro t s ht
    rw [ht, Nat.pow_add, ← Nat.mul_assoc K, ← hm]
    generalize 2 ^ s = z
    grind
  exact e3 1074 (L + 1021) (by omega)
theorem trunc_run {P : Program} {r : Nat} (hr : r < 4845873199050653696) (w : World) : (Extern.MathFloor.toIntegral "math.archTrunc" .zero #[.float .f64 r]).run P w = .ok (.float .f64 (floatOfInt .f64 (trK r : Int))) w := by
  have ra := read_pos (r := r) (by omega)
  have hd : FloatKind.f64.decode r = .number false (mant r) (expo r) := ra
  conv =>
    lhs
    arg 2
    whnf
  rw [hd]
  show Result.ok (Value.float .f64 (Ieee.double.nearest false (trK r) 0)) w = Result.ok (Value.float .f64 (Ieee.double.nearest (decide ((trK r : Int) < 0)) (trK r : Int).natAbs 0)) w
  rw [Int.natAbs_natCast, show decide ((trK r : Int) < 0) = false by simp]
theorem conv_u64 {r : Nat} (hr : r < 4845873199050653696) (w : World) : (convert 23 22 (.float .f64 r)).run Tryz.prog w = .ok (.int .u64 (trK r : Int)) w := by
  have ra := read_pos (r := r) (by omega)
  have hd : FloatKind.f64.decode r = .number false (mant r) (expo r) := ra
  have hk := trK_le hr
  have ht : (FloatKind.f64.decode r).toInt .zero = some (trK r : Int) := by
    rw [hd]
    show some (Ieee.signed false (trK r) 0) = _
    unfold Ieee.signed
    rw [Nat.shiftLeft_zero]
    rfl
  refine run_convert_float_int (P := Tryz.prog) w 23 22 .f64 .u64 r (trK r) (by kernel_rfl) (by kernel_rfl) ?_
  unfold floatToIntVal
  rw [ht]
  have e1 : IntKind.u64.min = 0 := by decide
  have e2 : IntKind.u64.max = 18446744073709551615 := by decide
  dsimp only
  rw [e1, e2, if_pos (by omega)]
theorem ext_trunc (r : Nat) (w : World) (hr : r < 4845873199050653696) : (callFunc 32 #[.float .f64 r]).run Tryz.prog w = .ok (.value (.float .f64 (floatOfInt .f64 (trK r : Int)))) w := by
  rw [run_callFunc_extern (fn := Tryz.f32) (e := Extern.MathFloor.toIntegral "math.archTrunc" .zero) Tryz.func32 (by kernel_rfl) (by kernel_rfl) (by kernel_rfl) (by kernel_rfl), trunc_run hr w]
  rfl
end Go.Proofs.YtmhbkilidpbenaaGreatDoor
