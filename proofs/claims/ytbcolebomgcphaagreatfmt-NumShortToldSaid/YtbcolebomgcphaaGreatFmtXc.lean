/- Bounds by powers of two of what sums, products and quotients of floats give. Each lemma's conditions stand in its own statement. Crude bounds of what Log10 and Floor give. Each lemma's conditions stand in its own statement. The contract of the reference's Fewest. Each lemma's conditions stand in its own statement. The contract of setDigits. Each lemma's conditions stand in its own statement. -/
import Derived.Test.YtbcolebomgcphaaGreatFmtA
import Derived.Test.YtbcolebomgcphaaGreatFmtZg
import Derived.Test.YtbcolebomgcphaaGreatFmtXb
namespace Go.Proofs.YtbcolebomgcphaaGreatFmt
open Ieee

/-- The word of 2 to the E. -/
def wp (E : Int) : Nat := (E + 1023).toNat * 4503599627370496
/-- b is a number, not above 2 to the E in size. -/
def Bd (E : Int) (b : Nat) : Prop := b % 9223372036854775808 ≤ wp E
theorem read_num {b : Nat} (h : b % 9223372036854775808 < 9218868437227405312) :
    double.read b = .number (b / 9223372036854775808 % 2 == 1) (mant (b % 9223372036854775808)) (expo (b % 9223372036854775808)) := by
  have := read_pos h
  unfold Format.read at this ⊢
  have e1 : double.signWeight = 9223372036854775808 := by decide
  have e2 : double.binade = 4503599627370496 := by decide
  have e3 : double.infRung = 9218868437227405312 := by decide
  have e4 : double.leastPlace = -1074 := by decide
  simp only [e1, e2, e3, e4, Nat.mod_mod] at this ⊢
  obtain ⟨r, hr⟩ : ∃ r, b % 9223372036854775808 = r := ⟨_, rfl⟩
  rw [hr] at this h ⊢
  by_cases g : r < 4503599627370496
  · rw [if_pos g] at this ⊢
    injection this with _ h2 h3
    rw [← h2, ← h3]
  · rw [if_neg g, if_pos h] at this ⊢
    injection this with _ h2 h3
    rw [h2, h3]
end Go.Proofs.YtbcolebomgcphaaGreatFmt

namespace Go.Proofs.YtbcolebomgcphaaGreatFmt
open Ieee Go.RowKit
open Go.Extern

theorem Bd.mono {E F : Int} {b : Nat} (h : Bd E b) (hEF : E ≤ F) : Bd F b := by
  unfold Bd at *
  have : wp E ≤ wp F := by
    unfold wp
    exact Nat.mul_le_mul_right _ (by omega)
  exact Nat.le_trans h this
end Go.Proofs.YtbcolebomgcphaaGreatFmt

namespace Go.Proofs.YtbcolebomgcphaaGreatFmt
open Go.RowKit

theorem leD_ge (x k : Nat) (h : 10 ^ k ≤ x) : k < (leD x).length := by
  induction k generalizing x with
  | zero => rw [Nat.pow_zero] at h; rw [leD_pos (by omega), List.length_cons]; omega
  | succ k ih =>
    have h1 : 0 < x := Nat.lt_of_lt_of_le (Nat.pow_pos (by decide)) h
    rw [leD_pos h1, List.length_cons]
    have := ih (x / 10) (by rw [Nat.pow_succ] at h; omega)
    omega
theorem str_size (l : List Int) : (strOfNums l).size = l.length := by simp [strOfNums, ByteArray.size]
/-- What Fewest answers: the digits of the shortest number and where its point stands. -/
def FewIs (w : World) (r : Nat) (e : Ending) (w' : World) : Prop :=
  ∃ (D : Nat) (j : Int), Shr r D j ∧ e = .returned (.tuple #[.string (strOfNums (decZ D)), .int .i64 (j + (decZ D).length)]) ∧ 0 < D ∧ D < 1000000000000000000 ∧ -400 ≤ j ∧ j ≤ 400 ∧ Below w.heap.size w w'
end Go.Proofs.YtbcolebomgcphaaGreatFmt

namespace Go.Proofs.YtbcolebomgcphaaGreatFmt
open Go.RowKit Go.Sort

theorem ndig_zeros (cc i : Nat) (h : 0 < cc) : Lib.nDigits (cc * 10 ^ i) = Lib.nDigits cc + i := by
  induction i with
  | zero => simp
  | succ i ih =>
    have hp : 0 < 10 ^ i := Nat.pow_pos (by decide)
    have h1 : 1 * 10 ^ i ≤ cc * 10 ^ i := Nat.mul_le_mul_right _ h
    rw [Nat.pow_succ, ← Nat.mul_assoc, Lib.nDigits_big (by omega), Nat.mul_div_cancel _ (by decide), ih]
    omega
theorem tail_zero {cc i t : Nat} (ht : t < i) : cc * 10 ^ i / 10 ^ t % 10 = 0 := by
  obtain ⟨k, rfl⟩ : ∃ k, i = t + (k + 1) := ⟨i - t - 1, by omega⟩
  rw [Nat.pow_add, ← Nat.mul_assoc, Nat.mul_right_comm, Nat.mul_div_cancel _ (Nat.pow_pos (by decide)), Nat.pow_succ, ← Nat.mul_assoc]
  omega
theorem tail_top (cc i m : Nat) : cc * 10 ^ i / 10 ^ (i + m) = cc / 10 ^ m := by
  rw [Nat.pow_add, ← Nat.div_div_eq_div_mul, Nat.mul_div_cancel _ (Nat.pow_pos (by decide))]
theorem dg_nat (u j : Nat) : ((Lib.dg u j).toNat : Int) = ((u / 10 ^ j % 10 : Nat) : Int) + 48 := by
  unfold Lib.dg
  have : (UInt8.ofNat (48 + u / 10 ^ j % 10)).toNat = 48 + u / 10 ^ j % 10 := by
    rw [UInt8.toNat_ofNat', Nat.mod_eq_of_lt]
    omega
  rw [this]
  omega
/-- The two spellings of a whole number's digits. -/
theorem decZ_dec (u : Nat) : decZ u = (Lib.decDigits u).map fun b => (b.toNat : Int) := by
  induction u using Nat.strongRecOn with
  | _ u ih =>
    by_cases h : u < 10
    · rw [Lib.decDigits, dif_pos h]
      unfold decZ
      have h8 : (UInt8.ofNat (48 + u)).toNat = 48 + u := by rw [UInt8.toNat_ofNat', Nat.mod_eq_of_lt]; omega
      by_cases h0 : u = 0
      · subst h0; rfl
      · rw [if_neg h0, leD_pos (by omega), show u / 10 = 0 by omega, leD_zero]
        simp only [List.map_cons, List.map_nil, h8, asc, List.reverse_cons, List.reverse_nil, List.nil_append]
        rw [Nat.mod_eq_of_lt h]
        congr 1
        omega
    · rw [Lib.decDigits, dif_neg h, List.map_append, ← ih (u / 10) (by omega)]
      unfold decZ
      rw [if_neg (by omega), if_neg (by omega), leD_pos (by omega), List.reverse_cons, asc_append]
      congr 1
      have h8 : (UInt8.ofNat (48 + u % 10)).toNat = 48 + u % 10 := by rw [UInt8.toNat_ofNat', Nat.mod_eq_of_lt]; omega
      simp only [List.map_cons, List.map_nil, h8, asc]
      congr 1
      omega
theorem decZ_length (u : Nat) : (decZ u).length = Lib.nDigits u := by rw [decZ_dec, List.length_map, Lib.decDigits_length]
theorem ndig_le {u k : Nat} (h : u < 10 ^ k) (hk : 0 < k) : Lib.nDigits u ≤ k := by
  rw [← decZ_length]
  unfold decZ
  split
  · exact hk
  · unfold asc
    rw [List.length_map, List.length_reverse]
    exact leD_len u k h
theorem decZ_at (u j : Nat) (h : j < Lib.nDigits u) : (decZ u).getD j 0 = ((Lib.dg u (Lib.nDigits u - 1 - j)).toNat : Int) := by
  have hl : j < (Lib.decDigits u).length := by rw [Lib.decDigits_length]; exact h
  rw [decZ_dec, List.getD_eq_getElem?_getD, List.getElem?_map, List.getElem?_eq_getElem hl]
  simp only [Lib.decDigits_eq u, List.getElem_map, List.getElem_range, Option.map_some, Option.getD_some]
theorem below_putRow {α : Type} [Inhabited α] (enc : α → Value) (w : World) (g off : Nat) (d : Array α) : Below g w (putRow enc w g off d) := by
  refine ⟨rfl, rfl, rfl, by rw [size_putRow]; exact Nat.le_refl _, fun i hi => ?_⟩
  unfold putRow mapBlock
  simp only [Array.getElem?_modify]
  rw [if_neg (by omega)]
/-- Block g's first cells are these bytes. -/
def DigAt (w : World) (g : Nat) (l : List Int) : Prop := ∀ j, j < l.length → w.cell? ⟨g, j, none⟩ = some (.int .u8 (l.getD j 0))
def SetIs (w : World) (g d cc : Nat) (p : Int) (e : Ending) (w' : World) : Prop := e = .returned (.tuple #[.int .i64 (Lib.nDigits d + p), .int .i64 (Lib.nDigits cc)]) ∧ DigAt w' g (decZ cc) ∧ Below g w w'
set_option maxRecDepth 100000 in
set_option maxHeartbeats 1600000 in
theorem setdigits_any (g d cc i : Nat) (p : Int) (w : World) (hd : d = cc * 10 ^ i) (hcc : cc % 10 ≠ 0) (hdb : d < 1000000000000000000) (hp0 : -10000 ≤ p) (hp1 : p ≤ 10000)
    (hz : ∀ j, j < 32 → w.cell? ⟨g, j, none⟩ = some (.int .u8 0) ∧ w.frozen? ⟨g, j, none⟩ = false) :
    Calls Tryz.prog 119 #[.slice (some ⟨g, 0, none⟩) 32 32, .int .u64 d, .int .i64 p, .int .i64 (Lib.nDigits d)] w (SetIs w g d cc p) := by
  have hcc0 : 0 < cc := by omega
  have hdig : ∀ t, t < i → d / 10 ^ t % 10 = 0 := fun t ht => by rw [hd]; exact tail_zero ht
  have hdt : d / 10 ^ i % 10 ≠ 0 := by
    have := tail_top cc i 0
    rw [Nat.add_zero, Nat.pow_zero, Nat.div_one] at this
    rw [hd, this]
    exact hcc
  have hnd : Lib.nDigits d = Lib.nDigits cc + i := by rw [hd]; exact ndig_zeros cc i hcc0
  have hn20 := ndig_le (u := d) (k := 18) (by omega) (by omega)
  have hnc := Lib.nDigits_pos cc
  have hnc2 := ndig_le (u := cc) (k := 18) (by
    have : 1 ≤ 10 ^ i := Nat.pow_pos (by decide)
    have : cc * 1 ≤ cc * 10 ^ i := Nat.mul_le_mul_left _ this
    omega) (by omega)
  have hlast : ∀ j, j < Lib.nDigits cc → Lib.dg d (Lib.nDigits d - 1 - j) = Lib.dg cc (Lib.nDigits cc - 1 - j) := by
    intro j hj
    unfold Lib.dg
    rw [hnd, show Lib.nDigits cc + i - 1 - j = i + (Lib.nDigits cc - 1 - j) by omega, hd, tail_top]
  have hpow := Lib.lt_pow_nDigits d
  obtain ⟨nd, hnde⟩ : ∃ n, Lib.nDigits d = n := ⟨_, rfl⟩
  have hrow : Holds (fun (b : UInt8) => Value.int .u8 (b.toNat : Int)) w g 0 (Array.replicate nd (0 : UInt8)) := by
    intro j hj
    have hj' : j < nd := by simpa using hj
    rw [getElem!_pos _ j hj]
    simp only [Array.getElem_replicate, Nat.zero_add]
    exact hz j (by omega)
  have cfmt := Tryz.internal_strconv_formatBase10 g 0 32 d (Array.replicate nd 0) w hrow (by rw [Array.size_replicate, ← hnde]; exact hpow) (by omega) (by rw [Array.size_replicate]; omega)
  rw [Array.size_replicate] at cfmt
  rw [hnde] at hnd hn20 hlast ⊢
  have HD := Lib.hid hdig
  have HDT := Lib.hid hdt
  have HND := Lib.hid hnd
  have HNDE := Lib.hid hnde
  have HL := Lib.hid hlast
  have HROW := Lib.hid hrow
  have hni : i ≤ nd := by omega
  have hnd1 : 1 ≤ nd := by omega
  have hnci : Lib.nDigits cc = nd - i := by omega
  obtain ⟨nc, hnce⟩ : ∃ n, Lib.nDigits cc = n := ⟨_, rfl⟩
  have HNC := Lib.hid hnce
  have HNCI := Lib.hid (show nc = nd - i by omega)
  unfold SetIs
  rw [hnde, hnce]
  clear hd hcc hdig hdt hnd hnde hlast hrow hpow hz hnci hnce hnc hnc2
  go_enter Tryz.func119, Tryz.ntmps119
  go_wp2_with fail
  refine cfmt.mono ?_
  rintro e1 w1 ⟨rfl, q, v', dk, rfl, hF⟩
  have hcell : ∀ j, j < nd → ((putRow (fun (b : UInt8) => Value.int .u8 (b.toNat : Int)) w g 0 dk).drewN q).cell? ⟨g, j, none⟩ = some (.int .u8 ((Lib.dg d (nd - 1 - j)).toNat : Int)) := by
    intro j hj
    have h := cell?_putRow (fun (b : UInt8) => Value.int .u8 (b.toNat : Int)) w g 0 _ dk HROW.out (by rw [hF.size, Array.size_replicate]) j (by rw [hF.size]; exact hj)
    rw [Nat.zero_add, hF.done j (Nat.zero_le _) hj] at h
    exact h
  have hbl : Below g w ((putRow (fun (b : UInt8) => Value.int .u8 (b.toNat : Int)) w g 0 dk).drewN q) := below_drewN (below_putRow _ _ _ _ _) q
  obtain ⟨w2, hw2⟩ : ∃ w2, (putRow (fun (b : UInt8) => Value.int .u8 (b.toNat : Int)) w g 0 dk).drewN q = w2 := ⟨_, rfl⟩
  rw [hw2] at hcell hbl ⊢
  have HC := Lib.hid hcell
  clear cfmt hF hw2 hcell
  go_wp2
  go_loop [3] (fun kv => ∃ t : Nat, t ≤ i ∧ kv = .int .i64 ((nd : Int) - t)) (fun kv => (intOf kv).toNat)
  case atStart => exact ⟨0, Nat.zero_le _, by go_num⟩
  case round =>
    obtain ⟨t, ht, rfl⟩ := hrel
    by_cases hti : t < i
    · have c1 := HC.out (nd - t - 1) (by omega)
      have h48 : ((Lib.dg d (nd - 1 - (nd - t - 1))).toNat : Int) = 48 := by rw [show nd - 1 - (nd - t - 1) = t by omega, dg_nat, HD.out t hti]; rfl
      rw [h48] at c1
      obtain ⟨k, hk⟩ : ∃ k, nd - t - 1 = k := ⟨_, rfl⟩
      have hkt : (nd : Int) - t = (k : Int) + 1 := by omega
      rw [hk] at c1
      rw [hkt]
      have HKT := Lib.hid hkt
      clear h48 hk hkt
      have hk31 : k < 32 := by have := HKT.out; omega
      go_wp2
      go_round
      case rel => exact ⟨t + 1, by omega, by have := HKT.out; congr 1; omega⟩
      case measure => simp [intOf]
    · have hti' : t = i := by omega
      subst hti'
      have hlt : 1 ≤ nd - t := by have := HNCI.out; have := HNC.out; have := Lib.nDigits_pos cc; omega
      have c1 := HC.out (nd - t - 1) (by omega)
      have h48 : ((Lib.dg d (nd - 1 - (nd - t - 1))).toNat : Int) ≠ 48 := by
        rw [show nd - 1 - (nd - t - 1) = t by omega, dg_nat]
        have := HDT.out
        omega
      obtain ⟨x, hx⟩ : ∃ x : Int, ((Lib.dg d (nd - 1 - (nd - t - 1))).toNat : Int) = x := ⟨_, rfl⟩
      rw [hx] at c1 h48
      have hx48 : (x == 48) = false := by simpa using h48
      obtain ⟨k, hk⟩ : ∃ k, nd - t - 1 = k := ⟨_, rfl⟩
      have hkt : (nd : Int) - t = (k : Int) + 1 := by omega
      rw [hk] at c1
      rw [hkt]
      have HKT := Lib.hid hkt
      clear h48 hk hkt hx
      have hk31 : k < 32 := by have := HKT.out; omega
      go_wp2
      go_ret2
      have hk1 : (k : Int) + 1 = nc := by have := HKT.out; have := HNCI.out; omega
      rw [hk1]
      refine ⟨ret_pair rfl rfl, fun j hj => ?_, hbl⟩
      rw [decZ_length, HNC.out] at hj
      rw [HC.out j (by have := HNCI.out; omega), decZ_at _ _ (by rw [HNC.out]; exact hj), HNC.out]
      have h := HL.out j (by rw [HNC.out]; exact hj)
      rw [HNC.out] at h
      rw [h]
end Go.Proofs.YtbcolebomgcphaaGreatFmt
