/- Crude bounds of what Log10 and Floor give. Each lemma's conditions stand in its own statement. -/
import Derived.Test.YtmhbkilidpbenaaGreatDoorYb
import Derived.Test.YtmhbkilidpbenaaGreatDoorYa
namespace Go.Proofs.YtmhbkilidpbenaaGreatDoor
open Ieee Go.RowKit
open Go.Extern

theorem Bd.mono {E F : Int} {b : Nat} (h : Bd E b) (hEF : E ≤ F) : Bd F b := by
  unfold Bd at *
  have : wp E ≤ wp F := by
    unfold wp
    exact Nat.mul_le_mul_right _ (by omega)
  exact Nat.le_trans h this
theorem nearest_false_lt (m : Nat) (p : Int) : double.nearest false m p < 9223372036854775808 := by
  unfold Format.nearest Format.word
  have e3 : double.infRung = 9218868437227405312 := by decide
  split
  · simp
  · dsimp only
    rw [e3]
    simp only [Bool.false_eq_true, if_false]
    omega
theorem read_small {b : Nat} (h : b < 9223372036854775808) : (b / 9223372036854775808 % 2 == 1) = false := by
  rw [Nat.div_eq_of_lt h]
  rfl
/-- The product of two that aren't negative. -/
theorem bd_mul_pos {E F : Int} {a b : Nat} (ha : Bd E a) (hb : Bd F b) (pa : a < 9223372036854775808) (pb : b < 9223372036854775808) (hE0 : -1021 ≤ E) (hE1 : E ≤ 1000) (hF0 : -1021 ≤ F) (hF1 : F ≤ 1000) (hG : -1021 ≤ E + F) :
    ∃ c, floatBits .mul .f64 a b = some c ∧ Bd (E + F) c ∧ c < 9223372036854775808 := by
  obtain ⟨c, hc, bc⟩ := bd_mul ha hb hE0 hE1 hF0 hF1 hG
  refine ⟨c, hc, bc, ?_⟩
  have ra := read_num (b := a) (Nat.lt_of_le_of_lt ha (wp_lt hE1))
  have rb := read_num (b := b) (Nat.lt_of_le_of_lt hb (wp_lt hF1))
  rw [read_small pa] at ra
  rw [read_small pb] at rb
  have hc' : double.mul a b = some c := hc
  unfold Format.mul at hc'
  rw [ra, rb] at hc'
  injection hc' with hc'
  rw [← hc']
  exact nearest_false_lt _ _
theorem one_read : double.read 4607182418800017408 = .number false 4503599627370496 (-52) := by decide
theorem two_read : double.read 4611686018427387904 = .number false 4503599627370496 (-51) := by decide
theorem pow_split (base e : Int) (h0 : -5000 ≤ base) (h : base ≤ e) (m : Nat) : m * 2 ^ (e - base).toNat * 2 ^ (base + 5000).toNat = m * 2 ^ (e + 5000).toNat := by
  rw [Nat.mul_assoc, ← Nat.pow_add]
  congr 2
  omega
set_option exponentiation.threshold 6000 in
/-- Of a number from 0 to 2: less 1. -/
theorem sub_one_bd {a : Nat} (ha : Bd 1 a) (pa : a < 9223372036854775808) : ∃ c, floatBits .sub .f64 a 4607182418800017408 = some c ∧ Bd 0 c := by
  obtain ⟨s, m, i, ra, ⟨p1, la⟩, a1, a2, _, _, _⟩ := bd_read ha (by omega) (by omega)
  have ra2 := read_num (b := a) (Nat.lt_of_le_of_lt ha (wp_lt (by omega)))
  rw [read_small pa, ra] at ra2
  injection ra2 with hs _ _
  subst hs
  obtain ⟨base, hbase⟩ : ∃ base, min i (-52) = base := ⟨_, rfl⟩
  refine ⟨_, ?_, write_le (E := 0) (s := if signed false m (i - base).toNat + signed true 4503599627370496 (-52 - base).toNat = 0 then false && true else decide (signed false m (i - base).toNat + signed true 4503599627370496 (-52 - base).toNat < 0))
    (mag := (signed false m (i - base).toNat + signed true 4503599627370496 (-52 - base).toNat).natAbs) (place := base) ⟨by omega, ?_⟩ (by omega)⟩
  · show double.sub a 4607182418800017408 = _
    unfold Format.sub
    rw [ra, one_read]
    show ((Datum.number false m i).sum (.number true 4503599627370496 (-52))).map double.write = _
    unfold Datum.sum
    dsimp only
    rw [hbase]
    rfl
  · have h1 := pow_split base i (by omega) (by omega) m
    have h2 := pow_split base (-52) (by omega) (by omega) 4503599627370496
    have h3 : 4503599627370496 * 2 ^ (-52 + 5000 : Int).toNat = 2 ^ (0 + 5000 : Int).toNat := by
      rw [show (4503599627370496 : Nat) = 2 ^ 52 from rfl, ← Nat.pow_add]
      rfl
    have h4 : 2 ^ (1 + 5000 : Int).toNat = 2 * 2 ^ (0 + 5000 : Int).toNat := by
      rw [show (1 + 5000 : Int).toNat = (0 + 5000 : Int).toNat + 1 from rfl, Nat.pow_succ, Nat.mul_comm]
    have e : (signed false m (i - base).toNat + signed true 4503599627370496 (-52 - base).toNat).natAbs = (((m * 2 ^ (i - base).toNat : Nat) : Int) - ((4503599627370496 * 2 ^ (-52 - base).toNat : Nat) : Int)).natAbs := by
      unfold signed
      rw [Nat.shiftLeft_eq, Nat.shiftLeft_eq]
      simp only [Bool.false_eq_true, if_false, if_true]
      congr 1
    rw [e]
    rw [h4] at la
    rw [h3] at h2
    generalize 2 ^ (0 + 5000 : Int).toNat = Z at *
    rw [← h1] at la
    generalize 2 ^ (base + 5000).toNat = Y at *
    generalize m * 2 ^ (i - base).toNat = A at *
    generalize 4503599627370496 * 2 ^ (-52 - base).toNat = C at *
    rcases Nat.le_total A C with g | g
    · rw [show ((A : Int) - (C : Int)).natAbs = C - A by omega]
      have : (C - A) * Y ≤ C * Y := Nat.mul_le_mul_right _ (Nat.sub_le _ _)
      omega
    · rw [show ((A : Int) - (C : Int)).natAbs = A - C by omega, Nat.sub_mul]
      omega
set_option exponentiation.threshold 6000 in
/-- Two and a number of at most 1 in size: at least 1. -/
theorem two_add_bd {f : Nat} (hf : Bd 0 f) : ∃ c, floatBits .add .f64 4611686018427387904 f = some c ∧ Bd 2 c ∧ wp 0 ≤ c % 9223372036854775808 := by
  have htwo : Bd 1 4611686018427387904 := by unfold Bd wp; decide
  obtain ⟨c, hc, bc⟩ := bd_add (G := 2) htwo hf (by omega) (by omega) (by omega) (by omega) (by omega)
  refine ⟨c, hc, bc, ?_⟩
  obtain ⟨s, m, i, ra, ⟨p1, la⟩, a1, a2, _, _, _⟩ := bd_read hf (by omega) (by omega)
  have hc' : double.add 4611686018427387904 f = some c := hc
  unfold Format.add at hc'
  rw [ra, two_read] at hc'
  unfold Datum.sum at hc'
  dsimp only at hc'
  obtain ⟨base, hbase⟩ : ∃ base, min (-51) i = base := ⟨_, rfl⟩
  rw [hbase] at hc'
  injection hc' with hc'
  rw [← hc']
  refine write_ge ⟨by omega, ?_⟩ (by omega) (by omega) _
  have h1 := pow_split base i (by omega) (by omega) m
  have h2 := pow_split base (-51) (by omega) (by omega) 4503599627370496
  have h3 : 4503599627370496 * 2 ^ (-51 + 5000 : Int).toNat = 2 * 2 ^ (0 + 5000 : Int).toNat := by
    rw [show (4503599627370496 : Nat) = 2 ^ 52 from rfl, ← Nat.pow_add, show (-51 + 5000 : Int).toNat = 4949 from rfl, show (0 + 5000 : Int).toNat = 52 + 4949 - 1 from rfl, show 52 + 4949 = (52 + 4949 - 1) + 1 from rfl, Nat.pow_succ, Nat.mul_comm]
  have hA : ((m * 2 ^ (i - base).toNat : Nat) : Int) = (signed s m (i - base).toNat).natAbs := by rw [signed_abs]
  have hC : signed false 4503599627370496 (-51 - base).toNat = ((4503599627370496 * 2 ^ (-51 - base).toNat : Nat) : Int) := by
    unfold signed
    rw [Nat.shiftLeft_eq]
    rfl
  rw [hC]
  rw [h3] at h2
  rw [← h1] at la
  generalize 2 ^ (0 + 5000 : Int).toNat = Z at *
  generalize 2 ^ (base + 5000).toNat = Y at *
  generalize m * 2 ^ (i - base).toNat = A at *
  generalize 4503599627370496 * 2 ^ (-51 - base).toNat = C at *
  generalize signed s m (i - base).toNat = T at *
  have h5 : C - A ≤ ((C : Int) + T).natAbs := by omega
  have h6 : (C - A) * Y ≤ ((C : Int) + T).natAbs * Y := Nat.mul_le_mul_right _ h5
  rw [Nat.sub_mul] at h6
  omega
theorem arith_run {P : Program} {op : BinOp} {x y r : Nat} (h : floatBits op .f64 x y = some r) (w : World) : (MathAsm.arith op x y).run P w = .ok r w := by
  have := run_float_arith (P := P) w op 0 .f64 x y r h
  unfold floatBits at h
  cases op <;> simp only at h <;> first | (cases h; done) | skip
  all_goals simp [MathAsm.arith, Op.floatArith, h]

set_option exponentiation.threshold 6000 in
theorem bd_int (n : Int) (h : n.natAbs ≤ 2048) : Bd 11 (MathAsm.ofInt32 n) := by
  refine write_le ⟨by omega, ?_⟩ (by omega) _
  have e : (2 : Nat) ^ (11 + 5000 : Int).toNat = 2048 * 2 ^ (0 + 5000 : Int).toNat := by
    rw [show (2048 : Nat) = 2 ^ 11 from rfl, ← Nat.pow_add]
    rfl
  rw [e]
  exact Nat.mul_le_mul_right _ h
theorem bind_ok {α β : Type} {P : Program} {x : Sem α} {f : α → Sem β} {w : World} {a : α} {R : Result β} (h : x.run P w = .ok a w) (h2 : (f a).run P w = R) : (x >>= f).run P w = R := by
  rw [Sem.run_bind, h, Result.andThen_ok, h2]
theorem ite_no {β : Type} {P : Program} {c : Prop} [Decidable c] {x y : Sem β} {w : World} {R : Result β} (h : ¬ c) (h2 : y.run P w = R) : (if c then x else y).run P w = R := by
  rw [if_neg h, h2]
def smallB (r : Nat) : Bool := !MathAsm.lt 0x3FE6A09E667F3BCD (r % 2 ^ 52 + MathAsm.half)
set_option maxRecDepth 100000 in
set_option maxHeartbeats 1600000 in
theorem archLog_run {P : Program} (r : Nat) (h0 : 0 < r) (hr : r < 9218868437227405312) (w : World) :
    ∃ L, (MathLog.archLog #[.float .f64 r]).run P w = .ok (.float .f64 L) w ∧ Bd 16 L := by
  have b1 : Bd 0 4607182418800017408 := by unfold Bd wp; decide
  have b0 : Bd 0 0 := by unfold Bd wp; decide
  have bh : Bd 0 4602678819172646912 := by unfold Bd wp; decide
  have bf1 : Bd 0 (r % 2 ^ 52 + MathAsm.half) := by unfold Bd wp MathAsm.half; omega
  have pf1' : r % 2 ^ 52 + MathAsm.half < 9223372036854775808 := by unfold MathAsm.half; omega
  have bk := bd_int (Int.ofNat (r / 2 ^ 52) - 0x3FE) (by simp only [Int.ofNat_eq_natCast]; omega)
  have bd : Bd 0 (if smallB r = true then MathAsm.one else 0) := by split; exact b1; exact b0
  obtain ⟨k, hk, ck⟩ := bd_sub (G := 12) bk bd (by omega) (by omega) (by omega) (by omega) (by omega)
  have hdd : ∃ e, floatBits .add .f64 (if smallB r = true then MathAsm.one else 0) MathAsm.one = some e ∧ Bd 1 e ∧ e < 9223372036854775808 := by
    cases smallB r
    · exact ⟨4607182418800017408, by decide, b1.mono (by omega), by decide⟩
    · exact ⟨4611686018427387904, by decide, by unfold Bd wp; decide, by decide⟩
  obtain ⟨e, he, ce, pe⟩ := hdd
  obtain ⟨f1, hf1, cf1, pf1⟩ := bd_mul_pos bf1 ce pf1' pe (by omega) (by omega) (by omega) (by omega) (by omega)
  obtain ⟨f, hf, cf⟩ := sub_one_bd cf1 pf1
  obtain ⟨den, hden, cden, gden⟩ := two_add_bd cf
  obtain ⟨s, hs, cs⟩ := bd_div cf cden gden (by omega) (by omega) (by omega) (by omega) (by omega) (by omega) (by omega)
  rw [show (0 : Int) - 0 = 0 from rfl] at cs
  have mul0 : ∀ {E : Int} {a b : Nat}, Bd 0 a → Bd E b → 0 ≤ E → E ≤ 100 → ∃ c, floatBits .mul .f64 a b = some c ∧ Bd E c := by
    intro E a b ha hb h1 h2
    have := bd_mul ha hb (by omega) (by omega) (by omega) (by omega) (by omega)
    rwa [Int.zero_add] at this
  have mul1 : ∀ {E : Int} {a b : Nat}, Bd E a → Bd 0 b → 0 ≤ E → E ≤ 100 → ∃ c, floatBits .mul .f64 a b = some c ∧ Bd E c := by
    intro E a b ha hb h1 h2
    have := bd_mul ha hb (by omega) (by omega) (by omega) (by omega) (by omega)
    rwa [Int.add_zero] at this
  have add1 : ∀ {E : Int} (G : Int) {a b : Nat}, Bd E a → Bd 0 b → 0 ≤ E → E + 1 = G → G ≤ 100 → ∃ c, floatBits .add .f64 a b = some c ∧ Bd G c := by
    intro E G a b ha hb h1 h2 h3
    exact bd_add ha hb (by omega) (by omega) (by omega) (by omega) (by omega)
  obtain ⟨s2, hs2, cs2⟩ := mul0 cs cs (by omega) (by omega)
  obtain ⟨s4, hs4, cs4⟩ := mul0 cs2 cs2 (by omega) (by omega)
  have q1 : Bd 0 0x3FC2F112DF3E5244 := by unfold Bd wp; decide
  have q2 : Bd 0 0x3FC7466496CB03DE := by unfold Bd wp; decide
  have q3 : Bd 0 0x3FD2492494229359 := by unfold Bd wp; decide
  have q4 : Bd 0 0x3FE5555555555593 := by unfold Bd wp; decide
  have q5 : Bd 0 0x3FC39A09D078C69F := by unfold Bd wp; decide
  have q6 : Bd 0 0x3FCC71C51D8E78AF := by unfold Bd wp; decide
  have q7 : Bd 0 0x3FD999999997FA04 := by unfold Bd wp; decide
  have q8 : Bd 0 0x3DEA39EF35793C76 := by unfold Bd wp; decide
  have q9 : Bd 0 0x3FE62E42FEE00000 := by unfold Bd wp; decide
  obtain ⟨m1, hm1, cm1⟩ := mul0 q1 cs4 (by omega) (by omega)
  obtain ⟨a1, ha1, ca1⟩ := add1 1 cm1 q2 (by omega) (by omega) (by omega)
  obtain ⟨m2, hm2, cm2⟩ := mul1 ca1 cs4 (by omega) (by omega)
  obtain ⟨a2, ha2, ca2⟩ := add1 2 cm2 q3 (by omega) (by omega) (by omega)
  obtain ⟨m3, hm3, cm3⟩ := mul1 ca2 cs4 (by omega) (by omega)
  obtain ⟨a3, ha3, ca3⟩ := add1 3 cm3 q4 (by omega) (by omega) (by omega)
  obtain ⟨t1, ht1, ct1⟩ := mul0 cs2 ca3 (by omega) (by omega)
  obtain ⟨m4, hm4, cm4⟩ := mul0 q5 cs4 (by omega) (by omega)
  obtain ⟨a4, ha4, ca4⟩ := add1 1 cm4 q6 (by omega) (by omega) (by omega)
  obtain ⟨m5, hm5, cm5⟩ := mul1 ca4 cs4 (by omega) (by omega)
  obtain ⟨a5, ha5, ca5⟩ := add1 2 cm5 q7 (by omega) (by omega) (by omega)
  obtain ⟨t2, ht2, ct2⟩ := mul0 cs4 ca5 (by omega) (by omega)
  obtain ⟨R, hR, cR⟩ := bd_add (G := 4) ct1 ct2 (by omega) (by omega) (by omega) (by omega) (by omega)
  obtain ⟨hf', hhf, chf⟩ := mul0 bh cf (by omega) (by omega)
  obtain ⟨hfsq, hhfsq, chfsq⟩ := mul0 chf cf (by omega) (by omega)
  obtain ⟨i1, hi1, ci1⟩ := bd_add (G := 5) cR chfsq (by omega) (by omega) (by omega) (by omega) (by omega)
  obtain ⟨i2, hi2, ci2⟩ := mul0 cs ci1 (by omega) (by omega)
  obtain ⟨i3, hi3, ci3⟩ := mul0 q8 ck (by omega) (by omega)
  obtain ⟨inner, hinner, cinner⟩ := bd_add (G := 13) ci2 ci3 (by omega) (by omega) (by omega) (by omega) (by omega)
  obtain ⟨o1, ho1, co1⟩ := mul1 ck q9 (by omega) (by omega)
  obtain ⟨o2, ho2, co2⟩ := bd_sub (G := 14) chfsq cinner (by omega) (by omega) (by omega) (by omega) (by omega)
  obtain ⟨o3, ho3, co3⟩ := bd_sub (G := 15) co2 cf (by omega) (by omega) (by omega) (by omega) (by omega)
  obtain ⟨o4, ho4, co4⟩ := bd_sub (G := 16) co1 co3 (by omega) (by omega) (by omega) (by omega) (by omega)
  refine ⟨o4, ?_, co4⟩
  have z0 : ¬ ((r % 2 ^ 63 == 0) = true) := by simp; omega
  have z1 : ¬ (r ≥ 2 ^ 63) := by omega
  have z2 : ¬ (r ≥ MathAsm.posInf) := by unfold MathAsm.posInf; omega
  refine ite_no z0 ?_
  refine ite_no z1 ?_
  refine ite_no z2 ?_
  refine bind_ok (arith_run hk w) ?_
  refine bind_ok (arith_run he w) ?_
  refine bind_ok (arith_run hf1 w) ?_
  refine bind_ok (arith_run hf w) ?_
  refine bind_ok (arith_run hden w) ?_
  refine bind_ok (arith_run hs w) ?_
  refine bind_ok (arith_run hs2 w) ?_
  refine bind_ok (arith_run hs4 w) ?_
  refine bind_ok (arith_run hm1 w) ?_
  refine bind_ok (arith_run ha1 w) ?_
  refine bind_ok (arith_run hm2 w) ?_
  refine bind_ok (arith_run ha2 w) ?_
  refine bind_ok (arith_run hm3 w) ?_
  refine bind_ok (arith_run ha3 w) ?_
  refine bind_ok (arith_run ht1 w) ?_
  refine bind_ok (arith_run hm4 w) ?_
  refine bind_ok (arith_run ha4 w) ?_
  refine bind_ok (arith_run hm5 w) ?_
  refine bind_ok (arith_run ha5 w) ?_
  refine bind_ok (arith_run ht2 w) ?_
  refine bind_ok (arith_run hR w) ?_
  refine bind_ok (arith_run hhf w) ?_
  refine bind_ok (arith_run hhfsq w) ?_
  refine bind_ok (arith_run hi1 w) ?_
  refine bind_ok (arith_run hi2 w) ?_
  refine bind_ok (arith_run hi3 w) ?_
  refine bind_ok (arith_run hinner w) ?_
  refine bind_ok (arith_run ho1 w) ?_
  refine bind_ok (arith_run ho2 w) ?_
  refine bind_ok (arith_run ho3 w) ?_
  refine bind_ok (arith_run ho4 w) ?_
  rfl
end Go.Proofs.YtmhbkilidpbenaaGreatDoor
