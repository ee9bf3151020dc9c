/- The plain law of the exact way of reading: products and quotients of whole numbers. Each lemma's conditions stand in its own statement. The plain law of whole numbers as words. Each lemma's conditions stand in its own statement. The contract of atof64exact. Each lemma's conditions stand in its own statement. -/
import Derived.Test.YtbcolebomgcphaaGreatFmtSc
namespace Go.Proofs.YtbcolebomgcphaaGreatFmt
open Ieee

theorem near_val {mag : Nat} {place : Int} (h0 : 0 < mag) : ∃ z, double.nearest false mag place = min z 9218868437227405312 := by
  unfold Format.nearest
  have e3 : double.infRung = 9218868437227405312 := by decide
  rw [if_neg (by omega)]
  simp only [e3]
  have hw : ∀ k, double.word false k = k := fun k => rfl
  exact ⟨_, hw _⟩
theorem near_le {mag : Nat} {place : Int} (h0 : 0 < mag) : double.nearest false mag place ≤ 9218868437227405312 := by
  obtain ⟨z, h⟩ := near_val (place := place) h0
  rw [h]
  exact Nat.min_le_right _ _
theorem near_pos {mag : Nat} {place : Int} (h0 : 0 < mag) (hn : -1022 ≤ place + mag.log2) : 0 < double.nearest false mag place := by
  rcases Nat.eq_zero_or_pos (double.nearest false mag place) with g | g
  · exfalso
    have h := (nearest_rung h0 hn (r := 0) (by decide)).1 g
    obtain ⟨f0, _⟩ := near_floor h0
    rcases cut_round false (mag <<< (52 - mag.log2)) (mag.log2 - 52) (by rw [shl_log mag _ h0]; omega) with ⟨c, _⟩ | ⟨c, _⟩
    · rw [c] at h
      unfold rungOf at h
      omega
    · rw [c] at h
      unfold rungOf at h
      omega
  · exact g
set_option exponentiation.threshold 3000 in
/-- A word that is a whole number is the one that tells it. -/
theorem whole_tells {a X : Nat} (hu : unt a = X * 2 ^ 1074) {r : Nat} (hr : 0 < r) : a = r ↔ Tells r X 1 := by
  have e : X * big = 2 * unt a := by
    rw [hu]
    unfold big
    have : (2 : Nat) ^ 1075 = 2 ^ 1074 * 2 := Nat.pow_add 2 1074 1
    rw [this]
    generalize (2 : Nat) ^ 1074 = z
    grind
  have hs := unt_succ a
  clear hu
  rw [← round_tells (r0 := a) (by decide) (by omega) (by omega) hr]
  unfold roundUp
  rw [if_neg (by omega)]
theorem mul_three {a b X Y : Nat} (ha : a < 9218868437227405312) (hb : b < 9218868437227405312) (hX : 0 < X) (hY : 0 < Y) (ua : unt a = X * 2 ^ 1074) (ub : unt b = Y * 2 ^ 1074) :
    ∃ c, floatBits .mul .f64 a b = some c ∧ (∀ r, 0 < r → r < 9218868437227405312 → (c = r ↔ Tells r (X * Y) 1)) ∧ 0 < c ∧ c ≤ 9218868437227405312 := by
  obtain ⟨c, hc, ht⟩ := mul_tells ha hb hX hY ua ub
  obtain ⟨a1, a2, a3, _⟩ := whole_parts ua hX
  obtain ⟨b1, b2, b3, _⟩ := whole_parts ub hY
  have hn : floatBits .mul .f64 a b = some (double.nearest (false ^^ false) (mant a * mant b) (expo a + expo b)) := by
    show double.mul a b = _
    unfold Format.mul
    rw [read_pos ha, read_pos hb]
    rfl
  have hl := log2_mul_ge a2 b2
  have hp : 0 < mant a * mant b := Nat.mul_pos (by omega) (by omega)
  obtain rfl : double.nearest (false ^^ false) (mant a * mant b) (expo a + expo b) = c := Option.some.inj (hn.symm.trans hc)
  exact ⟨_, hc, ht, near_pos hp (by omega), near_le hp⟩
theorem quo_three {a b X Y : Nat} (ha : a < 9218868437227405312) (hb : b < 9218868437227405312) (hX : 0 < X) (hY : 0 < Y) (ua : unt a = X * 2 ^ 1074) (ub : unt b = Y * 2 ^ 1074) (hbx : expo b ≤ 800) :
    ∃ c, floatBits .quo .f64 a b = some c ∧ (∀ r, 0 < r → r < 9218868437227405312 → (c = r ↔ Tells r X Y)) ∧ c ≤ 9218868437227405312 := by
  obtain ⟨c, hc, ht⟩ := quo_tells ha hb hX hY ua ub hbx
  obtain ⟨a1, a2, a3, _⟩ := whole_parts ua hX
  obtain ⟨b1, b2, b3, _⟩ := whole_parts ub hY
  have la := log2_53 a2 a3
  have lb := log2_53 b2 b3
  have hn : floatBits .quo .f64 a b = some (double.nearest (false ^^ false) (2 * ((mant a <<< 54) / mant b) + ((mant a <<< 54) % mant b != 0).toNat) (expo a - expo b - (54 : Nat) - 1)) := by
    show double.div a b = _
    unfold Format.div
    rw [read_pos ha, read_pos hb]
    unfold Datum.quotient
    dsimp only
    rw [if_neg (by omega), show double.fractionBits + 2 = 54 from rfl, la, lb]
    rfl
  obtain rfl := Option.some.inj (hn.symm.trans hc)
  refine ⟨_, hc, ht, near_le ?_⟩
  clear ua ub hn hc ht
  have hq : 1 ≤ (mant a <<< 54) / mant b := by
    rw [Nat.shiftLeft_eq]
    refine (Nat.le_div_iff_mul_le (by omega)).2 ?_
    have h2 : 4503599627370496 * 2 ^ 54 ≤ mant a * 2 ^ 54 := Nat.mul_le_mul_right _ a2
    rw [Nat.one_mul]
    have h3 : (9007199254740992 : Nat) ≤ 4503599627370496 * 2 ^ 54 := by decide
    exact Nat.le_trans (Nat.le_of_lt b3) (Nat.le_trans h3 h2)
  omega
set_option exponentiation.threshold 3000 in
/-- The word of ten to the 15. -/
theorem unt_15 : unt 4831355200913801216 = 1000000000000000 * 2 ^ 1074 := by
  obtain ⟨w, h1, _, h2, _⟩ := p10_unt (k := 15) (by decide)
  have h3 : p10W[15]? = some 4831355200913801216 := rfl
  obtain rfl := Option.some.inj (h3.symm.trans h1)
  rw [h2]
theorem next_15 : Nat.blt (unt 4831355200913801216 + unt 4831355200913801217) ((1000000000000000 + 1) * 2 ^ 1075) = true := by decide +kernel
theorem not_tells_above {r X : Nat} (h : unt r + unt (r + 1) < X * big) : ¬ Tells r X 1 := by
  unfold Tells
  generalize X * big = Y at *
  split <;> omega
set_option exponentiation.threshold 3000 in
/-- A product that is not above the word of ten to the 15 is exact. -/
theorem le_15 {c X : Nat} (ht : ∀ r, 0 < r → r < 9218868437227405312 → (c = r ↔ Tells r X 1)) (h0 : 0 < c) (h1 : c ≤ 4831355200913801216) : X ≤ 1000000000000000 := by
  rcases Nat.lt_or_ge 1000000000000000 X with g | g
  · exfalso
    refine (not_tells_above (r := c) (X := X) ?_) ((ht c h0 (by omega)).1 rfl)
    have h2 : unt c + unt (c + 1) ≤ unt 4831355200913801216 + unt 4831355200913801217 := Nat.add_le_add (unt_le h1) (unt_le (Nat.succ_le_succ h1))
    have h3 : unt 4831355200913801216 + unt 4831355200913801217 < (1000000000000000 + 1) * big := by
      have hk : Nat.blt (unt 4831355200913801216 + unt 4831355200913801217) ((1000000000000000 + 1) * big) = true := next_15
      exact (Nat.blt_eq).mp hk
    have h4 : (1000000000000000 + 1) * big ≤ X * big := Nat.mul_le_mul_right _ g
    exact Nat.lt_of_le_of_lt h2 (Nat.lt_of_lt_of_le h3 h4)
  · exact g
end Go.Proofs.YtbcolebomgcphaaGreatFmt

namespace Go.Proofs.YtbcolebomgcphaaGreatFmt
open Go.RowKit
open Go.RowKit Go.WideShapes Go.ChangeShapes
open Ieee

theorem log2_le53 {n : Nat} (h1 : 1 ≤ n) (h2 : n ≤ 9007199254740992) : n.log2 ≤ 53 := by
  have := (Nat.log2_lt (n := n) (k := 54) (by omega)).2 (by omega)
  omega
set_option maxRecDepth 100000 in
/-- A whole number of at most 53 bits as a word. -/
theorem fl_of (n : Nat) (h1 : 1 ≤ n) (h2 : n ≤ 9007199254740992) :
    ∃ q f, floatOfInt .f64 (n : Int) = q * 4503599627370496 + f ∧ q = n.log2 + 1023 ∧ f < 4503599627370496 ∧ (4503599627370496 + f) * 2 = n * 2 ^ (53 - n.log2) := by
  have hL := log2_le53 h1 h2
  obtain ⟨L, hLe⟩ : ∃ L, n.log2 = L := ⟨_, rfl⟩
  have hlo : 2 ^ L ≤ n := by rw [← hLe]; exact Nat.log2_self_le (by omega)
  have hhi : n < 2 ^ (L + 1) := by rw [← hLe]; exact Nat.lt_log2_self
  rw [hLe] at hL ⊢
  have hp : 2 ^ L * 2 ^ (53 - L) = 9007199254740992 := by
    rw [← Nat.pow_add, show L + (53 - L) = 53 by omega]
  have hpos : 0 < 2 ^ (53 - L) := Nat.two_pow_pos _
  have hmul1 : 9007199254740992 ≤ n * 2 ^ (53 - L) := by rw [← hp]; exact Nat.mul_le_mul_right _ hlo
  have hmul2 : n * 2 ^ (53 - L) < 18014398509481984 := by
    have := (Nat.mul_lt_mul_right hpos).2 hhi
    rw [Nat.pow_succ, Nat.mul_comm (2 ^ L) 2, Nat.mul_assoc, hp] at this
    exact this
  have heven : n * 2 ^ (53 - L) % 2 = 0 := by
    rcases Nat.lt_or_ge L 53 with h | h
    · rw [show 53 - L = (52 - L) + 1 by omega, Nat.pow_succ, ← Nat.mul_assoc, Nat.mul_mod_left]
    · have hL53 : L = 53 := by omega
      subst hL53
      have : n = 9007199254740992 := by
        have : 2 ^ 53 = 9007199254740992 := by decide
        omega
      subst this
      decide
  obtain ⟨m, hm⟩ : ∃ m, n * 2 ^ (53 - L) = 2 * m := ⟨n * 2 ^ (53 - L) / 2, by omega⟩
  refine ⟨L + 1023, m - 4503599627370496, ?_, rfl, by omega, by omega⟩
  have hmm := mant_of (L + 1023) (m - 4503599627370496) (by omega) (by omega)
  have hee := expo_of (L + 1023) (m - 4503599627370496) (by omega) (by omega)
  obtain ⟨r, hr⟩ : ∃ r, (L + 1023) * 4503599627370496 + (m - 4503599627370496) = r := ⟨_, rfl⟩
  rw [hr] at hmm hee ⊢
  show Ieee.double.nearest (decide ((n : Int) < 0)) (n : Int).natAbs 0 = r
  rw [show decide ((n : Int) < 0) = false by simp, Int.natAbs_natCast]
  refine nearest_exact r n 0 2000 (by omega) (by omega) (by omega) (by omega) ?_
  rw [hmm, hee, show 4503599627370496 + (m - 4503599627370496) = m by omega, show (((L + 1023 : Nat) : Int) - 1075 + 2000).toNat = L + 1948 by omega]
  have e1 : (0 + 2000 : Int).toNat = (53 - L) + (L + 1947) := by omega
  rw [e1, Nat.pow_add, ← Nat.mul_assoc, hm, show 2 ^ (L + 1948) = 2 ^ (L + 1947) * 2 from Nat.pow_succ 2 (L + 1947)]
  generalize 2 ^ (L + 1947) = z
  rw [Nat.mul_comm 2 m, Nat.mul_assoc, Nat.mul_comm 2 z]

theorem unt_fl {K : Nat} (h0 : 1 ≤ K) (h1 : K ≤ 9007199254740992) : unt (floatOfInt .f64 (K : Int)) = K * 2 ^ 1074 := by
  obtain ⟨q, f, hfl, hq, hf, hm⟩ := fl_of K h0 h1
  have hL := log2_le53 h0 h1
  rw [hfl]
  have e1 := mant_of q f (by omega) hf
  have e2 := expo_of q f (by omega) hf
  unfold unt
  rw [e1, e2]
  obtain ⟨L, hLe⟩ : ∃ L, K.log2 = L := ⟨_, rfl⟩
  rw [hLe] at hq hm hL
  rw [show ((q : Int) - 1075 + 1074).toNat = (L + 1021) + 1 by omega, Nat.pow_succ]
  have e3 : ∀ t s, t = (53 - L) + s → (4503599627370496 + f) * (2 ^ s * 2) = K * 2 ^ t := by
    intro t s ht
    rw [ht, Nat.pow_add, ← Nat.mul_assoc K, ← hm]
    generalize 2 ^ s = z
    grind
  exact e3 1074 (L + 1021) (by omega)
end Go.Proofs.YtbcolebomgcphaaGreatFmt

namespace Go.Proofs.YtbcolebomgcphaaGreatFmt
open Go.RowKit

/-- The number of the fraction's bits, and the powers of ten up to 22 as words, as they lie in memory. -/
def FpTab (w : World) : Prop := 18 < w.heap.size ∧ w.cell? ⟨13, 0, none⟩ = some (.int .u64 52) ∧
  ∃ b off c : Nat, b < w.heap.size ∧ w.cell? ⟨18, 0, none⟩ = some (.slice (some ⟨b, off, none⟩) 23 c) ∧ ∀ k x, p10W[k]? = some x → w.cell? ⟨b, off + k, none⟩ = some (.float .f64 x)
theorem FpTab.below {w w' : World} {B : Nat} (h : FpTab w) (hb : Below B w w') (hB : w.heap.size ≤ B) : FpTab w' := by
  obtain ⟨h1, h2, b, off, c, h3, h4, h5⟩ := h
  have hs := hb.size
  refine ⟨by omega, (hb.cell (p := ⟨13, 0, none⟩) (by show 13 < B; omega)).trans h2, b, off, c, by omega, (hb.cell (p := ⟨18, 0, none⟩) (by show 18 < B; omega)).trans h4, fun k x hk => ?_⟩
  exact (hb.cell (p := ⟨b, off + k, none⟩) (by show b < B; omega)).trans (h5 k x hk)
/-- What atof64exact answers. -/
def EfIs (w : World) (d : Nat) (p : Int) (e : Ending) (w' : World) : Prop :=
  ∃ (x : Nat) (ok : Bool), e = .returned (.tuple #[.float .f64 x, .bool ok]) ∧ (ok = true → PsIs d p x ∧ x ≤ 9218868437227405312) ∧ w' = w
theorem EfIs.no {w : World} {d x : Nat} {p : Int} : EfIs w d p (.returned (.tuple #[.float .f64 x, .bool false])) w := ⟨x, false, rfl, fun h => (by cases h), rfl⟩
theorem EfIs.yes {w : World} {d x : Nat} {p : Int} (h : PsIs d p x) (hx : x ≤ 9218868437227405312) : EfIs w d p (.returned (.tuple #[.float .f64 x, .bool true])) w := ⟨x, true, rfl, fun _ => ⟨h, hx⟩, rfl⟩
theorem run_arith (op : BinOp) (x y r : Nat) (h : floatBits op .f64 x y = some r) (w : World) : (binOp op 23 (.float .f64 x) (.float .f64 y)).run Tryz.prog w = .ok (.float .f64 r) w :=
  run_float_arith w op 23 .f64 x y r h
theorem shr52 (d : Nat) : (d : Int) / 4503599627370496 = ((d / 4503599627370496 : Nat) : Int) := by rw [Int.natCast_ediv]; rfl
set_option maxRecDepth 100000 in
set_option maxHeartbeats 1600000 in
theorem exact_big (d : Nat) (p : Int) (w : World) (h : 4503599627370496 ≤ d) (hd : d < 18446744073709551616) (hF : w.cell? ⟨13, 0, none⟩ = some (.int .u64 52)) :
    Calls Tryz.prog 196 #[.int .u64 d, .int .i64 p, .bool false] w (EfIs w d p) := by
  have hs := shr52 d
  obtain ⟨q, hq⟩ : ∃ q, d / 4503599627370496 = q := ⟨_, rfl⟩
  rw [hq] at hs
  have hne : ((q : Int) == 0) = false := by simp; omega
  have hne2 : ((q : Int) != 0) = true := by simp; omega
  have hq1 : (q : Int) ≤ 4096 := by omega
  clear hq
  go_enter Tryz.func196, Tryz.ntmps196
  go_wp2
  go_ret2
  exact .no
set_option maxRecDepth 100000 in
set_option maxHeartbeats 1600000 in
theorem exact_zero (d f : Nat) (w : World) (h0 : 0 < d) (h : d < 4503599627370496) (hF : w.cell? ⟨13, 0, none⟩ = some (.int .u64 52)) (hf : floatOfInt .f64 (d : Int) = f) (hr : PsIs d 0 f ∧ f ≤ 9218868437227405312) :
    Calls Tryz.prog 196 #[.int .u64 d, .int .i64 0, .bool false] w (EfIs w d 0) := by
  have hs := shr52 d
  rw [show d / 4503599627370496 = 0 by omega] at hs
  have HR := Lib.hid hr
  clear hr
  go_enter Tryz.func196, Tryz.ntmps196
  go_wp2
  go_ret2
  exact .yes HR.out.1 HR.out.2
set_option maxRecDepth 100000 in
set_option maxHeartbeats 1600000 in
theorem exact_out (d f : Nat) (p : Int) (w : World) (h0 : 0 < d) (h : d < 4503599627370496) (hF : w.cell? ⟨13, 0, none⟩ = some (.int .u64 52)) (hf : floatOfInt .f64 (d : Int) = f) (hp : 37 < p ∨ p < -22) :
    Calls Tryz.prog 196 #[.int .u64 d, .int .i64 p, .bool false] w (EfIs w d p) := by
  have hs := shr52 d
  rw [show d / 4503599627370496 = 0 by omega] at hs
  rcases hp with hp | hp
  · go_enter Tryz.func196, Tryz.ntmps196
    go_wp2
    go_ret2
    exact .no
  · go_enter Tryz.func196, Tryz.ntmps196
    go_wp2
    go_ret2
    exact .no
set_option maxRecDepth 100000 in
set_option maxHeartbeats 1600000 in
theorem exact_pos (d k f y c b off cp : Nat) (t : Bool) (w : World) (h0 : 0 < d) (h : d < 4503599627370496) (hk0 : 0 < k) (hk : k ≤ 22) (hF : w.cell? ⟨13, 0, none⟩ = some (.int .u64 52)) (hf : floatOfInt .f64 (d : Int) = f)
    (hS : w.cell? ⟨18, 0, none⟩ = some (.slice (some ⟨b, off, none⟩) 23 cp)) (hY : w.cell? ⟨b, off + k, none⟩ = some (.float .f64 y))
    (ht : (FloatKind.f64.format.order f 4831355200913801216 == some .gt) = t) (hl : (FloatKind.f64.format.order f 14054727237768577024 == some .lt) = false) (hm : floatBits .mul .f64 f y = some c) (hr : t = false → PsIs d k c ∧ c ≤ 9218868437227405312) :
    Calls Tryz.prog 196 #[.int .u64 d, .int .i64 k, .bool false] w (EfIs w d k) := by
  have hs := shr52 d
  rw [show d / 4503599627370496 = 0 by omega] at hs
  have HR := Lib.hid hr
  clear hr
  have rm := fun W => run_arith .mul f y c hm W
  clear hm
  cases t
  · go_enter Tryz.func196, Tryz.ntmps196
    go_wp2
    go_ret2
    exact .yes (HR.out trivial).1 (HR.out trivial).2
  · go_enter Tryz.func196, Tryz.ntmps196
    go_wp2
    go_ret2
    exact .no
set_option maxRecDepth 100000 in
set_option maxHeartbeats 1600000 in
theorem exact_high (d k f y g z c b off cp : Nat) (t : Bool) (w : World) (h0 : 0 < d) (h : d < 4503599627370496) (hk0 : 0 < k) (hk : k ≤ 15) (hF : w.cell? ⟨13, 0, none⟩ = some (.int .u64 52)) (hf : floatOfInt .f64 (d : Int) = f)
    (hS : w.cell? ⟨18, 0, none⟩ = some (.slice (some ⟨b, off, none⟩) 23 cp)) (hY : w.cell? ⟨b, off + k, none⟩ = some (.float .f64 y)) (hZ : w.cell? ⟨b, off + 22, none⟩ = some (.float .f64 z)) (hg : floatBits .mul .f64 f y = some g)
    (ht : (FloatKind.f64.format.order g 4831355200913801216 == some .gt) = t) (hl : (FloatKind.f64.format.order g 14054727237768577024 == some .lt) = false) (hm : t = false → floatBits .mul .f64 g z = some c) (hr : t = false → PsIs d (k + 22 : Int) c ∧ c ≤ 9218868437227405312) :
    Calls Tryz.prog 196 #[.int .u64 d, .int .i64 (k + 22 : Int), .bool false] w (EfIs w d (k + 22 : Int)) := by
  have hs := shr52 d
  rw [show d / 4503599627370496 = 0 by omega] at hs
  have HR := Lib.hid hr
  have rg := fun W => run_arith .mul f y g hg W
  have e1 : (k : Int) + 22 - 22 = k := by omega
  clear hr hg
  cases t
  · have rm := fun W => run_arith .mul g z c (hm rfl) W
    clear hm
    go_enter Tryz.func196, Tryz.ntmps196
    go_wp2
    go_ret2
    exact .yes (HR.out trivial).1 (HR.out trivial).2
  · clear hm
    go_enter Tryz.func196, Tryz.ntmps196
    go_wp2
    go_ret2
    exact .no
set_option maxRecDepth 100000 in
set_option maxHeartbeats 1600000 in
theorem exact_neg (d k f y c b off cp : Nat) (w : World) (h0 : 0 < d) (h : d < 4503599627370496) (hk0 : 0 < k) (hk : k ≤ 22) (hF : w.cell? ⟨13, 0, none⟩ = some (.int .u64 52)) (hf : floatOfInt .f64 (d : Int) = f)
    (hS : w.cell? ⟨18, 0, none⟩ = some (.slice (some ⟨b, off, none⟩) 23 cp)) (hY : w.cell? ⟨b, off + k, none⟩ = some (.float .f64 y))
    (hm : floatBits .quo .f64 f y = some c) (hr : PsIs d (-(k : Int)) c ∧ c ≤ 9218868437227405312) :
    Calls Tryz.prog 196 #[.int .u64 d, .int .i64 (-(k : Int)), .bool false] w (EfIs w d (-(k : Int))) := by
  have hs := shr52 d
  rw [show d / 4503599627370496 = 0 by omega] at hs
  have HR := Lib.hid hr
  have rm := fun W => run_arith .quo f y c hm W
  have e1 : -(-(k : Int)) = k := by omega
  clear hr hm
  go_enter Tryz.func196, Tryz.ntmps196
  go_wp2
  go_ret2
  exact .yes HR.out.1 HR.out.2
set_option exponentiation.threshold 3000 in
theorem fl_fin {d : Nat} (h0 : 0 < d) (h : d ≤ 9007199254740992) : floatOfInt .f64 (d : Int) < 9218868437227405312 := by
  have hu := unt_fl (K := d) h0 h
  rcases Nat.lt_or_ge (floatOfInt .f64 (d : Int)) 9218868437227405312 with g | g
  · exact g
  · exfalso
    have h1 := unt_le g
    rw [hu] at h1
    have h2 : unt 9218868437227405312 = 4503599627370496 * 2 ^ 2046 := by decide +kernel
    rw [h2] at h1
    have h3 : d * 2 ^ 1074 ≤ 9007199254740992 * 2 ^ 1074 := Nat.mul_le_mul_right _ h
    have h4 : (9007199254740992 : Nat) * 2 ^ 1074 < 4503599627370496 * 2 ^ 2046 := by decide +kernel
    exact absurd (Nat.le_trans h1 h3) (Nat.not_le.2 h4)
theorem not_less {f : Nat} (hf : f ≤ 9218868437227405312) : (FloatKind.f64.format.order f 14054727237768577024 == some .lt) = false := by
  rcases Nat.eq_or_lt_of_le hf with g | g
  · subst g; decide
  · rw [show (14054727237768577024 : Nat) = 9223372036854775808 + 4831355200913801216 from rfl, pos_order g (by decide) (by decide)]
    rfl
theorem not_gt {g : Nat} (hg : g ≤ 9218868437227405312) (h : (FloatKind.f64.format.order g 4831355200913801216 == some .gt) = false) : g ≤ 4831355200913801216 := by
  have h1 : Ieee.double.order g 4831355200913801216 = some (compare g 4831355200913801216) := order_any hg (by decide)
  have h2 : (Ieee.double.order g 4831355200913801216 == some .gt) = false := h
  rw [h1] at h2
  rcases Nat.lt_or_ge 4831355200913801216 g with k | k
  · rw [Nat.compare_eq_gt.2 k] at h2
    cases h2
  · exact k
/-- atof64exact: if it answers, with the nearest word. -/
theorem exact_any (d : Nat) (p : Int) (w : World) (h0 : 0 < d) (hd : d < 18446744073709551616) (hF : FpTab w) : Calls Tryz.prog 196 #[.int .u64 d, .int .i64 p, .bool false] w (EfIs w d p) := by
  obtain ⟨_, hF1, b, off, cp, _, hS, hC⟩ := hF
  rcases Nat.lt_or_ge d 4503599627370496 with h | h
  · have hu := unt_fl (K := d) h0 (by omega)
    have hfin := fl_fin (d := d) h0 (by omega)
    obtain ⟨f, hf⟩ : ∃ f, floatOfInt .f64 (d : Int) = f := ⟨_, rfl⟩
    rw [hf] at hu hfin
    by_cases hp : 37 < p ∨ p < -22
    · exact exact_out d f p w h0 h hF1 hf hp
    rcases Int.lt_trichotomy p 0 with g | g | g
    · obtain ⟨k, rfl⟩ : ∃ k : Nat, p = -(k : Int) := ⟨(-p).toNat, by omega⟩
      obtain ⟨y, hy, hy1, hy2, hy3⟩ := p10_unt (k := k) (by omega)
      obtain ⟨c, hc, ht, hl⟩ := quo_three hfin hy1 h0 (Nat.pow_pos (by decide)) hu hy2 hy3
      exact exact_neg d k f y c b off cp w h0 h (by omega) (by omega) hF1 hf hS (hC k y hy) hc ⟨PsIs.part ht, hl⟩
    · subst g
      refine exact_zero d f w h0 h hF1 hf ⟨?_, Nat.le_of_lt hfin⟩
      exact PsIs.whole (k := 0) (fun r hr _ => whole_tells hu hr) (by simp)
    · rcases Int.lt_or_le 22 p with k22 | k22
      · obtain ⟨k, hk⟩ : ∃ k : Nat, p = (k : Int) + 22 := ⟨(p - 22).toNat, by omega⟩
        subst hk
        obtain ⟨y, hy, hy1, hy2, hy3⟩ := p10_unt (k := k) (by omega)
        obtain ⟨z, hz, hz1, hz2, hz3⟩ := p10_unt (k := 22) (by decide)
        obtain ⟨c1, hc1, ht1, hp1, hl1⟩ := mul_three hfin hy1 h0 (Nat.pow_pos (by decide)) hu hy2
        cases ht : (FloatKind.f64.format.order c1 4831355200913801216 == some .gt)
        · have hle := le_15 ht1 hp1 (not_gt hl1 ht)
          have hX : 0 < d * 10 ^ k := Nat.mul_pos h0 (Nat.pow_pos (by decide))
          have hu2 := unt_fl (K := d * 10 ^ k) hX (by omega)
          have hf2 := fl_fin (d := d * 10 ^ k) hX (by omega)
          have hpos : 0 < floatOfInt .f64 ((d * 10 ^ k : Nat) : Int) := by
            rcases Nat.eq_zero_or_pos (floatOfInt .f64 ((d * 10 ^ k : Nat) : Int)) with g0 | g0
            · rw [g0, show unt 0 = 0 by decide] at hu2
              have := Nat.mul_pos hX (Nat.two_pow_pos 1074)
              rw [← hu2] at this
              exact absurd this (Nat.lt_irrefl _)
            · exact g0
          have he := (ht1 _ hpos hf2).2 ((whole_tells hu2 hpos).1 rfl)
          rw [he] at hc1 ht
          obtain ⟨c, hc, ht2, _, hl2⟩ := mul_three hf2 hz1 hX (Nat.pow_pos (by decide)) hu2 hz2
          refine exact_high d k f y _ z c b off cp false w h0 h (by omega) (by omega) hF1 hf hS (hC k y hy) (hC 22 z hz) hc1 ht (not_less (Nat.le_of_lt hf2)) (fun _ => hc) (fun _ => ⟨?_, hl2⟩)
          have := PsIs.whole (M := d) (k := k + 22) ht2 (by rw [Nat.pow_add, Nat.mul_assoc])
          rw [show ((k + 22 : Nat) : Int) = (k : Int) + 22 by omega] at this
          exact this
        · exact exact_high d k f y c1 z 0 b off cp true w h0 h (by omega) (by omega) hF1 hf hS (hC k y hy) (hC 22 z hz) hc1 ht (not_less hl1) (fun g => by cases g) (fun g => by cases g)
      · obtain ⟨k, rfl⟩ : ∃ k : Nat, p = (k : Int) := ⟨p.toNat, by omega⟩
        obtain ⟨y, hy, hy1, hy2, _⟩ := p10_unt (k := k) (by omega)
        obtain ⟨c, hc, ht, _, hl⟩ := mul_three hfin hy1 h0 (Nat.pow_pos (by decide)) hu hy2
        exact exact_pos d k f y c b off cp _ w h0 h (by omega) (by omega) hF1 hf hS (hC k y hy) rfl (not_less (Nat.le_of_lt hfin)) hc (fun _ => ⟨PsIs.whole ht rfl, hl⟩)
  · exact exact_big d p w h hd hF1
end Go.Proofs.YtbcolebomgcphaaGreatFmt
