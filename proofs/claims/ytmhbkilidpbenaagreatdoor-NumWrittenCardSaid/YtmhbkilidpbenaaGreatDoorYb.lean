/- Bounds by powers of two of what sums, products and quotients of floats give. Each lemma's conditions stand in its own statement. -/
import Derived.Test.YtmhbkilidpbenaaGreatDoorX
namespace Go.Proofs.YtmhbkilidpbenaaGreatDoor
open Ieee

/-- The word of 2 to the E. -/
def wp (E : Int) : Nat := (E + 1023).toNat * 4503599627370496
/-- b is a number, not above 2 to the E in size. -/
def Bd (E : Int) (b : Nat) : Prop := b % 9223372036854775808 ≤ wp E
/-- mag times 2 to the place is not above 2 to the E. -/
def LeP (E : Int) (mag : Nat) (place : Int) : Prop := -5000 ≤ place ∧ mag * 2 ^ (place + 5000).toNat ≤ 2 ^ (E + 5000).toNat
def GeP (E : Int) (mag : Nat) (place : Int) : Prop := -5000 ≤ place ∧ 2 ^ (E + 5000).toNat ≤ mag * 2 ^ (place + 5000).toNat
theorem two_le {a b : Nat} : 2 ^ a ≤ 2 ^ b ↔ a ≤ b := Nat.pow_le_pow_iff_right (by decide)
theorem two_lt {a b : Nat} : 2 ^ a < 2 ^ b ↔ a < b := Nat.pow_lt_pow_iff_right (by decide)
theorem cut_le (neg : Bool) (n d : Nat) : Toward.even.cut neg n d ≤ n / (1 <<< min d (n.log2 + 2)) + 1 := by
  unfold Toward.cut
  dsimp only
  have : ∀ b : Bool, b.toNat ≤ 1 := by decide
  exact Nat.add_le_add_left (this _) _
theorem cut_ge (neg : Bool) (n d : Nat) : n / (1 <<< min d (n.log2 + 2)) ≤ Toward.even.cut neg n d := by
  unfold Toward.cut
  dsimp only
  exact Nat.le_add_right _ _
theorem cut_none' (neg : Bool) (mag : Nat) : Toward.even.cut neg mag 0 = mag := by
  unfold Toward.cut
  simp [Nat.mod_one]
theorem cut_exact' (neg : Bool) (M d : Nat) (h : 0 < M) : Toward.even.cut neg (M * 2 ^ d) d = M := by
  unfold Toward.cut
  rw [log2_mul_pow M d h, Nat.min_eq_left (by omega), Nat.one_shiftLeft]
  have h2 : 0 < 2 ^ d := Nat.two_pow_pos d
  dsimp only
  rw [Nat.mul_div_cancel _ h2, Nat.mul_mod_left]
  have e1 : decide (2 ^ d < 2 * 0) = false := by simp
  have e2 : (2 ^ d == 2 * 0) = false := by simp
  rw [e1, e2]
  rfl
theorem nearest_word (s : Bool) (mag : Nat) (place last : Int) (h0 : 0 < mag) (hl : last = max (place + (mag.log2 : Int) - 52) (-1074)) :
    double.nearest s mag place % 9223372036854775808 = min ((last + 1074).toNat * 4503599627370496 + Toward.even.cut s (mag <<< (place - last).toNat) (last - place).toNat) 9218868437227405312 := by
  unfold Format.nearest
  have e3 : double.infRung = 9218868437227405312 := by decide
  have e4 : double.leastPlace = -1074 := by decide
  have e2 : double.binade = 4503599627370496 := by decide
  have e5 : double.fractionBits = 52 := rfl
  rw [if_neg (by omega)]
  simp only [e2, e3, e4, e5]
  rw [show ((52 : Nat) : Int) = 52 from rfl, ← hl, show last - -1074 = last + 1074 by omega]
  obtain ⟨R, hR⟩ : ∃ R, min ((last + 1074).toNat * 4503599627370496 + Toward.even.cut s (mag <<< (place - last).toNat) (last - place).toNat) 9218868437227405312 = R := ⟨_, rfl⟩
  have hR2 : R ≤ 9218868437227405312 := by rw [← hR]; exact Nat.min_le_right _ _
  rw [hR]
  unfold Format.word
  have e6 : double.signWeight = 9223372036854775808 := by decide
  rw [e6]
  split <;> omega
theorem write_le {E place : Int} {mag : Nat} (h : LeP E mag place) (hE0 : -1021 ≤ E) (s : Bool) : Bd E (double.nearest s mag place) := by
  unfold Bd wp
  rcases Nat.eq_zero_or_pos mag with h0 | h0
  · subst h0
    unfold Format.nearest Format.word
    have e6 : double.signWeight = 9223372036854775808 := by decide
    rw [if_pos rfl, e6]
    cases s <;> simp
  · obtain ⟨hp, hle⟩ := h
    obtain ⟨L, hL⟩ : ∃ L, mag.log2 = L := ⟨_, rfl⟩
    have lo : 2 ^ L ≤ mag := by rw [← hL]; exact Nat.log2_self_le (by omega)
    have hi : mag < 2 ^ (L + 1) := by rw [← hL]; exact Nat.lt_log2_self
    obtain ⟨last, hlast⟩ : ∃ last, last = max (place + (L : Int) - 52) (-1074) := ⟨_, rfl⟩
    have hw := nearest_word s mag place last h0 (by rw [hL]; exact hlast)
    rw [hw]
    clear hw
    obtain ⟨K, hK⟩ : ∃ K, Toward.even.cut s (mag <<< (place - last).toNat) (last - place).toNat = K := ⟨_, rfl⟩
    rw [hK]
    have hLE : (L : Int) + place ≤ E := by
      have h1 : 2 ^ (L + (place + 5000).toNat) ≤ 2 ^ (E + 5000).toNat := by
        rw [Nat.pow_add]
        exact Nat.le_trans (Nat.mul_le_mul_right _ lo) hle
      have := two_le.1 h1
      clear lo hi hle hK hlast h1
      omega
    have hKb : K ≤ 9007199254740992 := by
      rcases Int.le_total last place with g | g
      · rw [show (last - place).toNat = 0 by omega, cut_none', Nat.shiftLeft_eq] at hK
        rw [← hK]
        have h1 : mag * 2 ^ (place - last).toNat ≤ 2 ^ (L + 1) * 2 ^ (place - last).toNat := Nat.mul_le_mul_right _ (Nat.le_of_lt hi)
        rw [← Nat.pow_add] at h1
        have h2 : 2 ^ (L + 1 + (place - last).toNat) ≤ 2 ^ 53 := two_le.2 (by clear lo hi hle hK h1; omega)
        exact Nat.le_trans h1 h2
      · rw [show (place - last).toNat = 0 by omega, Nat.shiftLeft_eq, Nat.pow_zero, Nat.mul_one] at hK
        have h1 := cut_le s mag (last - place).toNat
        rw [hK, Nat.one_shiftLeft, hL] at h1
        have h2 : mag / 2 ^ min (last - place).toNat (L + 2) < 2 ^ 53 := by
          rw [Nat.div_lt_iff_lt_mul (Nat.two_pow_pos _), ← Nat.pow_add]
          exact Nat.lt_of_lt_of_le hi (two_le.2 (by clear lo hi hle hK h1; omega))
        exact Nat.le_trans h1 h2
    rcases Int.lt_or_le ((L : Int) + place) E with g | g
    · have : last ≤ E - 53 := by clear lo hi hle hK; omega
      clear lo hi hle hK hlast
      omega
    · have hEq : (L : Int) + place = E := by clear lo hi hle hK hlast; omega
      have hm : mag = 2 ^ L := by
        have h1 : mag * 2 ^ (place + 5000).toNat ≤ 2 ^ L * 2 ^ (place + 5000).toNat := by
          rw [← Nat.pow_add, show L + (place + 5000).toNat = (E + 5000).toNat by clear lo hi hle hK hlast; omega]
          exact hle
        have := (Nat.mul_le_mul_right_iff (Nat.two_pow_pos _)).1 h1
        exact Nat.le_antisymm this lo
      have hlast2 : last = E - 52 := by clear lo hi hle hK hm; omega
      have hK2 : K = 4503599627370496 := by
        rcases Int.le_total last place with g' | g'
        · have hd0 : (last - place).toNat = 0 := by clear lo hi hle hK hm; omega
          have hd1 : L + (place - last).toNat = 52 := by clear lo hi hle hK hm; omega
          rw [hd0, cut_none', Nat.shiftLeft_eq, hm, ← Nat.pow_add, hd1] at hK
          rw [← hK]
        · have hd0 : (place - last).toNat = 0 := by clear lo hi hle hK hm; omega
          have hd1 : L = 52 + (last - place).toNat := by clear lo hi hle hK hm; omega
          have hm2 : mag = 2 ^ 52 * 2 ^ (last - place).toNat := by rw [hm, ← Nat.pow_add, ← hd1]
          rw [hd0, Nat.shiftLeft_eq, Nat.pow_zero, Nat.mul_one, hm2] at hK
          rw [← hK]
          exact cut_exact' s (2 ^ 52) _ (by decide)
      clear lo hi hle hK hm hKb hlast
      omega
theorem write_ge {E place : Int} {mag : Nat} (h : GeP E mag place) (hE0 : -1021 ≤ E) (hE1 : E ≤ 1000) (s : Bool) : wp E ≤ double.nearest s mag place % 9223372036854775808 := by
  unfold wp
  obtain ⟨hp, hle⟩ := h
  have h0 : 0 < mag := by
    rcases Nat.eq_zero_or_pos mag with g | g
    · subst g
      rw [Nat.zero_mul] at hle
      have := Nat.two_pow_pos (E + 5000).toNat
      omega
    · exact g
  obtain ⟨L, hL⟩ : ∃ L, mag.log2 = L := ⟨_, rfl⟩
  have lo : 2 ^ L ≤ mag := by rw [← hL]; exact Nat.log2_self_le (by omega)
  have hi : mag < 2 ^ (L + 1) := by rw [← hL]; exact Nat.lt_log2_self
  obtain ⟨last, hlast⟩ : ∃ last, last = max (place + (L : Int) - 52) (-1074) := ⟨_, rfl⟩
  have hw := nearest_word s mag place last h0 (by rw [hL]; exact hlast)
  rw [hw]
  clear hw
  obtain ⟨K, hK⟩ : ∃ K, Toward.even.cut s (mag <<< (place - last).toNat) (last - place).toNat = K := ⟨_, rfl⟩
  rw [hK]
  have hLE : E ≤ (L : Int) + place := by
    have h1 : 2 ^ (E + 5000).toNat < 2 ^ (L + 1 + (place + 5000).toNat) := by
      rw [Nat.pow_add]
      exact Nat.lt_of_le_of_lt hle ((Nat.mul_lt_mul_right (Nat.two_pow_pos _)).2 hi)
    have := two_lt.1 h1
    clear lo hi hle hK hlast h1
    omega
  have hlast2 : last = place + (L : Int) - 52 := by clear lo hi hle hK; omega
  have hKb : 4503599627370496 ≤ K := by
    rcases Int.le_total last place with g | g
    · have hd0 : (last - place).toNat = 0 := by clear lo hi hle hK; omega
      have hd1 : L + (place - last).toNat = 52 := by clear lo hi hle hK; omega
      rw [hd0, cut_none', Nat.shiftLeft_eq] at hK
      rw [← hK]
      have h1 : 2 ^ L * 2 ^ (place - last).toNat ≤ mag * 2 ^ (place - last).toNat := Nat.mul_le_mul_right _ lo
      rw [← Nat.pow_add, hd1] at h1
      exact h1
    · have hd0 : (place - last).toNat = 0 := by clear lo hi hle hK; omega
      have hd1 : 52 + (last - place).toNat = L := by clear lo hi hle hK; omega
      rw [hd0, Nat.shiftLeft_eq, Nat.pow_zero, Nat.mul_one] at hK
      have h1 := cut_ge s mag (last - place).toNat
      rw [hK, Nat.one_shiftLeft, hL, Nat.min_eq_left (by clear lo hi hle hK h1; omega)] at h1
      have h2 : 2 ^ 52 ≤ mag / 2 ^ (last - place).toNat := by
        rw [Nat.le_div_iff_mul_le (Nat.two_pow_pos _), ← Nat.pow_add, hd1]
        exact lo
      exact Nat.le_trans h2 h1
  clear lo hi hle hK hlast
  omega
theorem read_num {b : Nat} (h : b % 9223372036854775808 < 9218868437227405312) :
    double.read b = .number (b / 9223372036854775808 % 2 == 1) (mant (b % 9223372036854775808)) (expo (b % 9223372036854775808)) := by
  have := read_pos h
  unfold Format.read at this ⊢
  have e1 : double.signWeight = 9223372036854775808 := by decide
  have e2 : double.binade = 4503599627370496 := by decide
  have e3 : double.infRung = 9218868437227405312 := by decide
  have e4 : double.leastPlace = -1074 := by decide
  simp only [e1, e2, e3, e4, Nat.mod_mod] at this ⊢
  obtain ⟨r, hr⟩ : ∃ r, b % 9223372036854775808 = r := ⟨_, rfl⟩
  rw [hr] at this h ⊢
  by_cases g : r < 4503599627370496
  · rw [if_pos g] at this ⊢
    injection this with _ h2 h3
    rw [← h2, ← h3]
  · rw [if_neg g, if_pos h] at this ⊢
    injection this with _ h2 h3
    rw [h2, h3]
theorem unt_wp {E : Int} (h0 : -1022 ≤ E) : unt (wp E) = 2 ^ (E + 1074).toNat := by
  unfold wp
  obtain ⟨k, hk⟩ : ∃ k : Nat, (E + 1023).toNat = k + 1 := ⟨(E + 1023).toNat - 1, by omega⟩
  have e1 := mant_of (k + 1) 0 (by omega) (by omega)
  have e2 := expo_of (k + 1) 0 (by omega) (by omega)
  rw [Nat.add_zero] at e1 e2
  unfold unt
  rw [hk, e1, e2, show (((k + 1 : Nat) : Int) - 1075 + 1074).toNat = k by omega, show (E + 1074).toNat = 52 + k by omega, Nat.pow_add]
theorem wp_lt {E : Int} (h : E ≤ 1000) : wp E < 9218868437227405312 := by unfold wp; omega
theorem bd_read {E : Int} {b : Nat} (h : Bd E b) (h0 : -1021 ≤ E) (h1 : E ≤ 1000) :
    ∃ s m e, double.read b = .number s m e ∧ LeP E m e ∧ -1074 ≤ e ∧ e ≤ 971 ∧ m < 9007199254740992 ∧ m = mant (b % 9223372036854775808) ∧ e = expo (b % 9223372036854775808) := by
  have hlt := Nat.lt_of_le_of_lt h (wp_lt h1)
  refine ⟨_, _, _, read_num hlt, ⟨by have := expo_ge (b % 9223372036854775808); omega, ?_⟩, expo_ge _, expo_le hlt, mant_lt _, rfl, rfl⟩
  have hx := expo_ge (b % 9223372036854775808)
  have hu := unt_le h
  rw [unt_wp (by omega)] at hu
  unfold unt at hu
  rw [show (expo (b % 9223372036854775808) + 5000).toNat = (expo (b % 9223372036854775808) + 1074).toNat + 3926 by omega, show (E + 5000).toNat = (E + 1074).toNat + 3926 by omega, Nat.pow_add, Nat.pow_add, ← Nat.mul_assoc]
  exact Nat.mul_le_mul_right _ hu
set_option exponentiation.threshold 6000 in
theorem bd_mul {E F : Int} {a b : Nat} (ha : Bd E a) (hb : Bd F b) (hE0 : -1021 ≤ E) (hE1 : E ≤ 1000) (hF0 : -1021 ≤ F) (hF1 : F ≤ 1000) (hG : -1021 ≤ E + F) :
    ∃ c, floatBits .mul .f64 a b = some c ∧ Bd (E + F) c := by
  obtain ⟨s, m, i, ra, ⟨pa, la⟩, _, _, _, _, _⟩ := bd_read ha hE0 hE1
  obtain ⟨t, n, j, rb, ⟨pb, lb⟩, _, _, _, _, _⟩ := bd_read hb hF0 hF1
  refine ⟨double.nearest (s ^^ t) (m * n) (i + j), ?_, write_le ⟨by omega, ?_⟩ hG _⟩
  · show double.mul a b = _
    unfold Format.mul
    rw [ra, rb]
    rfl
  · have h := Nat.mul_le_mul la lb
    have e1 : m * 2 ^ (i + 5000).toNat * (n * 2 ^ (j + 5000).toNat) = m * n * 2 ^ (i + j + 5000).toNat * 2 ^ 5000 := by
      have : 2 ^ (i + 5000).toNat * 2 ^ (j + 5000).toNat = 2 ^ (i + j + 5000).toNat * 2 ^ 5000 := by
        rw [← Nat.pow_add, ← Nat.pow_add]
        congr 1
        omega
      calc m * 2 ^ (i + 5000).toNat * (n * 2 ^ (j + 5000).toNat) = m * n * (2 ^ (i + 5000).toNat * 2 ^ (j + 5000).toNat) := by grind
        _ = _ := by rw [this, ← Nat.mul_assoc]
    have e2 : 2 ^ (E + 5000).toNat * 2 ^ (F + 5000).toNat = 2 ^ (E + F + 5000).toNat * 2 ^ 5000 := by
      rw [← Nat.pow_add, ← Nat.pow_add]
      congr 1
      omega
    rw [e1, e2] at h
    exact (Nat.mul_le_mul_right_iff (Nat.two_pow_pos _)).1 h
theorem signed_abs (s : Bool) (m k : Nat) : (signed s m k).natAbs = m * 2 ^ k := by
  unfold signed
  rw [Nat.shiftLeft_eq]
  cases s
  · rw [if_neg (by decide)]
    exact Int.natAbs_natCast _
  · rw [if_pos rfl, Int.natAbs_neg]
    exact Int.natAbs_natCast _
theorem bd_sum {E F G : Int} {m n : Nat} {i j : Int} (s t : Bool) (ha : LeP E m i) (hb : LeP F n j) (hE : E + 1 ≤ G) (hF : F + 1 ≤ G) (hG : -1021 ≤ G) :
    ∃ c, (Datum.number s m i).sum (Datum.number t n j) = some c ∧ Bd G (double.write c) := by
  refine ⟨_, rfl, write_le ?_ hG _⟩
  obtain ⟨pa, la⟩ := ha
  obtain ⟨pb, lb⟩ := hb
  obtain ⟨base, hbase⟩ : ∃ base, min i j = base := ⟨_, rfl⟩
  rw [hbase]
  refine ⟨by omega, ?_⟩
  have h1 := Int.natAbs_add_le (signed s m (i - base).toNat) (signed t n (j - base).toNat)
  rw [signed_abs, signed_abs] at h1
  have h2 := Nat.mul_le_mul_right (2 ^ (base + 5000).toNat) h1
  rw [Nat.add_mul, Nat.mul_assoc m, Nat.mul_assoc n, ← Nat.pow_add, ← Nat.pow_add, show (i - base).toNat + (base + 5000).toNat = (i + 5000).toNat by omega, show (j - base).toNat + (base + 5000).toNat = (j + 5000).toNat by omega] at h2
  have h3 : 2 ^ (E + 5000).toNat ≤ 2 ^ (G - 1 + 5000).toNat := two_le.2 (by omega)
  have h4 : 2 ^ (F + 5000).toNat ≤ 2 ^ (G - 1 + 5000).toNat := two_le.2 (by omega)
  have h5 : 2 ^ (G + 5000).toNat = 2 ^ (G - 1 + 5000).toNat * 2 := by
    rw [show (G + 5000).toNat = (G - 1 + 5000).toNat + 1 by omega, Nat.pow_succ]
  omega
theorem bd_add {E F G : Int} {a b : Nat} (ha : Bd E a) (hb : Bd F b) (hE0 : -1021 ≤ E) (hF0 : -1021 ≤ F) (hE : E + 1 ≤ G) (hF : F + 1 ≤ G) (hG : G ≤ 1000) :
    ∃ c, floatBits .add .f64 a b = some c ∧ Bd G c := by
  obtain ⟨s, m, i, ra, la, _⟩ := bd_read ha hE0 (by omega)
  obtain ⟨t, n, j, rb, lb, _⟩ := bd_read hb hF0 (by omega)
  obtain ⟨c, hc, bc⟩ := bd_sum s t la lb hE hF (by omega)
  refine ⟨_, ?_, bc⟩
  show double.add a b = _
  unfold Format.add
  rw [ra, rb, hc]
  rfl
theorem bd_sub {E F G : Int} {a b : Nat} (ha : Bd E a) (hb : Bd F b) (hE0 : -1021 ≤ E) (hF0 : -1021 ≤ F) (hE : E + 1 ≤ G) (hF : F + 1 ≤ G) (hG : G ≤ 1000) :
    ∃ c, floatBits .sub .f64 a b = some c ∧ Bd G c := by
  obtain ⟨s, m, i, ra, la, _⟩ := bd_read ha hE0 (by omega)
  obtain ⟨t, n, j, rb, lb, _⟩ := bd_read hb hF0 (by omega)
  obtain ⟨c, hc, bc⟩ := bd_sum s (!t) la lb hE hF (by omega)
  refine ⟨_, ?_, bc⟩
  show double.sub a b = _
  unfold Format.sub
  rw [ra, rb]
  show ((Datum.number s m i).sum (.number (!t) n j)).map double.write = _
  rw [hc]
  rfl
set_option exponentiation.threshold 6000 in
/-- A divisor that is at least 2 to the D. -/
theorem bd_div {E F D : Int} {a b : Nat} (ha : Bd E a) (hb : Bd F b) (hd : wp D ≤ b % 9223372036854775808) (hE0 : -1021 ≤ E) (hE1 : E ≤ 1000) (hF0 : -1021 ≤ F) (hF1 : F ≤ 1000) (hD : -1021 ≤ D) (hG : -1021 ≤ E - D) (hD1 : D ≤ 1000) :
    ∃ c, floatBits .quo .f64 a b = some c ∧ Bd (E - D) c := by
  obtain ⟨s, m, i, ra, ⟨pa, la⟩, a1, a2, a3, _, _⟩ := bd_read ha hE0 hE1
  obtain ⟨t, n, j, rb, ⟨pb, lb⟩, b1, b2, b3, b4, b5⟩ := bd_read hb hF0 hF1
  have hn : 2 ^ (D + 5000).toNat ≤ n * 2 ^ (j + 5000).toNat := by
    have hu := unt_le hd
    rw [unt_wp (by omega)] at hu
    unfold unt at hu
    rw [← b4, ← b5] at hu
    rw [show (j + 5000).toNat = (j + 1074).toNat + 3926 by omega, show (D + 5000).toNat = (D + 1074).toNat + 3926 by omega, Nat.pow_add, Nat.pow_add, ← Nat.mul_assoc]
    exact Nat.mul_le_mul_right _ hu
  have hn0 : n ≠ 0 := by
    intro g
    rw [g, Nat.zero_mul] at hn
    have := Nat.two_pow_pos (D + 5000).toNat
    omega
  obtain ⟨more, hmore⟩ : ∃ more, 54 + n.log2 - m.log2 = more := ⟨_, rfl⟩
  have hnl : n.log2 < 53 := (Nat.log2_lt hn0).2 b3
  refine ⟨double.nearest (s ^^ t) (2 * ((m <<< more) / n) + ((m <<< more) % n != 0).toNat) (i - j - more - 1), ?_, write_le ⟨by omega, ?_⟩ hG _⟩
  · show double.div a b = _
    unfold Format.div
    rw [ra, rb]
    unfold Datum.quotient
    dsimp only
    rw [if_neg hn0, show double.fractionBits + 2 = 54 from rfl, hmore]
    rfl
  · rw [Nat.shiftLeft_eq]
    rcases Nat.eq_zero_or_pos m with g | g
    · subst g
      simp
    · -- q = m 2^i / (n 2^j) ≤ 2^(E - D); in units of the place
      obtain ⟨q, hq⟩ : ∃ q, m * 2 ^ more / n = q := ⟨_, rfl⟩
      obtain ⟨l, hl⟩ : ∃ l, m * 2 ^ more % n = l := ⟨_, rfl⟩
      have hdm : n * q + l = m * 2 ^ more := by rw [← hq, ← hl]; exact Nat.div_add_mod _ _
      rw [hq, hl]
      obtain ⟨P, hP⟩ : ∃ P, (i - j - (more : Int) + 5000).toNat = P := ⟨_, rfl⟩
      obtain ⟨Y, hY⟩ : ∃ Y, (E - D + 5000).toNat = Y := ⟨_, rfl⟩
      have hpl : (i - j - (more : Int) - 1 + 5000).toNat + 1 = P := by omega
      -- m 2^more 2^P 2^j.. : the bound
      have key : m * 2 ^ more * 2 ^ P ≤ n * 2 ^ Y := by
        have h1 : m * 2 ^ (i + 5000).toNat * 2 ^ (D + 5000).toNat ≤ 2 ^ (E + 5000).toNat * (n * 2 ^ (j + 5000).toNat) := Nat.mul_le_mul la hn
        have h2 : m * 2 ^ more * 2 ^ P * 2 ^ ((j + 5000).toNat + (D + 5000).toNat) = m * 2 ^ (i + 5000).toNat * 2 ^ (D + 5000).toNat * 2 ^ 5000 := by
          rw [Nat.mul_assoc m, Nat.mul_assoc m, Nat.mul_assoc m, Nat.mul_assoc m, ← Nat.pow_add, ← Nat.pow_add, ← Nat.pow_add, ← Nat.pow_add]
          congr 2
          omega
        have h3 : n * 2 ^ Y * 2 ^ ((j + 5000).toNat + (D + 5000).toNat) = 2 ^ (E + 5000).toNat * (n * 2 ^ (j + 5000).toNat) * 2 ^ 5000 := by
          have : 2 ^ Y * 2 ^ ((j + 5000).toNat + (D + 5000).toNat) = 2 ^ (E + 5000).toNat * 2 ^ (j + 5000).toNat * 2 ^ 5000 := by
            rw [← Nat.pow_add, ← Nat.pow_add, ← Nat.pow_add]
            congr 1
            omega
          rw [Nat.mul_assoc, this]
          grind
        refine (Nat.mul_le_mul_right_iff (Nat.two_pow_pos ((j + 5000).toNat + (D + 5000).toNat))).1 ?_
        rw [h2, h3]
        exact Nat.mul_le_mul_right _ h1
      have hq1 : 1 ≤ q := by
        rw [← hq, Nat.le_div_iff_mul_le (by omega), Nat.one_mul]
        have h1 : n < 2 ^ (n.log2 + 1) := Nat.lt_log2_self
        have h2 : 2 ^ m.log2 ≤ m := Nat.log2_self_le (by omega)
        have h3 : 2 ^ m.log2 * 2 ^ more ≤ m * 2 ^ more := Nat.mul_le_mul_right _ h2
        rw [← Nat.pow_add] at h3
        have h4 : 2 ^ (n.log2 + 1) ≤ 2 ^ (m.log2 + more) := two_le.2 (by omega)
        omega
      have hqY : n * (q * 2 ^ P) ≤ n * 2 ^ Y := by
        have : n * (q * 2 ^ P) ≤ m * 2 ^ more * 2 ^ P := by
          rw [← Nat.mul_assoc]
          exact Nat.mul_le_mul_right _ (by omega)
        omega
      have hqY2 : q * 2 ^ P ≤ 2 ^ Y := Nat.le_of_mul_le_mul_left hqY (by omega)
      have hPY : P ≤ Y := by
        have h1 : 1 * 2 ^ P ≤ q * 2 ^ P := Nat.mul_le_mul_right _ hq1
        rw [Nat.one_mul] at h1
        exact two_le.1 (Nat.le_trans h1 hqY2)
      rw [hY]
      have e2P : 2 ^ P = 2 * 2 ^ (i - j - (more : Int) - 1 + 5000).toNat := by rw [← hpl, Nat.pow_succ, Nat.mul_comm]
      rcases Nat.eq_zero_or_pos l with gl | gl
      · have e0 : (l != 0).toNat = 0 := by rw [gl]; rfl
        rw [e0, Nat.add_zero]
        rw [e2P] at hqY2
        have : 2 * q * 2 ^ (i - j - (more : Int) - 1 + 5000).toNat = q * (2 * 2 ^ (i - j - (more : Int) - 1 + 5000).toNat) := by grind
        rw [this]
        exact hqY2
      · have e1 : (l != 0).toNat = 1 := by
          have : (l != 0) = true := by simp; omega
          rw [this]; rfl
        rw [e1]
        -- q 2^P < 2^Y, so (q + 1) 2^P ≤ 2^Y
        have hstrict : n * (q * 2 ^ P) < n * 2 ^ Y := by
          have : n * (q * 2 ^ P) < m * 2 ^ more * 2 ^ P := by
            rw [← Nat.mul_assoc]
            exact (Nat.mul_lt_mul_right (Nat.two_pow_pos _)).2 (by omega)
          omega
        have h1 := Nat.lt_of_mul_lt_mul_left hstrict
        obtain ⟨Z, rfl⟩ := Nat.exists_eq_add_of_le hPY
        rw [Nat.pow_add, Nat.mul_comm (2 ^ P)] at h1
        rw [Nat.pow_add, Nat.mul_comm (2 ^ P)]
        have h2 := Nat.lt_of_mul_lt_mul_right h1
        have h3 : (q + 1) * 2 ^ P ≤ 2 ^ Z * 2 ^ P := Nat.mul_le_mul_right _ h2
        rw [e2P] at h3 ⊢
        have h4 : (2 * q + 1) * 2 ^ (i - j - (more : Int) - 1 + 5000).toNat ≤ (q + 1) * (2 * 2 ^ (i - j - (more : Int) - 1 + 5000).toNat) := by
          generalize 2 ^ (i - j - (more : Int) - 1 + 5000).toNat = z
          have e3 : (2 * q + 1) * z = 2 * (q * z) + z := by grind
          have e4 : (q + 1) * (2 * z) = 2 * (q * z) + 2 * z := by grind
          omega
        exact Nat.le_trans h4 h3
end Go.Proofs.YtmhbkilidpbenaaGreatDoor
