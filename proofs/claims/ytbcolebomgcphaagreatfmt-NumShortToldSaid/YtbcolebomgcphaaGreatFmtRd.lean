/- The plain law of a product and a quotient of words: the word nearest to the number. Each lemma's conditions stand in its own statement. The plain law of a shortest decimal number: read again it is the word; with digits fewer it is not. Each lemma's conditions stand in its own statement. The plain law of an exact product and quotient of two whole numbers as words. Each lemma's conditions stand in its own statement. -/
import Derived.Test.YtbcolebomgcphaaGreatFmtRa
import Derived.Test.YtbcolebomgcphaaGreatFmtXc
import Derived.Test.YtbcolebomgcphaaGreatFmtZg
import Derived.Test.YtbcolebomgcphaaGreatFmtXh
namespace Go.Proofs.YtbcolebomgcphaaGreatFmt
open Ieee

/-- A cut to the nearest, the even one of two. -/
theorem cut_round (s : Bool) (n d : Nat) (hd : d ≤ n.log2 + 2) :
    (Toward.even.cut s n d = n / 2 ^ d + 1 ∧ ((n / 2 ^ d + (n / 2 ^ d + 1)) * 2 ^ d < 2 * n ∨ ((n / 2 ^ d + (n / 2 ^ d + 1)) * 2 ^ d = 2 * n ∧ n / 2 ^ d % 2 = 1))) ∨
    (Toward.even.cut s n d = n / 2 ^ d ∧ (2 * n < (n / 2 ^ d + (n / 2 ^ d + 1)) * 2 ^ d ∨ (2 * n = (n / 2 ^ d + (n / 2 ^ d + 1)) * 2 ^ d ∧ n / 2 ^ d % 2 = 0))) := by
  unfold Toward.cut
  dsimp only
  rw [Nat.min_eq_left hd, Nat.one_shiftLeft]
  have h0 := Nat.div_add_mod n (2 ^ d)
  have h1 := Nat.mod_lt n (Nat.two_pow_pos d)
  obtain ⟨f, hf⟩ : ∃ f, n / 2 ^ d = f := ⟨_, rfl⟩
  obtain ⟨l, hl⟩ : ∃ l, n % 2 ^ d = l := ⟨_, rfl⟩
  rw [hf] at h0 ⊢
  rw [hl] at h0 h1 ⊢
  generalize 2 ^ d = g at *
  have e : (f + (f + 1)) * g = 2 * (g * f) + g := by grind
  rw [e]
  by_cases k1 : g < 2 * l
  · left
    rw [decide_eq_true k1]
    exact ⟨rfl, .inl (by omega)⟩
  · rw [decide_eq_false k1]
    by_cases k2 : g = 2 * l
    · have k3 : (g == 2 * l) = true := by simpa using k2
      rw [k3]
      rcases Nat.mod_two_eq_zero_or_one f with g0 | g0
      · right
        rw [g0]
        exact ⟨rfl, .inr ⟨by omega, rfl⟩⟩
      · left
        rw [g0]
        exact ⟨rfl, .inr ⟨by omega, rfl⟩⟩
    · have k3 : (g == 2 * l) = false := by simpa using k2
      rw [k3]
      right
      exact ⟨rfl, .inl (by omega)⟩
theorem shl_log (mag up : Nat) (h : 0 < mag) : (mag <<< up).log2 = mag.log2 + up := by
  rw [Nat.shiftLeft_eq]
  have h0 := Nat.log2_self_le (show mag ≠ 0 by omega)
  have h1 := Nat.lt_log2_self (n := mag)
  have p := Nat.two_pow_pos up
  have hne : mag * 2 ^ up ≠ 0 := Nat.pos_iff_ne_zero.1 (Nat.mul_pos h p)
  refine Nat.le_antisymm ?_ ?_
  · refine Nat.lt_succ_iff.1 ((Nat.log2_lt hne).2 ?_)
    rw [show (mag.log2 + up).succ = mag.log2 + 1 + up by omega, Nat.pow_add]
    exact (Nat.mul_lt_mul_right p).2 h1
  · refine (Nat.le_log2 hne).2 ?_
    rw [Nat.pow_add]
    exact Nat.mul_le_mul_right _ h0
theorem nearest_rung {mag : Nat} {place : Int} (h0 : 0 < mag) (hn : -1022 ≤ place + mag.log2) {r : Nat} (hr2 : r < 9218868437227405312) :
    double.nearest false mag place = r ↔ rungOf (Toward.even.cut false (mag <<< (52 - mag.log2)) (mag.log2 - 52)) (-(52 - mag.log2 - place)) = r := by
  obtain ⟨c, hc⟩ : ∃ c, Toward.even.cut false (mag <<< (52 - mag.log2)) (mag.log2 - 52) = c := ⟨_, rfl⟩
  have h : double.nearest false mag place = min ((place + (mag.log2 : Int) + 1022).toNat * 4503599627370496 + c) 9218868437227405312 := by
    unfold Format.nearest
    have e3 : double.infRung = 9218868437227405312 := by decide
    have e4 : double.leastPlace = -1074 := by decide
    have e2 : double.binade = 4503599627370496 := by decide
    have e5 : double.fractionBits = 52 := rfl
    rw [if_neg (by omega)]
    simp only [e2, e3, e4, e5]
    rw [show max (place + (mag.log2 : Int) - ((52 : Nat) : Int)) (-1074) = place + mag.log2 - 52 by omega, show (place - (place + (mag.log2 : Int) - 52)).toNat = 52 - mag.log2 by omega, show (place + (mag.log2 : Int) - 52 - place).toNat = mag.log2 - 52 by omega, hc,
      show place + (mag.log2 : Int) - 52 - -1074 = place + mag.log2 + 1022 by omega]
    unfold Format.word
    rw [if_neg (by decide)]
  rw [h, hc]
  unfold rungOf
  rw [show (-(52 - (mag.log2 : Int) - place) + 1074).toNat = (place + (mag.log2 : Int) + 1022).toNat by omega]
  clear h hc
  generalize (place + (mag.log2 : Int) + 1022).toNat * 4503599627370496 + c = z
  omega
theorem near_floor {mag : Nat} (h0 : 0 < mag) : 4503599627370496 ≤ (mag <<< (52 - mag.log2)) / 2 ^ (mag.log2 - 52) ∧ (mag <<< (52 - mag.log2)) / 2 ^ (mag.log2 - 52) < 9007199254740992 := by
  have hl := shl_log mag (52 - mag.log2) h0
  obtain ⟨n, hn⟩ : ∃ n, mag <<< (52 - mag.log2) = n := ⟨_, rfl⟩
  obtain ⟨d, hd⟩ : ∃ d, mag.log2 - 52 = d := ⟨_, rfl⟩
  have hne : n ≠ 0 := by
    rw [← hn, Nat.shiftLeft_eq]
    exact Nat.pos_iff_ne_zero.1 (Nat.mul_pos h0 (Nat.two_pow_pos _))
  rw [hn, hd]
  rw [hn] at hl
  have h1 := Nat.log2_self_le hne
  have h2 := Nat.lt_log2_self (n := n)
  rw [show n.log2 = d + 52 by omega, Nat.pow_add] at h1
  rw [show n.log2 + 1 = d + 53 by omega, Nat.pow_add] at h2
  have p := Nat.two_pow_pos d
  constructor
  · refine (Nat.le_div_iff_mul_le p).2 ?_
    rw [Nat.mul_comm]
    exact h1
  · exact Nat.div_lt_of_lt_mul h2
set_option exponentiation.threshold 3000 in
/-- The nearest word to mag times 2 to the place, if it is a normal one. -/
theorem near_exact {mag P Q : Nat} {place : Int} (h0 : 0 < mag) (hn : -1022 ≤ place + mag.log2) (hp : -1075 ≤ place) (hQ : 0 < Q)
    (H : P * big = mag * Q * 2 ^ (1075 + place).toNat) {r : Nat} (hr : 0 < r) (hr2 : r < 9218868437227405312) :
    double.nearest false mag place = r ↔ Tells r P Q := by
  rw [nearest_rung h0 hn hr2]
  obtain ⟨f0, f1⟩ := near_floor h0
  have hc := cut_round false (mag <<< (52 - mag.log2)) (mag.log2 - 52) (by rw [shl_log mag _ h0]; omega)
  have hsh := Nat.shiftLeft_eq mag (52 - mag.log2)
  obtain ⟨L, hL⟩ : ∃ L, mag.log2 = L := ⟨_, rfl⟩
  rw [hL] at hc f0 f1 hn hsh ⊢
  obtain ⟨n, hnn⟩ : ∃ n, mag <<< (52 - L) = n := ⟨_, rfl⟩
  rw [hnn] at hc f0 f1 hsh ⊢
  obtain ⟨f, hf⟩ : ∃ f, n / 2 ^ (L - 52) = f := ⟨_, rfl⟩
  rw [hf] at hc f0 f1
  have pM := Nat.two_pow_pos (L - 52)
  refine tells_gen (A := 4 * n) (M := 2 ^ (L - 52)) (f := f) ?_ pM hQ ?_ f1 (.inl f0) ?_ hr
  · have e : (f + (f + 1)) * (4 * 2 ^ (L - 52)) = 4 * ((f + (f + 1)) * 2 ^ (L - 52)) := by grind
    rw [e]
    clear H hL
    generalize (f + (f + 1)) * 2 ^ (L - 52) = y at *
    omega
  · rw [Nat.mul_div_mul_left _ _ (by decide : 0 < 4), hf]
  · rw [H, hsh, show (1074 - (52 - (L : Int) - place)) = 1022 + L + place by omega]
    have e : 2 ^ (1075 + place).toNat * (2 * 2 ^ (L - 52)) = 4 * 2 ^ (52 - L) * 2 ^ (1022 + (L : Int) + place).toNat := by
      rw [show (4 : Nat) = 2 ^ 2 from rfl, ← Nat.pow_succ', ← Nat.pow_add, ← Nat.pow_add, ← Nat.pow_add]
      congr 1
      omega
    generalize 2 ^ (1075 + place).toNat = a1 at *
    generalize 2 ^ (L - 52) = a2 at *
    generalize 2 ^ (52 - L) = a3 at *
    generalize 2 ^ (1022 + (L : Int) + place).toNat = a4 at *
    calc mag * Q * a1 * (2 * a2) = mag * Q * (a1 * (2 * a2)) := by grind
      _ = mag * Q * (4 * a3 * a4) := by rw [e]
      _ = _ := by grind
set_option exponentiation.threshold 3000 in
/-- The same of a quotient N by k that is kept to a bit more than is wanted. -/
theorem near_quot {mag N k P Q : Nat} {place : Int} (hm : mag = 2 * (N / k) + (N % k != 0).toNat) (hL : 54 ≤ mag.log2) (hk : 0 < k) (hn : -1022 ≤ place + mag.log2) (hp : -1075 ≤ place) (hQ : 0 < Q)
    (H : P * big * k = N * Q * 2 ^ (1076 + place).toNat) {r : Nat} (hr : 0 < r) (hr2 : r < 9218868437227405312) :
    double.nearest false mag place = r ↔ Tells r P Q := by
  have h0 : 0 < mag := by
    rcases Nat.eq_zero_or_pos mag with g | g
    · rw [g] at hL; simp at hL
    · exact g
  rw [nearest_rung h0 hn hr2]
  obtain ⟨f0, f1⟩ := near_floor h0
  have hc := cut_round false (mag <<< (52 - mag.log2)) (mag.log2 - 52) (by rw [shl_log mag _ h0]; omega)
  rw [show 52 - mag.log2 = 0 by omega, Nat.shiftLeft_zero] at hc f0 f1 ⊢
  obtain ⟨d, hd⟩ : ∃ d, mag.log2 = d + 54 := ⟨mag.log2 - 54, by omega⟩
  rw [hd, show d + 54 - 52 = d + 2 by omega] at hc f0 f1 ⊢
  rw [hd] at hn
  clear hL hd
  obtain ⟨f, hf⟩ : ∃ f, mag / 2 ^ (d + 2) = f := ⟨_, rfl⟩
  rw [hf] at hc f0 f1
  have pM := Nat.two_pow_pos d
  have hdm := Nat.div_add_mod N k
  have hlt := Nat.mod_lt N hk
  have hst : (N % k != 0).toNat = if N % k = 0 then 0 else 1 := by
    by_cases g : N % k = 0
    · rw [if_pos g, g]; rfl
    · rw [if_neg g]
      have : (N % k != 0) = true := by simpa using g
      rw [this]; rfl
  rw [hst] at hm
  obtain ⟨q, hq⟩ : ∃ q, N / k = q := ⟨_, rfl⟩
  obtain ⟨l, hl⟩ : ∃ l, N % k = l := ⟨_, rfl⟩
  rw [hq, hl] at hdm hm
  rw [hl] at hlt
  -- the floor and the middle: multiples of 2^(d+2), 2^(d+1)
  have fl0 : f * 2 ^ (d + 2) ≤ mag := by rw [← hf]; exact Nat.div_mul_le_self _ _
  have fl1 : mag < (f + 1) * 2 ^ (d + 2) := by
    have e1 := Nat.div_add_mod mag (2 ^ (d + 2))
    have e2 := Nat.mod_lt mag (Nat.two_pow_pos (d + 2))
    rw [hf] at e1
    rw [show (f + 1) * 2 ^ (d + 2) = 2 ^ (d + 2) * f + 2 ^ (d + 2) by grind]
    omega
  have p4 : 2 ^ (d + 2) = 4 * 2 ^ d := by rw [Nat.pow_add, Nat.mul_comm]
  rw [p4] at fl0 fl1 hc
  clear hf hst
  generalize hg : 2 ^ d = g at *
  -- comparing the quotient with an even number z: as comparing mag
  have cmp : ∀ z : Nat, (mag < 2 * z ↔ N < z * k) ∧ (mag = 2 * z ↔ N = z * k) := by
    intro z
    have hN : N = q * k + l := by rw [Nat.mul_comm]; exact hdm.symm
    have m1 : ∀ a b : Nat, a ≤ b → a * k ≤ b * k := fun a b h => Nat.mul_le_mul_right _ h
    rcases Nat.lt_trichotomy q z with h | h | h
    · have := m1 (q + 1) z h
      rw [Nat.add_mul, Nat.one_mul] at this
      split at hm <;> (constructor <;> constructor <;> intro hh <;> omega)
    · subst h
      split at hm <;> (constructor <;> constructor <;> intro hh <;> omega)
    · have := m1 (z + 1) q h
      rw [Nat.add_mul, Nat.one_mul] at this
      split at hm <;> (constructor <;> constructor <;> intro hh <;> omega)
  have hM : 0 < k * (4 * g) := Nat.mul_pos hk (by omega)
  have c1 := cmp ((f + (f + 1)) * (2 * g) / 1)
  refine tells_gen (A := 8 * N) (M := k * (4 * g)) (f := f) ?_ hM hQ ?_ f1 (.inl f0) ?_ hr
  · have e1 : (f + (f + 1)) * (4 * g) = 4 * ((f + (f + 1)) * g) := by grind
    have e2 : (f + (f + 1)) * (4 * (k * (4 * g))) = 16 * ((f + (f + 1)) * g * k) := by grind
    rw [e1] at hc
    rw [e2]
    have c := cmp ((f + (f + 1)) * g)
    clear c1 cmp H hp hn hM
    generalize (f + (f + 1)) * g * k = yk at *
    generalize (f + (f + 1)) * g = y at *
    omega
  · have c := cmp (f * (2 * g))
    have c' := cmp ((f + 1) * (2 * g))
    have e1 : f * (4 * g) = 2 * (f * (2 * g)) := by grind
    have e2 : (f + 1) * (4 * g) = 2 * ((f + 1) * (2 * g)) := by grind
    rw [e1] at fl0
    rw [e2] at fl1
    have b1 : f * (2 * g) * k ≤ N := by
      rcases Nat.lt_or_ge N (f * (2 * g) * k) with h | h
      · have := c.1.2 h; omega
      · exact h
    have b2 := c'.1.1 fl1
    refine Nat.div_eq_of_lt_le ?_ ?_
    · have : f * (4 * (k * (4 * g))) = 8 * (f * (2 * g) * k) := by grind
      omega
    · have : (f + 1) * (4 * (k * (4 * g))) = 8 * ((f + 1) * (2 * g) * k) := by grind
      omega
  · have hlast : (1074 - (52 - ((d + 54 : Nat) : Int) - place)).toNat = (1076 + place).toNat + d := by omega
    rw [hlast, Nat.pow_add, hg]
    generalize 2 ^ (1076 + place).toNat = a1 at *
    generalize P * big = X at *
    calc X * (2 * (k * (4 * g))) = X * k * (8 * g) := by grind
      _ = N * Q * a1 * (8 * g) := by rw [H]
      _ = _ := by grind
end Go.Proofs.YtbcolebomgcphaaGreatFmt

namespace Go.Proofs.YtbcolebomgcphaaGreatFmt

set_option exponentiation.threshold 3000 in
theorem inI_tells {r D : Nat} {j : Int} (hj : -400 ≤ j) :
    InI (decide (r % 2 = 0)) ((unt (r - 1) + unt r) * T4) ((unt r + unt (r + 1)) * T4) (D * U10 big (j + 400).toNat) ↔ Tells r (D * 10 ^ j.toNat) (10 ^ (-j).toNat) := by
  have e : (10 : Nat) ^ (j + 400).toNat * 10 ^ (-j).toNat = 10 ^ j.toNat * T4 := by
    unfold T4
    rw [← Nat.pow_add, ← Nat.pow_add]
    congr 1
    omega
  have hQ : 0 < 10 ^ (-j).toNat := Nat.pow_pos (by decide)
  have hT := T4_pos
  unfold InI Tells U10
  generalize 10 ^ (j + 400).toNat = a at *
  generalize 10 ^ (-j).toNat = q at *
  generalize 10 ^ j.toNat = b at *
  generalize T4 = t at *
  generalize big = g at *
  have lo : ∀ z : Nat, (z * t ≤ D * (a * g) ↔ z * q ≤ D * b * g) ∧ (z * t < D * (a * g) ↔ z * q < D * b * g) ∧ (D * (a * g) ≤ z * t ↔ D * b * g ≤ z * q) ∧ (D * (a * g) < z * t ↔ D * b * g < z * q) := by
    intro z
    have e1 : z * t * q = z * q * t := by grind
    have e2 : D * (a * g) * q = D * b * g * t := by
      calc D * (a * g) * q = D * g * (a * q) := by grind
        _ = D * g * (b * t) := by rw [e]
        _ = _ := by grind
    refine ⟨?_, ?_, ?_, ?_⟩
    · rw [← Nat.mul_le_mul_right_iff hQ, e1, e2, Nat.mul_le_mul_right_iff hT]
    · rw [← Nat.mul_lt_mul_right hQ, e1, e2, Nat.mul_lt_mul_right hT]
    · rw [← Nat.mul_le_mul_right_iff hQ, e1, e2, Nat.mul_le_mul_right_iff hT]
    · rw [← Nat.mul_lt_mul_right hQ, e1, e2, Nat.mul_lt_mul_right hT]
  obtain ⟨l1, l2, _, _⟩ := lo (unt (r - 1) + unt r)
  obtain ⟨_, _, u1, u2⟩ := lo (unt r + unt (r + 1))
  rw [l1, l2, u1, u2]
  by_cases h : r % 2 = 0 <;> simp [h]
/-- Read again: the word. -/
theorem shr_tells {r D : Nat} {j : Int} (h : Shr r D j) : Tells r (D * 10 ^ j.toNat) (10 ^ (-j).toNat) := (inI_tells h.1).1 h.2.1
/-- At a higher place nothing tells the word. -/
theorem shr_fewer {r D : Nat} {j : Int} (h : Shr r D j) (k : Int) (hk : j < k) (D' : Nat) : ¬ Tells r (D' * 10 ^ k.toNat) (10 ^ (-k).toNat) := by
  have h1 := h.1
  rw [← inI_tells (by omega)]
  exact h.2.2.1 (k + 400).toNat D' (by omega)
theorem shr_odd {r D : Nat} {j : Int} (h : Shr r D j) : D % 10 ≠ 0 := by
  intro g
  refine shr_fewer h (j + 1) (by omega) (D / 10) ?_
  have h1 := h.1
  have h2 := (inI_tells (D := D / 10) (r := r) (j := j + 1) (by omega)).1
  refine h2 ?_
  have e : D / 10 * U10 big (j + 1 + 400).toNat = D * U10 big (j + 400).toNat := by
    rw [show (j + 1 + 400).toNat = (j + 400).toNat + 1 by omega, U10_succ]
    have : D = D / 10 * 10 := by omega
    generalize U10 big (j + 400).toNat = u
    calc D / 10 * (10 * u) = D / 10 * 10 * u := by grind
      _ = D * u := by rw [← this]
  rw [e]
  exact h.2.1
/-- Zeros behind change nothing. -/
theorem tells_zeros {r D : Nat} {j : Int} (k : Nat) : Tells r (D * 10 ^ k * 10 ^ j.toNat) (10 ^ (-j).toNat) ↔ Tells r (D * 10 ^ (j + k).toNat) (10 ^ (-(j + k)).toNat) := by
  have e : (10 : Nat) ^ k * 10 ^ j.toNat * 10 ^ (-(j + k)).toNat = 10 ^ (j + k).toNat * 10 ^ (-j).toNat := by
    rw [← Nat.pow_add, ← Nat.pow_add, ← Nat.pow_add]
    congr 1
    omega
  have p0 : 0 < 10 ^ (-(j + k)).toNat := Nat.pow_pos (by decide)
  have p1 : 0 < 10 ^ (-j).toNat := Nat.pow_pos (by decide)
  unfold Tells
  generalize 10 ^ (-(j + k)).toNat = a at *
  generalize 10 ^ (-j).toNat = b at *
  generalize 10 ^ (j + k).toNat = c at *
  generalize 10 ^ j.toNat = d at *
  generalize 10 ^ k = f at *
  generalize big = g at *
  have key : ∀ z : Nat, (z * b ≤ D * f * d * g ↔ z * a ≤ D * c * g) ∧ (z * b < D * f * d * g ↔ z * a < D * c * g) ∧ (D * f * d * g ≤ z * b ↔ D * c * g ≤ z * a) ∧ (D * f * d * g < z * b ↔ D * c * g < z * a) := by
    intro z
    have e1 : z * b * a = z * a * b := by grind
    have e2 : D * f * d * g * a = D * c * g * b := by
      calc D * f * d * g * a = D * g * (f * d * a) := by grind
        _ = D * g * (c * b) := by rw [e]
        _ = _ := by grind
    refine ⟨?_, ?_, ?_, ?_⟩
    · rw [← Nat.mul_le_mul_right_iff p0, e1, e2, Nat.mul_le_mul_right_iff p1]
    · rw [← Nat.mul_lt_mul_right p0, e1, e2, Nat.mul_lt_mul_right p1]
    · rw [← Nat.mul_le_mul_right_iff p0, e1, e2, Nat.mul_le_mul_right_iff p1]
    · rw [← Nat.mul_lt_mul_right p0, e1, e2, Nat.mul_lt_mul_right p1]
  obtain ⟨l1, l2, _, _⟩ := key (unt (r - 1) + unt r)
  obtain ⟨_, _, u1, u2⟩ := key (unt r + unt (r + 1))
  rw [l1, l2, u1, u2]
end Go.Proofs.YtbcolebomgcphaaGreatFmt

namespace Go.Proofs.YtbcolebomgcphaaGreatFmt
open Ieee

set_option exponentiation.threshold 3000 in
/-- A word that is a whole number: its parts. -/
theorem whole_parts {a X : Nat} (hu : unt a = X * 2 ^ 1074) (hX : 0 < X) : -52 ≤ expo a ∧ 4503599627370496 ≤ mant a ∧ mant a < 9007199254740992 ∧ mant a * 2 ^ (expo a + 1074).toNat = X * 2 ^ 1074 := by
  have h1 := mant_lt a
  have h2 := expo_ge a
  unfold unt at hu
  have he : -52 ≤ expo a := by
    rcases Int.lt_or_le (expo a) (-52) with g | g
    · exfalso
      have e1 : 2 ^ (expo a + 1074).toNat ≤ 2 ^ 1021 := Nat.pow_le_pow_right (by decide) (by omega)
      have e2 : mant a * 2 ^ (expo a + 1074).toNat < 9007199254740992 * 2 ^ 1021 :=
        Nat.lt_of_le_of_lt (Nat.mul_le_mul_left _ e1) ((Nat.mul_lt_mul_right (Nat.two_pow_pos _)).2 h1)
      have e3 : (9007199254740992 : Nat) * 2 ^ 1021 = 2 ^ 1074 := by
        rw [show (9007199254740992 : Nat) = 2 ^ 53 from rfl, ← Nat.pow_add]
      have e4 : 2 ^ 1074 ≤ X * 2 ^ 1074 := Nat.le_mul_of_pos_left _ hX
      rw [hu, e3] at e2
      omega
    · exact g
  refine ⟨he, ?_, h1, hu⟩
  have : ¬ a < 4503599627370496 := by
    intro g
    have : expo a = -1074 := by unfold expo; rw [if_pos g]
    omega
  unfold mant
  rw [if_neg this]
  omega
theorem log2_53 {m : Nat} (h0 : 4503599627370496 ≤ m) (h1 : m < 9007199254740992) : m.log2 = 52 := by
  have a := (Nat.log2_lt (n := m) (k := 53) (by omega)).2 (by omega)
  have b := (Nat.le_log2 (n := m) (k := 52) (by omega)).2 (by omega)
  omega
theorem log2_mul_ge {m n : Nat} (h0 : 4503599627370496 ≤ m) (h1 : 4503599627370496 ≤ n) : 104 ≤ (m * n).log2 := by
  refine (Nat.le_log2 (Nat.pos_iff_ne_zero.1 (Nat.mul_pos (by omega) (by omega)))).2 ?_
  have h := Nat.mul_le_mul h0 h1
  have e : (4503599627370496 : Nat) * 4503599627370496 = 2 ^ 104 := by decide
  rw [← e]
  exact h
set_option exponentiation.threshold 3000 in
theorem mul_tells {a b X Y : Nat} (ha : a < 9218868437227405312) (hb : b < 9218868437227405312) (hX : 0 < X) (hY : 0 < Y) (ua : unt a = X * 2 ^ 1074) (ub : unt b = Y * 2 ^ 1074) :
    ∃ c, floatBits .mul .f64 a b = some c ∧ ∀ r, 0 < r → r < 9218868437227405312 → (c = r ↔ Tells r (X * Y) 1) := by
  obtain ⟨a1, a2, a3, a4⟩ := whole_parts ua hX
  obtain ⟨b1, b2, b3, b4⟩ := whole_parts ub hY
  refine ⟨double.nearest (false ^^ false) (mant a * mant b) (expo a + expo b), ?_, fun r hr hr2 => ?_⟩
  · show double.mul a b = _
    unfold Format.mul
    rw [read_pos ha, read_pos hb]
    rfl
  · have hl := log2_mul_ge a2 b2
    refine near_exact (Nat.mul_pos (by omega) (by omega)) (by omega) (by omega) (by decide) ?_ hr hr2
    have e : 2 ^ (expo a + 1074).toNat * 2 ^ (expo b + 1074).toNat = 2 ^ (1075 + (expo a + expo b)).toNat * 2 ^ 1073 := by
      rw [← Nat.pow_add, ← Nat.pow_add]
      congr 1
      omega
    have e2 : (2 : Nat) ^ 1074 * 2 ^ 1074 = 2 ^ 1075 * 2 ^ 1073 := (Nat.pow_add 2 1074 1074).symm.trans (Nat.pow_add 2 1075 1073)
    unfold big
    have p : 0 < 2 ^ 1073 := Nat.two_pow_pos _
    refine Nat.eq_of_mul_eq_mul_right p ?_
    generalize (2 : Nat) ^ 1073 = z at *
    generalize (2 : Nat) ^ 1074 = y at *
    generalize (2 : Nat) ^ 1075 = x at *
    generalize 2 ^ (expo a + 1074).toNat = c1 at *
    generalize 2 ^ (expo b + 1074).toNat = c2 at *
    generalize 2 ^ (1075 + (expo a + expo b)).toNat = c3 at *
    calc X * Y * x * z = X * Y * (x * z) := by grind
      _ = (X * y) * (Y * y) := by rw [← e2]; grind
      _ = (mant a * c1) * (mant b * c2) := by rw [a4, b4]
      _ = mant a * mant b * (c1 * c2) := by grind
      _ = mant a * mant b * (c3 * z) := by rw [e]
      _ = _ := by grind
set_option exponentiation.threshold 3000 in
theorem quo_tells {a b X Y : Nat} (ha : a < 9218868437227405312) (hb : b < 9218868437227405312) (hX : 0 < X) (hY : 0 < Y) (ua : unt a = X * 2 ^ 1074) (ub : unt b = Y * 2 ^ 1074) (hbx : expo b ≤ 800) :
    ∃ c, floatBits .quo .f64 a b = some c ∧ ∀ r, 0 < r → r < 9218868437227405312 → (c = r ↔ Tells r X Y) := by
  obtain ⟨a1, a2, a3, a4⟩ := whole_parts ua hX
  obtain ⟨b1, b2, b3, b4⟩ := whole_parts ub hY
  have la := log2_53 a2 a3
  have lb := log2_53 b2 b3
  refine ⟨double.nearest (false ^^ false) (2 * ((mant a <<< 54) / mant b) + ((mant a <<< 54) % mant b != 0).toNat) (expo a - expo b - (54 : Nat) - 1), ?_, fun r hr hr2 => ?_⟩
  · show double.div a b = _
    unfold Format.div
    rw [read_pos ha, read_pos hb]
    unfold Datum.quotient
    dsimp only
    rw [if_neg (by omega), show double.fractionBits + 2 = 54 from rfl, la, lb]
    rfl
  · rw [Nat.shiftLeft_eq]
    have hq : 9007199254740992 ≤ mant a * 2 ^ 54 / mant b := by
      clear ua ub a4 b4
      refine (Nat.le_div_iff_mul_le (by omega)).2 ?_
      have h1 : 9007199254740992 * mant b ≤ 9007199254740992 * 9007199254740992 := Nat.mul_le_mul_left _ (Nat.le_of_lt b3)
      have h2 : 4503599627370496 * 2 ^ 54 ≤ mant a * 2 ^ 54 := Nat.mul_le_mul_right _ a2
      have e3 : (9007199254740992 : Nat) * 9007199254740992 = 4503599627370496 * 2 ^ 54 := by decide
      rw [e3] at h1
      exact Nat.le_trans h1 h2
    obtain ⟨mag, hmag⟩ : ∃ mag, 2 * (mant a * 2 ^ 54 / mant b) + (mant a * 2 ^ 54 % mant b != 0).toNat = mag := ⟨_, rfl⟩
    have hlog : 54 ≤ mag.log2 := by
      have e54 : (2 : Nat) ^ 54 = 18014398509481984 := by decide
      clear ua ub a4 b4
      refine (Nat.le_log2 (by omega)).2 ?_
      rw [e54]
      omega
    rw [hmag]
    have x1 : 0 < mant b := by clear ua ub a4 b4; omega
    have x2 : -1022 ≤ expo a - expo b - ((54 : Nat) : Int) - 1 + mag.log2 := by clear ua ub a4 b4; omega
    have x3 : -1075 ≤ expo a - expo b - ((54 : Nat) : Int) - 1 := by clear ua ub a4 b4; omega
    refine near_quot (N := mant a * 2 ^ 54) (k := mant b) hmag.symm hlog x1 x2 x3 hY ?_ hr hr2
    have e : 2 ^ 54 * 2 ^ (1076 + (expo a - expo b - (54 : Nat) - 1)).toNat * 2 ^ (expo b + 1074).toNat = 2 ^ 1075 * 2 ^ (expo a + 1074).toNat := by
      rw [← Nat.pow_add, ← Nat.pow_add, ← Nat.pow_add]
      congr 1
      omega
    unfold big
    have p : 0 < 2 ^ (expo b + 1074).toNat := Nat.two_pow_pos _
    refine Nat.eq_of_mul_eq_mul_right p ?_
    generalize (2 : Nat) ^ 54 = z at *
    generalize (2 : Nat) ^ 1074 = y at *
    generalize (2 : Nat) ^ 1075 = x at *
    generalize 2 ^ (expo a + 1074).toNat = c1 at *
    generalize 2 ^ (expo b + 1074).toNat = c2 at *
    generalize 2 ^ (1076 + (expo a - expo b - (54 : Nat) - 1)).toNat = c3 at *
    calc X * x * mant b * c2 = X * x * (mant b * c2) := by grind
      _ = X * x * (Y * y) := by rw [b4]
      _ = (X * y) * Y * x := by grind
      _ = (mant a * c1) * Y * x := by rw [a4]
      _ = mant a * Y * (x * c1) := by grind
      _ = mant a * Y * (z * c3 * c2) := by rw [e]
      _ = _ := by grind
/-- The powers of ten up to 22, as words. -/
def p10W : List Nat := [4607182418800017408, 4621819117588971520, 4636737291354636288, 4652007308841189376, 4666723172467343360, 4681608360884174848, 4696837146684686336, 4711630319722168320, 4726483295884279808, 4741671816366391296, 4756540486875873280, 4771362005757984768, 4786511204640096256, 4801453603149578240, 4816244402031689728, 4831355200913801216, 4846369599423283200, 4861130398305394688, 4876203697187506176, 4891288408196988160, 4906019910204099648, 4921056587992461136, 4936209963552724370]
def p10B (k w : Nat) : Bool := Nat.blt w 9218868437227405312 && Nat.beq (unt w) (10 ^ k * 2 ^ 1074) && decide (expo w ≤ 800)
def p10L : Nat → List Nat → Bool
  | _, [] => true
  | k, w :: t => p10B k w && p10L (k + 1) t
theorem p10L_get : ∀ (l : List Nat) (k i w : Nat), p10L k l = true → l[i]? = some w → p10B (k + i) w = true := by
  intro l
  induction l with
  | nil => intro k i w _ h; simp at h
  | cons x l ih =>
    intro k i w h1 h2
    rw [p10L, Bool.and_eq_true] at h1
    cases i with
    | zero => simp at h2; subst h2; exact h1.1
    | succ i =>
      rw [List.getElem?_cons_succ] at h2
      have := ih (k + 1) i w h1.2 h2
      rwa [show k + 1 + i = k + (i + 1) by omega] at this
theorem p10_ok : p10L 0 p10W = true := by decide +kernel
theorem p10_len : p10W.length = 23 := rfl
theorem p10_unt {k : Nat} (h : k ≤ 22) : ∃ w, p10W[k]? = some w ∧ w < 9218868437227405312 ∧ unt w = 10 ^ k * 2 ^ 1074 ∧ expo w ≤ 800 := by
  have hl : k < p10W.length := by rw [p10_len]; omega
  refine ⟨_, List.getElem?_eq_getElem hl, ?_⟩
  have := p10L_get _ 0 k _ p10_ok (List.getElem?_eq_getElem hl)
  rw [Nat.zero_add, p10B, Bool.and_eq_true, Bool.and_eq_true] at this
  exact ⟨by simpa using this.1.1, Nat.eq_of_beq_eq_true this.1.2, of_decide_eq_true this.2⟩
end Go.Proofs.YtbcolebomgcphaaGreatFmt
