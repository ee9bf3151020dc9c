/- The check, by Lean's kernel, of the gap for numbers below 2^57 that are read: of all powers of ten. Each lemma's conditions stand in its own statement. The plain law of reading: what the reader's scaling and rounding give is the word that the number is nearest to. Each lemma's conditions stand in its own statement. The plain law of reading a whole number times a power of ten. Each lemma's conditions stand in its own statement. -/
import Derived.Test.YtbcolebomgcphaaGreatFmtZ
import Derived.Test.YtbcolebomgcphaaGreatFmtA
namespace Go.Proofs.YtbcolebomgcphaaGreatFmt

def eu (a b t N : Nat) : Bool := euc a b t N 150 1 (a / b) (a % b) 1 (a / b + 1) (b - a % b)
theorem eu_gap {a b t N : Nat} (hb : 0 < b) (h : eu a b t N = true) : ∀ x, x < N → Gap (x * a) b t := euc_gap hb _ _ _ _ _ _ _ h
/-- One power of ten: the numbers that become normal words; those that become small ones (of at most so many bits). -/
def rdN (p : Int) : Bool := eu (rN (-2 - l2 p) p) (rM (-2 - l2 p) p) (2 ^ (8 + 64)) 144115188075855872
def rdS (p : Int) : Bool :=
  decide (-1021 ≤ l2 p) || decide (l2 p ≤ -1134) ||
  eu (rN 1076 p) (rM 1076 p) (2 ^ ((-1013 - l2 p - min 57 (-1022 - l2 p)).toNat + 64)) (2 ^ (min 57 (-1022 - l2 p)).toNat)
def rdE (p : Int) : Bool := rdN p && rdS p
def rdL (k : Int) : Nat → Bool
  | 0 => true
  | n + 1 => rdE (k + n) && rdL k n
theorem rdL_get : ∀ (n : Nat) (k p : Int), rdL k n = true → k ≤ p → p < k + n → rdE p = true := by
  intro n
  induction n with
  | zero => intro k p _ h1 h2; omega
  | succ n ih =>
    intro k p h h1 h2
    rw [rdL, Bool.and_eq_true] at h
    rcases Int.lt_or_le p (k + n) with g | g
    · exact ih k p h.2 h1 g
    · rw [show p = k + n by omega]; exact h.1
theorem rd_0 : rdL (-345) 82 = true := by decide +kernel
theorem rd_1 : rdL (-263) 82 = true := by decide +kernel
theorem rd_2 : rdL (-181) 82 = true := by decide +kernel
theorem rd_3 : rdL (-99) 82 = true := by decide +kernel
theorem rd_4 : rdL (-17) 82 = true := by decide +kernel
theorem rd_5 : rdL 65 82 = true := by decide +kernel
theorem rd_6 : rdL 147 82 = true := by decide +kernel
theorem rd_7 : rdL 229 82 = true := by decide +kernel
theorem rd_all (p : Int) (h0 : -345 ≤ p) (h1 : p ≤ 310) : rdE p = true := by
  rcases Int.lt_or_le p (-263) with g | g
  · exact rdL_get 82 _ p rd_0 (by omega) (by omega)
  rcases Int.lt_or_le p (-181) with g | g
  · exact rdL_get 82 _ p rd_1 (by omega) (by omega)
  rcases Int.lt_or_le p (-99) with g | g
  · exact rdL_get 82 _ p rd_2 (by omega) (by omega)
  rcases Int.lt_or_le p (-17) with g | g
  · exact rdL_get 82 _ p rd_3 (by omega) (by omega)
  rcases Int.lt_or_le p 65 with g | g
  · exact rdL_get 82 _ p rd_4 (by omega) (by omega)
  rcases Int.lt_or_le p 147 with g | g
  · exact rdL_get 82 _ p rd_5 (by omega) (by omega)
  rcases Int.lt_or_le p 229 with g | g
  · exact rdL_get 82 _ p rd_6 (by omega) (by omega)
  exact rdL_get 82 _ p rd_7 (by omega) (by omega)
/-- The binary exponent that the reader takes, and its shift. -/
def rdX (b p : Int) : Int := min 1074 (53 - b - l2 p)
def rdSh (b p : Int) : Int := -(rdX b p - (64 - b) + l2 p + 3)
theorem rd_gap {d b : Nat} {p : Int} (h0 : -345 ≤ p) (h1 : p ≤ 310) (hb : b ≤ 57) (hd : d < 2 ^ b) (hs : rdSh b p < 64) :
    Gap (d * rN (rdX b p + 2) p) (rM (rdX b p + 2) p) (2 ^ ((rdSh b p).toNat + 64)) := by
  have hE := rd_all p h0 h1
  rw [rdE, Bool.and_eq_true] at hE
  obtain ⟨hN, hS⟩ := hE
  by_cases hn : 53 - (b : Int) - l2 p ≤ 1074
  · have ex : rdX b p = 53 - b - l2 p := by unfold rdX; omega
    have es : rdSh b p = 8 := by unfold rdSh; omega
    rw [ex, es]
    have hx : d * 2 ^ (57 - b) < 144115188075855872 := by
      have h1 : d * 2 ^ (57 - b) < 2 ^ b * 2 ^ (57 - b) := (Nat.mul_lt_mul_right (Nat.two_pow_pos _)).2 hd
      rw [← Nat.pow_add, show b + (57 - b) = 57 by omega] at h1
      exact h1
    have hg := eu_gap (rM_pos _ _) hN _ hx
    refine hg.ratio (rM_pos _ _) (rM_pos _ _) ?_
    have hr := rNM (-2 - l2 p) p (57 - b)
    rw [show (-2 - l2 p + ((57 - b : Nat) : Int)) = 53 - b - l2 p + 2 by omega] at hr
    rw [Nat.mul_assoc d (rN _ _), ← hr]
    grind
  · have ex : rdX b p = 1074 := by unfold rdX; omega
    have es : rdSh b p = -1013 - l2 p - b := by unfold rdSh; omega
    rw [ex]
    rw [es] at hs
    have hS' : eu (rN 1076 p) (rM 1076 p) (2 ^ ((-1013 - l2 p - min 57 (-1022 - l2 p)).toNat + 64)) (2 ^ (min 57 (-1022 - l2 p)).toNat) = true := by
      rw [rdS, Bool.or_eq_true, Bool.or_eq_true] at hS
      rcases hS with (h | h) | h
      · have := of_decide_eq_true h
        omega
      · have := of_decide_eq_true h
        omega
      · exact h
    refine (eu_gap (rM_pos _ _) hS' d (Nat.lt_of_lt_of_le hd (Nat.pow_le_pow_right (by decide) (by omega)))).mono (Nat.pow_le_pow_right (by decide) ?_)
    rw [es]
    omega
end Go.Proofs.YtbcolebomgcphaaGreatFmt

namespace Go.Proofs.YtbcolebomgcphaaGreatFmt

/-- Half of an unrounded number: the last bit stays if anything is left. -/
def halfU (u : Nat) : Nat := if u % 2 = 1 then u / 2 / 2 * 2 + 1 else u / 2
theorem unr_half (A M : Nat) (hM : 0 < M) : halfU (unr A M) = unr A (2 * M) := by
  have h0 := Nat.div_add_mod A M
  have h1 := Nat.mod_lt A hM
  have hq : A / (2 * M) = A / M / 2 := by rw [Nat.mul_comm, Nat.div_div_eq_div_mul]
  have h2 := Nat.div_add_mod A (2 * M)
  rw [hq] at h2
  unfold halfU unr
  rw [hq]
  obtain ⟨q, eq⟩ : ∃ q, A / M = q := ⟨_, rfl⟩
  obtain ⟨r, er⟩ : ∃ r, A % M = r := ⟨_, rfl⟩
  obtain ⟨r2, er2⟩ : ∃ r2, A % (2 * M) = r2 := ⟨_, rfl⟩
  rw [eq, er] at h0
  rw [er] at h1
  rw [eq, er2] at h2
  rw [eq, er, er2]
  have hr2 : r2 = q % 2 * M + r := by
    have e1 : M * q = M * (q / 2 * 2 + q % 2) := by rw [show q / 2 * 2 + q % 2 = q by omega]
    have e2 : 2 * M * (q / 2) = M * (q / 2 * 2) := by grind
    rw [Nat.mul_add] at e1
    rw [Nat.mul_comm (q % 2) M]
    omega
  rcases Nat.mod_two_eq_zero_or_one q with g | g
  · rw [g, Nat.zero_mul, Nat.zero_add] at hr2
    rw [hr2]
    by_cases hr : r = 0
    · rw [if_pos hr, if_pos hr, if_neg (by omega)]
    · rw [if_neg hr, if_neg hr, if_pos (by omega)]
      omega
  · rw [g, Nat.one_mul] at hr2
    rw [if_neg (show ¬ r2 = 0 by omega)]
    by_cases hr : r = 0
    · rw [if_pos hr, if_pos (by omega)]
    · rw [if_neg hr, if_pos (by omega)]
      omega
theorem rung_succ (f : Nat) (e : Int) : rungOf (f + 1) e = rungOf f e + 1 := by unfold rungOf; omega
theorem rung_par (f : Nat) (e : Int) : rungOf f e % 2 = f % 2 := by unfold rungOf; omega
/-- One rounding: A by M is four times the number in units of the last place; m: the floor, or one more. -/
theorem tells_gen {A M P Q f m : Nat} {E : Int} (hm : (m = f + 1 ∧ ((f + (f + 1)) * (4 * M) < 2 * A ∨ ((f + (f + 1)) * (4 * M) = 2 * A ∧ f % 2 = 1))) ∨ (m = f ∧ (2 * A < (f + (f + 1)) * (4 * M) ∨ (2 * A = (f + (f + 1)) * (4 * M) ∧ f % 2 = 0)))) (hM : 0 < M) (hQ : 0 < Q) (hf : A / (4 * M) = f) (h53 : f < 9007199254740992) (h52 : 4503599627370496 ≤ f ∨ E = 1074)
    (H : P * big * (2 * M) = A * Q * 2 ^ (1074 - E).toNat) {r : Nat} (hr : 0 < r) :
    rungOf m (-E) = r ↔ Tells r P Q := by
  have h52' : 4503599627370496 ≤ f ∨ -E = -1074 := by omega
  have u0 := unt_rung f (-E) (by omega) h52'
  have u1 := unt_rung (f + 1) (-E) (by omega) (by omega)
  rw [show -E + 1074 = 1074 - E by omega] at u0 u1
  rw [rung_succ] at u1
  have hpar := rung_par f (-E)
  obtain ⟨r0, hr0⟩ : ∃ r0, rungOf f (-E) = r0 := ⟨_, rfl⟩
  obtain ⟨K, hK⟩ : ∃ K, 2 ^ (1074 - E).toNat = K := ⟨_, rfl⟩
  have hKp : 0 < K := by rw [← hK]; exact Nat.two_pow_pos _
  obtain ⟨X, hX⟩ : ∃ X, P * big = X := ⟨_, rfl⟩
  rw [hr0] at u0 u1 hpar
  rw [hK] at u0 u1 H
  rw [hX] at H
  have hfl0 : f * (4 * M) ≤ A := by rw [← hf]; exact Nat.div_mul_le_self _ _
  have hfl1 : A < (f + 1) * (4 * M) := by
    have e1 := Nat.div_add_mod A (4 * M)
    have e2 := Nat.mod_lt A (show 0 < 4 * M by omega)
    rw [hf] at e1
    rw [show (f + 1) * (4 * M) = 4 * M * f + 4 * M by grind]
    omega
  have hMQ : 0 < Q * K := Nat.mul_pos hQ hKp
  -- comparing with X is comparing with A
  have cmp : ∀ z : Nat, (z * K * Q < X ↔ z * (2 * M) < A) ∧ (z * K * Q = X ↔ z * (2 * M) = A) := by
    intro z
    have e1 : z * K * Q * (2 * M) = z * (2 * M) * (Q * K) := by grind
    have e2 : X * (2 * M) = A * (Q * K) := by rw [H]; grind
    constructor
    · rw [← Nat.mul_lt_mul_right (a := 2 * M) (show 0 < 2 * M by omega), e1, e2, Nat.mul_lt_mul_right hMQ]
    · constructor
      · intro h
        rw [h, e2] at e1
        exact (Nat.eq_of_mul_eq_mul_right hMQ e1).symm
      · intro h
        rw [h] at e1
        exact Nat.eq_of_mul_eq_mul_right (show 0 < 2 * M by omega) (e1.trans e2.symm)
  have h0 : 2 * unt r0 * Q ≤ P * big := by
    rw [hX, u0, ← Nat.mul_assoc]
    have c := (cmp (2 * f))
    have : 2 * f * (2 * M) ≤ A := by rw [show 2 * f * (2 * M) = f * (4 * M) by grind]; exact hfl0
    rcases Nat.lt_or_eq_of_le this with g | g
    · exact Nat.le_of_lt (c.1.2 g)
    · exact Nat.le_of_eq (c.2.2 g)
  have h1 : P * big < 2 * unt (r0 + 1) * Q := by
    rw [hX, u1, ← Nat.mul_assoc]
    have c := (cmp (2 * (f + 1)))
    have : A < 2 * (f + 1) * (2 * M) := by rw [show 2 * (f + 1) * (2 * M) = (f + 1) * (4 * M) by grind]; exact hfl1
    rcases Nat.lt_trichotomy (2 * (f + 1) * K * Q) X with g | g | g
    · have := c.1.1 g; omega
    · have := c.2.1 g; omega
    · exact g
  rw [← round_tells hQ h0 h1 hr]
  have hru : roundUp r0 P Q = rungOf m (-E) := by
    unfold roundUp
    rw [hX, u0, u1, ← Nat.add_mul, hpar]
    have c := cmp (f + (f + 1))
    have hz : (f + (f + 1)) * (4 * M) = 2 * ((f + (f + 1)) * (2 * M)) := by grind
    rcases hm with ⟨g, k⟩ | ⟨g, k⟩
    · rw [g, rung_succ, hr0, if_pos]
      rw [hz] at k
      rcases k with k | ⟨k, k2⟩
      · left; exact c.1.2 (by omega)
      · right; exact ⟨c.2.2 (by omega), k2⟩
    · rw [g, hr0, if_neg]
      rw [hz] at k
      rintro (j | ⟨j, j2⟩)
      · have := c.1.1 j; omega
      · have := c.2.1 j; omega
  rw [hru]
theorem tells_one {A M P Q f : Nat} {E : Int} (hM : 0 < M) (hQ : 0 < Q) (hf : A / (4 * M) = f) (h53 : f < 9007199254740992) (h52 : 4503599627370496 ≤ f ∨ E = 1074)
    (H : P * big * (2 * M) = A * Q * 2 ^ (1074 - E).toNat) {r : Nat} (hr : 0 < r) :
    rungOf (rndOf (unr A M)) (-E) = r ↔ Tells r P Q := tells_gen (unr_round A M hM f hf) hM hQ hf h53 h52 H hr
/-- The whole rounding, with the step by one place where the number is too great for 53 bits. -/
def rdW (u : Nat) (E : Int) : Nat := if 36028797018963966 ≤ u then rungOf (rndOf (halfU u)) (-(E - 1)) else rungOf (rndOf u) (-E)
theorem tells_two {A M P Q : Nat} {E : Int} (hM : 0 < M) (hQ : 0 < Q) (hA : A < 72057594037927936 * M) (h52 : 18014398509481984 * M ≤ A ∨ E = 1074) (hE : E ≤ 1074)
    (H : P * big * (2 * M) = A * Q * 2 ^ (1074 - E).toNat) {r : Nat} (hr : 0 < r) :
    rdW (unr A M) E = r ↔ Tells r P Q := by
  have H' := fun _ : True => H
  clear H
  obtain ⟨f, hf⟩ : ∃ f, A / (4 * M) = f := ⟨_, rfl⟩
  have hfl := unr_floor A M
  rw [hf] at hfl
  have hlo : 18014398509481984 * M ≤ A → 4503599627370496 ≤ f := by
    intro h
    rw [← hf]
    exact (Nat.le_div_iff_mul_le (by omega)).2 (by omega)
  unfold rdW
  by_cases hu : 36028797018963966 ≤ unr A M
  · rw [if_pos hu]
    rcases Nat.lt_or_ge f 9007199254740992 with g | g
    · have hf' : f = 9007199254740991 := by omega
      have e1 : rndOf (unr A M) = 9007199254740992 := by unfold rndOf; omega
      have e2 : rndOf (halfU (unr A M)) = 4503599627370496 := by unfold rndOf halfU; split <;> omega
      have := tells_one (r := r) hM hQ hf (by omega) (by omega) (H' trivial) hr
      rw [e1] at this
      rw [e2, ← this]
      unfold rungOf
      rw [show (-(E - 1) + 1074).toNat = (-E + 1074).toNat + 1 by omega, show (((-E + 1074).toNat + 1) * 4503599627370496 + 4503599627370496) = (-E + 1074).toNat * 4503599627370496 + 9007199254740992 by omega]
    · rw [unr_half A M hM]
      have hf2 : A / (4 * (2 * M)) = f / 2 := by rw [← hf, Nat.div_div_eq_div_mul]; congr 1; omega
      have hf3 : f < 18014398509481984 := by
        rw [← hf]
        exact Nat.div_lt_of_lt_mul (by omega)
      have H2 : P * big * (2 * (2 * M)) = A * Q * 2 ^ (1074 - (E - 1)).toNat := by
        rw [show (1074 - (E - 1)).toNat = (1074 - E).toNat + 1 by omega, Nat.pow_succ, ← Nat.mul_assoc (A * Q), ← H' trivial]
        generalize P * big = X
        grind
      have b1 : f / 2 < 9007199254740992 := by clear H2; omega
      have b2 : 4503599627370496 ≤ f / 2 ∨ E - 1 = 1074 := by clear H2; omega
      exact tells_one (E := E - 1) (Nat.mul_pos (by decide) hM) hQ hf2 b1 b2 H2 hr
  · rw [if_neg hu]
    exact tells_one hM hQ hf (by omega) (by rcases h52 with h | h; exact .inl (hlo h); exact .inr h) (H' trivial) hr
end Go.Proofs.YtbcolebomgcphaaGreatFmt

namespace Go.Proofs.YtbcolebomgcphaaGreatFmt

/-- The number of bits of a power of ten, by the kernel. -/
def lpB (p : Int) : Bool := Nat.ble (rM (-l2 p - 9) p) (512 * rN (-l2 p - 9) p) && Nat.blt (256 * rN (-l2 p - 9) p) (rM (-l2 p - 9) p)
def lpL (k : Int) : Nat → Bool
  | 0 => true
  | n + 1 => lpB (k + n) && lpL k n
theorem lpL_get : ∀ (n : Nat) (k p : Int), lpL k n = true → k ≤ p → p < k + n → lpB p = true := by
  intro n
  induction n with
  | zero => intro k p _ h1 h2; omega
  | succ n ih =>
    intro k p h h1 h2
    rw [lpL, Bool.and_eq_true] at h
    rcases Int.lt_or_le p (k + n) with g | g
    · exact ih k p h.2 h1 g
    · rw [show p = k + n by omega]; exact h.1
theorem lp_0 : lpL (-345) 164 = true := by decide +kernel
theorem lp_1 : lpL (-181) 164 = true := by decide +kernel
theorem lp_2 : lpL (-17) 164 = true := by decide +kernel
theorem lp_3 : lpL 147 164 = true := by decide +kernel
theorem lp_all (p : Int) (h0 : -345 ≤ p) (h1 : p ≤ 310) : rM (-l2 p - 9) p ≤ 512 * rN (-l2 p - 9) p ∧ 256 * rN (-l2 p - 9) p < rM (-l2 p - 9) p := by
  have h : lpB p = true := by
    rcases Int.lt_or_le p (-181) with g | g
    · exact lpL_get 164 _ p lp_0 (by omega) (by omega)
    rcases Int.lt_or_le p (-17) with g | g
    · exact lpL_get 164 _ p lp_1 (by omega) (by omega)
    rcases Int.lt_or_le p 147 with g | g
    · exact lpL_get 164 _ p lp_2 (by omega) (by omega)
    exact lpL_get 164 _ p lp_3 (by omega) (by omega)
  simpa only [lpB, Bool.and_eq_true, Nat.ble_eq, Nat.blt_eq] using h
/-- The scaled number lies between 2 to the 54 and 2 to the 56. -/
theorem sc_bounds {d b : Nat} {p : Int} (h0 : -345 ≤ p) (h1 : p ≤ 310) (hb0 : 0 < b) (hb : b ≤ 64) (hd0 : 2 ^ (b - 1) ≤ d) (hd : d < 2 ^ b) :
    18014398509481984 * rM (55 - b - l2 p) p ≤ d * rN (55 - b - l2 p) p ∧ d * rN (55 - b - l2 p) p < 72057594037927936 * rM (55 - b - l2 p) p := by
  obtain ⟨g1, g2⟩ := lp_all p h0 h1
  have hr := rNM (-l2 p - 9) p (64 - b)
  rw [show (-l2 p - 9 + ((64 - b : Nat) : Int)) = 55 - b - l2 p by omega] at hr
  have p0 := rM_pos (-l2 p - 9) p
  have p1 := rM_pos (55 - b - l2 p) p
  have x0 : 9223372036854775808 ≤ d * 2 ^ (64 - b) := by
    have h := Nat.mul_le_mul_right (2 ^ (64 - b)) hd0
    rw [← Nat.pow_add, show b - 1 + (64 - b) = 63 by omega] at h
    exact h
  have x1 : d * 2 ^ (64 - b) < 18446744073709551616 := by
    have h := (Nat.mul_lt_mul_right (a := 2 ^ (64 - b)) (Nat.two_pow_pos _)).2 hd
    rw [← Nat.pow_add, show b + (64 - b) = 64 by omega] at h
    exact h
  generalize rN (-l2 p - 9) p = n0 at *
  generalize rM (-l2 p - 9) p = m0 at *
  generalize rN (55 - b - l2 p) p = n1 at *
  generalize rM (55 - b - l2 p) p = m1 at *
  obtain ⟨x, hx⟩ : ∃ x, d * 2 ^ (64 - b) = x := ⟨_, rfl⟩
  rw [hx] at x0 x1
  have e : d * n1 * m0 = x * n0 * m1 := by rw [← hx, Nat.mul_assoc, ← hr]; grind
  constructor
  · refine Nat.le_of_mul_le_mul_right (c := m0) ?_ p0
    rw [e]
    have h1 : m0 * (18014398509481984 * m1) ≤ 512 * n0 * (18014398509481984 * m1) := Nat.mul_le_mul_right _ g1
    have h2 : 9223372036854775808 * (n0 * m1) ≤ x * (n0 * m1) := Nat.mul_le_mul_right _ x0
    have e2 : 512 * n0 * (18014398509481984 * m1) = 9223372036854775808 * (n0 * m1) := by grind
    have e3 : x * n0 * m1 = x * (n0 * m1) := Nat.mul_assoc _ _ _
    have e4 : 18014398509481984 * m1 * m0 = m0 * (18014398509481984 * m1) := Nat.mul_comm _ _
    omega
  · refine Nat.lt_of_mul_lt_mul_right (a := m0) ?_
    rw [e]
    have h1 : x * (n0 * m1) ≤ 18446744073709551616 * (n0 * m1) := Nat.mul_le_mul_right _ (Nat.le_of_lt x1)
    have h2 : 256 * n0 * (72057594037927936 * m1) < m0 * (72057594037927936 * m1) := (Nat.mul_lt_mul_right (by omega)).2 g2
    have e2 : 256 * n0 * (72057594037927936 * m1) = 18446744073709551616 * (n0 * m1) := by grind
    have e3 : x * n0 * m1 = x * (n0 * m1) := Nat.mul_assoc _ _ _
    have e4 : 72057594037927936 * m1 * m0 = m0 * (72057594037927936 * m1) := Nat.mul_comm _ _
    omega
set_option exponentiation.threshold 3000 in
theorem value_link (d : Nat) (p E : Int) (hE : E ≤ 1074) :
    d * 10 ^ p.toNat * big * (2 * rM (E + 2) p) = d * rN (E + 2) p * 10 ^ (-p).toNat * 2 ^ (1074 - E).toNat := by
  unfold rN rM big
  have e : 2 ^ 1075 * 2 * 2 ^ (-(E + 2)).toNat = 2 ^ (E + 2).toNat * 2 ^ (1074 - E).toNat := by
    rw [← Nat.pow_succ, ← Nat.pow_add, ← Nat.pow_add]
    congr 1
    omega
  generalize 2 ^ 1075 = c at *
  generalize 2 ^ (-(E + 2)).toNat = a1 at *
  generalize 2 ^ (E + 2).toNat = a2 at *
  generalize 2 ^ (1074 - E).toNat = a3 at *
  generalize 10 ^ p.toNat = t1
  generalize 10 ^ (-p).toNat = t2
  calc d * t1 * c * (2 * (a1 * t2)) = d * t1 * t2 * (c * 2 * a1) := by grind
    _ = d * t1 * t2 * (a2 * a3) := by rw [e]
    _ = _ := by grind
theorem sc_small {d b : Nat} {p : Int} (h0 : -345 ≤ p) (h1 : p ≤ 310) (hb0 : 0 < b) (hb : b ≤ 64) (hd0 : 2 ^ (b - 1) ≤ d) (hd : d < 2 ^ b) (k : Nat) (hk : (55 - b - l2 p : Int) = 1076 + k) :
    d * rN 1076 p * 2 ^ k < 72057594037927936 * rM 1076 p := by
  obtain ⟨_, g2⟩ := sc_bounds h0 h1 hb0 hb hd0 hd
  have hr := rNM 1076 p k
  rw [← hk] at hr
  have p0 := rM_pos 1076 p
  have p1 := rM_pos (55 - b - l2 p) p
  refine Nat.lt_of_mul_lt_mul_right (a := rM (55 - b - l2 p) p) ?_
  have h := (Nat.mul_lt_mul_right p0).2 g2
  generalize rN 1076 p = n0 at *
  generalize rM 1076 p = m0 at *
  generalize rN (55 - b - l2 p) p = n1 at *
  generalize rM (55 - b - l2 p) p = m1 at *
  generalize 2 ^ k = t at *
  have e1 : d * n0 * t * m1 = d * n1 * m0 := by rw [Nat.mul_assoc d n1, ← hr]; grind
  rw [e1]
  refine Nat.lt_of_lt_of_eq h ?_
  grind
/-- THE LAW: the word that the reader makes of d times ten to the p is the one that it is nearest to. -/
theorem read_tells {d b : Nat} {p : Int} (h0 : -345 ≤ p) (h1 : p ≤ 310) (hb0 : 0 < b) (hb : b ≤ 64) (hd0 : 2 ^ (b - 1) ≤ d) (hd : d < 2 ^ b) {r : Nat} (hr : 0 < r) :
    rdW (unr (d * rN (rdX b p + 2) p) (rM (rdX b p + 2) p)) (rdX b p) = r ↔ Tells r (d * 10 ^ p.toNat) (10 ^ (-p).toNat) := by
  have hX : rdX b p ≤ 1074 := by unfold rdX; omega
  have hQ : 0 < 10 ^ (-p).toNat := Nat.pow_pos (by decide)
  by_cases hn : 53 - (b : Int) - l2 p ≤ 1074
  · have ex : rdX b p = 53 - b - l2 p := by unfold rdX; omega
    have hs := sc_bounds h0 h1 hb0 hb hd0 hd
    rw [show (55 - b - l2 p : Int) = rdX b p + 2 by omega] at hs
    exact tells_two (rM_pos _ _) hQ hs.2 (.inl hs.1) hX (value_link d p _ hX) hr
  · have ex : rdX b p = 1074 := by unfold rdX; omega
    obtain ⟨k, hk⟩ : ∃ k : Nat, (55 - b - l2 p : Int) = 1076 + k := ⟨(55 - b - l2 p - 1076).toNat, by omega⟩
    have hs := sc_small h0 h1 hb0 hb hd0 hd k hk
    have : d * rN 1076 p < 72057594037927936 * rM 1076 p := by
      refine Nat.lt_of_le_of_lt ?_ hs
      exact Nat.le_mul_of_pos_right _ (Nat.two_pow_pos _)
    refine tells_two (rM_pos _ _) hQ ?_ (.inr ex) hX (value_link d p _ hX) hr
    rw [ex]
    exact this
theorem unt_one : unt 1 = 1 := by decide
theorem not_tells_low {r P Q : Nat} (hr : 0 < r) (h : P * big < Q) : ¬ Tells r P Q := by
  have h1 : 1 ≤ unt r := by have := unt_le (a := 1) (b := r) hr; rw [unt_one] at this; exact this
  have h2 : Q ≤ (unt (r - 1) + unt r) * Q := Nat.le_mul_of_pos_left _ (by omega)
  unfold Tells
  generalize P * big = X at *
  split <;> omega
/-- A shift of 64 bits and more: nothing is left. -/
theorem read_zero {d b : Nat} {p : Int} (h0 : -345 ≤ p) (h1 : p ≤ 310) (hb0 : 0 < b) (hb : b ≤ 64) (hd0 : 2 ^ (b - 1) ≤ d) (hd : d < 2 ^ b) (hs : 64 ≤ rdSh b p) {r : Nat} (hr : 0 < r) :
    ¬ Tells r (d * 10 ^ p.toNat) (10 ^ (-p).toNat) := by
  have hQ : 0 < 10 ^ (-p).toNat := Nat.pow_pos (by decide)
  have ex : rdX b p = 1074 := by unfold rdSh rdX at hs; unfold rdX; omega
  have es : rdSh b p = -1013 - l2 p - b := by unfold rdSh; omega
  obtain ⟨k, hk⟩ : ∃ k : Nat, (55 - b - l2 p : Int) = 1076 + k := ⟨(55 - b - l2 p - 1076).toNat, by omega⟩
  have hsm := sc_small h0 h1 hb0 hb hd0 hd k hk
  have hk2 : 72057594037927936 ≤ 2 ^ k := Nat.le_trans (by decide : 72057594037927936 ≤ 2 ^ 56) (Nat.pow_le_pow_right (by decide) (by omega))
  have hv := value_link d p 1074 (by omega)
  have hM := rM_pos 1076 p
  have hA : d * rN 1076 p < rM 1076 p := by
    refine Nat.lt_of_mul_lt_mul_right (a := 2 ^ k) (Nat.lt_of_lt_of_le hsm ?_)
    rw [Nat.mul_comm]
    exact Nat.mul_le_mul_left _ hk2
  refine not_tells_low hr ?_
  rw [show (1074 - 1074 : Int).toNat = 0 from rfl, Nat.pow_zero, Nat.mul_one, show (1074 + 2 : Int) = 1076 from rfl] at hv
  refine Nat.lt_of_mul_lt_mul_right (a := 2 * rM 1076 p) ?_
  rw [hv, Nat.mul_comm]
  refine (Nat.mul_lt_mul_left hQ).2 ?_
  omega
end Go.Proofs.YtbcolebomgcphaaGreatFmt
