/- The plain law of reading the texts of numbers: what they are read as. Each lemma's conditions stand in its own statement. The plain law of what a reader answers: the word that a decimal number is nearest to; outside all ranges none. Each lemma's conditions stand in its own statement. The plain law of a word times 1 and -1, and of the order of words up to infinity. Each lemma's conditions stand in its own statement. The plain law of the digits of a written number, and of the digits one more. Each lemma's conditions stand in its own statement. -/
import Derived.Test.YtbcolebomgcphaaGreatFmtXn
import Derived.Test.YtbcolebomgcphaaGreatFmtRd
namespace Go.Proofs.YtbcolebomgcphaaGreatFmt
open Go.RowKit Go.Sort

/-- The digits mp with the exponent e are read as D times ten to the j. -/
def RdIs (mp : List Int) (e : Int) (D : Nat) (j : Int) : Prop :=
  ∃ k : Nat, (rdFold rdStart mp).dig = true ∧ (rdFold rdStart mp).tr = false ∧ (rdFold rdStart mp).m = D * 10 ^ k ∧
    (if (rdFold rdStart mp).dot then (rdFold rdStart mp).dp else ((rdFold rdStart mp).nd : Int)) - (rdFold rdStart mp).ndm + e + k = j ∧ (rdFold rdStart mp).ndm ≤ 19 ∧
    (k = 0 ∨ (0 ≤ (if (rdFold rdStart mp).dot then (rdFold rdStart mp).dp else ((rdFold rdStart mp).nd : Int)) - (rdFold rdStart mp).ndm + e ∧ (if (rdFold rdStart mp).dot then (rdFold rdStart mp).dp else ((rdFold rdStart mp).nd : Int)) - (rdFold rdStart mp).ndm + e ≤ 2)) ∧
    D * 10 ^ k < 10000000000000000000
theorem head_dec {D : Nat} (h : 0 < D) (l : List Int) : ∀ z, (decZ D ++ l).head? = some z → z ≠ 48 := by
  have key : ∀ z, (decZ D).head? = some z → z ≠ 48 := by
    induction D using Nat.strongRecOn with
    | _ D ih =>
      intro z hz
      rcases Nat.lt_or_ge D 10 with g | g
      · rw [decZ_one_digit D g] at hz
        simp at hz
        omega
      · rw [decZ_snoc D g] at hz
        refine ih (D / 10) (by omega) (by omega) z ?_
        cases hd : decZ (D / 10) with
        | nil =>
          have := congrArg valZ hd
          rw [valZ_dec] at this
          have e : valZ [] = 0 := rfl
          omega
        | cons x t => rw [hd] at hz; simpa using hz
  intro z hz
  cases hd : decZ D with
  | nil =>
    have := congrArg valZ hd
    rw [valZ_dec] at this
    have e : valZ [] = 0 := rfl
    omega
  | cons x t =>
    rw [hd] at hz
    refine key z ?_
    rw [hd]
    simpa using hz
theorem dec_len {D k : Nat} (h : D < 10 ^ k) (hk : 0 < k) : 1 ≤ (decZ D).length ∧ (decZ D).length ≤ k := by
  unfold decZ asc
  split
  · exact ⟨by simp, by show 1 ≤ k; omega⟩
  · rw [List.length_map, List.length_reverse]
    refine ⟨?_, leD_len D k h⟩
    rw [leD_pos (by omega)]
    simp
theorem dec_pow {D c n : Nat} (h : (decZ D).length + c ≤ n) : D * 10 ^ c < 10 ^ n := by
  have h1 : D < 10 ^ (decZ D).length := by
    rcases Nat.lt_or_ge D (10 ^ (decZ D).length) with g | g
    · exact g
    · exfalso
      have hp : 0 < 10 ^ (decZ D).length := Nat.pow_pos (by decide)
      have := leD_ge D _ g
      have e : (decZ D).length = (leD D).length := by
        unfold decZ asc
        rw [if_neg (by omega), List.length_map, List.length_reverse]
      omega
  have h2 : D * 10 ^ c < 10 ^ (decZ D).length * 10 ^ c := (Nat.mul_lt_mul_right (Nat.pow_pos (by decide))).2 h1
  rw [← Nat.pow_add] at h2
  exact Nat.lt_of_lt_of_le h2 (Nat.pow_le_pow_right (by decide) h)
theorem ten19 : (10 : Nat) ^ 19 = 10000000000000000000 := by decide
/-- Digits and zeros: a whole number of at most 21 digits. -/
theorem rd_whole {D c : Nat} (h0 : 0 < D) (hk : (decZ D).length ≤ 19) (h : (decZ D).length + c ≤ 21) : RdIs (decZ D ++ List.replicate c 48) 0 D c := by
  have hd1 := head_dec h0
  have hpos : 0 < (decZ D).length := by
    rcases Nat.eq_zero_or_pos (decZ D).length with g | g
    · have := congrArg valZ (List.length_eq_zero_iff.1 g)
      rw [valZ_dec] at this
      have e : valZ [] = 0 := rfl
      omega
    · exact g
  rcases Nat.lt_or_ge 19 ((decZ D).length + c) with g | g
  · -- more than nineteen
    obtain ⟨c1, hc1⟩ : ∃ c1, (decZ D).length + c1 = 19 := ⟨19 - (decZ D).length, by omega⟩
    obtain ⟨c2, rfl⟩ : ∃ c2, c = c1 + c2 := ⟨c - c1, by omega⟩
    have e1 := fold_sig rdStart (decZ D ++ List.replicate c1 48) ((IsDig.dec D).app (.zeros _)) (fun _ => hd1 _) (by rw [List.length_append, List.length_replicate]; show 0 + _ ≤ 19; omega)
    have e2 : rdFold rdStart (decZ D ++ List.replicate (c1 + c2) 48) = ⟨false, true, (decZ D).length + (c1 + c2), 19, 0, D * 10 ^ c1, false⟩ := by
      have l1 : (decZ D ++ List.replicate c1 48).length = 19 := by rw [List.length_append, List.length_replicate]; exact hc1
      have hm : rdStart.m * 10 ^ 19 + valZ (decZ D ++ List.replicate c1 48) = D * 10 ^ c1 := by
        rw [valZ_app, valZ_dec, valZ_zeros, List.length_replicate, show rdStart.m = 0 from rfl, Nat.zero_mul, Nat.zero_add, Nat.add_zero]
      rw [l1, hm] at e1
      rw [← List.replicate_append_replicate, ← List.append_assoc, rdFold_app, e1, fold_tail _ _ (show 0 < 0 + 19 by omega) rfl]
      simp only [rdStart, RdSt.mk.injEq, Nat.zero_add, true_and]
      clear hm e1
      exact ⟨by simp, by omega, trivial⟩
    unfold RdIs
    rw [e2]
    refine ⟨c1, rfl, rfl, rfl, ?_, Nat.le_refl _, .inr ⟨?_, ?_⟩, ?_⟩
    · show (((decZ D).length + (c1 + c2) : Nat) : Int) - (19 : Nat) + 0 + c1 = ((c1 + c2 : Nat) : Int)
      omega
    · show 0 ≤ (((decZ D).length + (c1 + c2) : Nat) : Int) - (19 : Nat) + 0
      omega
    · show (((decZ D).length + (c1 + c2) : Nat) : Int) - (19 : Nat) + 0 ≤ 2
      omega
    · rw [← ten19]; exact dec_pow (by omega)
  · have e1 := fold_sig rdStart (decZ D ++ List.replicate c 48) ((IsDig.dec D).app (.zeros _)) (fun _ => hd1 _) (by rw [List.length_append, List.length_replicate]; show 0 + _ ≤ 19; omega)
    unfold RdIs
    rw [e1]
    refine ⟨c, ?_, rfl, ?_, ?_, ?_, .inr ⟨?_, ?_⟩, ?_⟩
    · simp [rdStart]; omega
    · simp [rdStart, valZ_app, valZ_zeros, valZ_dec]
    · simp [rdStart]
    · simp [rdStart]; omega
    · simp [rdStart]
    · simp [rdStart]
    · rw [← ten19]; exact dec_pow g
/-- Digits with a point after the n-th, and an exponent. -/
theorem rd_dotted {D n : Nat} (h0 : 0 < D) (hk : (decZ D).length ≤ 18) (h1 : 0 < n) (h2 : n ≤ (decZ D).length) (e : Int) : RdIs ((decZ D).take n ++ [46] ++ (decZ D).drop n) e D (n - (decZ D).length + e) := by
  have hd1 := head_dec h0 []
  rw [List.append_nil] at hd1
  have hh : ∀ z, ((decZ D).take n).head? = some z → z ≠ 48 := by
    intro z hz
    refine hd1 z ?_
    rw [List.head?_take] at hz
    simpa [show n ≠ 0 by omega] using hz
  have l1 : ((decZ D).take n).length = n := by rw [List.length_take]; omega
  have l2 : ((decZ D).drop n).length = (decZ D).length - n := List.length_drop
  have e1 := fold_sig rdStart ((decZ D).take n) ((IsDig.dec D).take n) (fun _ => hh) (by rw [l1]; show 0 + n ≤ 19; omega)
  have e3 := fold_sig ⟨true, true, n, n, n, valZ ((decZ D).take n), false⟩ ((decZ D).drop n) ((IsDig.dec D).drop n) (fun g => by simp at g; omega) (by rw [l2]; show n + _ ≤ 19; omega)
  have e2 : rdFold rdStart ((decZ D).take n ++ [46] ++ (decZ D).drop n) = ⟨true, true, (decZ D).length, (decZ D).length, n, D, false⟩ := by
    rw [rdFold_app, rdFold_app, e1, fold_dot]
    have t1 : (rdStart.dig || decide (0 < ((decZ D).take n).length)) = true := by rw [l1]; simp [h1]
    rw [t1]
    simp only [rdStart, l1, Nat.zero_add, Nat.zero_mul]
    rw [e3]
    congr 1
    · show n + _ = _; omega
    · show n + _ = _; omega
    · rw [← valZ_app, List.take_append_drop, valZ_dec]
  unfold RdIs
  rw [e2]
  refine ⟨0, rfl, rfl, by simp, by simp, by show (decZ D).length ≤ 19; omega, .inl rfl, ?_⟩
  rw [← ten19]
  exact dec_pow (by omega)
/-- 0, a point, zeros and digits. -/
theorem rd_small {D c : Nat} (h0 : 0 < D) (hk : (decZ D).length ≤ 18) : RdIs ([48, 46] ++ List.replicate c 48 ++ decZ D) 0 D (-(c : Int) - (decZ D).length) := by
  have hd1 := head_dec h0 []
  rw [List.append_nil] at hd1
  have e1 : rdFold rdStart [48, 46] = ⟨true, true, 0, 0, 0, 0, false⟩ := rfl
  have e2 : rdFold rdStart ([48, 46] ++ List.replicate c 48 ++ decZ D) = ⟨true, true, (decZ D).length, (decZ D).length, -(c : Int), D, false⟩ := by
    rw [rdFold_app, rdFold_app, e1, fold_lead _ _ rfl, fold_sig _ _ (IsDig.dec D) (fun _ => hd1) (by show 0 + _ ≤ 19; omega), valZ_dec]
    congr 1
    · simp
    · simp
    · show (0 : Int) - c = _; omega
    · simp
  unfold RdIs
  rw [e2]
  refine ⟨0, rfl, rfl, by simp, by simp, by show (decZ D).length ≤ 19; omega, .inl rfl, ?_⟩
  rw [← ten19]
  exact dec_pow (by omega)
/-- Digits and an exponent. -/
theorem rd_plain {D : Nat} (h0 : 0 < D) (hk : (decZ D).length ≤ 18) (e : Int) : RdIs (decZ D) e D e := by
  have hd1 := head_dec h0 []
  rw [List.append_nil] at hd1
  have hpos : 0 < (decZ D).length := by
    rcases Nat.eq_zero_or_pos (decZ D).length with g | g
    · have := congrArg valZ (List.length_eq_zero_iff.1 g)
      rw [valZ_dec] at this
      have e : valZ [] = 0 := rfl
      omega
    · exact g
  have e2 : rdFold rdStart (decZ D) = ⟨false, true, (decZ D).length, (decZ D).length, 0, D, false⟩ := by
    rw [fold_sig _ _ (IsDig.dec D) (fun _ => hd1) (by show 0 + _ ≤ 19; omega), valZ_dec]
    simp [rdStart, hpos]
  unfold RdIs
  rw [e2]
  refine ⟨0, rfl, rfl, by simp, by simp, by show (decZ D).length ≤ 19; omega, .inl rfl, ?_⟩
  rw [← ten19]
  exact dec_pow (by omega)
theorem dec_pos (D : Nat) : 0 < (decZ D).length := by
  rcases Nat.lt_or_ge D 10 with h | h
  · rw [decZ_one_digit D h]; simp
  · rw [decZ_snoc D h]; simp
/-- Digits, or digits, a point and digits. -/
def MpShape (mp : List Int) : Prop := ∃ A B, IsDig A ∧ 0 < A.length ∧ IsDig B ∧ (mp = A ∨ mp = A ++ [46] ++ B)
/-- An exponent's text. -/
def ExT (ex : List Int) (x : Int) : Prop := (ex = [] ∧ x = 0) ∨ (-9999 ≤ x ∧ x ≤ 9999 ∧ ((ex = 101 :: 45 :: decZ x.natAbs ∧ x < 0) ∨ (ex = 101 :: 43 :: decZ x.natAbs ∧ 0 ≤ x) ∨ (ex = 101 :: decZ x.natAbs ∧ 0 ≤ x)))
/-- THE LAW: how a number is written is read as its digits times the power of ten. -/
theorem text_read {D : Nat} {j : Int} (h0 : 0 < D) (hk : (decZ D).length ≤ 18) (hj0 : -1000 ≤ j) (hj1 : j ≤ 1000) :
    ∃ mp ex x, textZ D j = mp ++ ex ∧ ExT ex x ∧ RdIs mp x D j ∧ (∀ z ∈ mp, (48 ≤ z ∧ z ≤ 57) ∨ z = 46) ∧ MpShape mp := by
  have hsh : ∀ n : Nat, 0 < n → n ≤ (decZ D).length → MpShape ((decZ D).take n ++ [46] ++ (decZ D).drop n) := fun n h0 h1 => ⟨_, _, (IsDig.dec D).take n, by rw [List.length_take]; omega, (IsDig.dec D).drop n, .inr rfl⟩
  have hz : ∀ n : Nat, ∀ z ∈ (decZ D).take n ++ [46] ++ (decZ D).drop n, (48 ≤ z ∧ z ≤ 57) ∨ z = 46 := by
    intro n z hz
    rcases List.mem_append.1 hz with hz | hz
    · rcases List.mem_append.1 hz with hz | hz
      · exact .inl ((IsDig.dec D).take n z hz)
      · exact .inr (List.mem_singleton.1 hz)
    · exact .inl ((IsDig.dec D).drop n z hz)
  unfold textZ
  split
  · rename_i h
    have := rd_whole (c := j.toNat) h0 (by omega) (by omega)
    rw [show ((j.toNat : Nat) : Int) = j by omega] at this
    exact ⟨_, [], 0, by rw [List.append_nil], .inl ⟨rfl, rfl⟩, this, fun z hz => .inl (((IsDig.dec D).app (.zeros _)) z hz), ⟨_, [], (IsDig.dec D).app (.zeros _), by rw [List.length_append]; have := dec_pos D; omega, fun z hz => by simp at hz, .inl rfl⟩⟩
  · split
    · rename_i h1 h
      obtain ⟨n, hn⟩ : ∃ n : Nat, j + (decZ D).length = n := ⟨(j + (decZ D).length).toNat, by omega⟩
      rw [hn, Int.toNat_natCast]
      have := rd_dotted (n := n) h0 hk (by omega) (by omega) 0
      rw [show ((n : Int) - (decZ D).length + 0) = j by omega] at this
      exact ⟨_, [], 0, by rw [List.append_nil], .inl ⟨rfl, rfl⟩, this, hz n, hsh n (by omega) (by omega)⟩
    · split
      · rename_i h1 h2 h
        have := rd_small (c := (-(j + (decZ D).length)).toNat) h0 hk
        rw [show (-(((-(j + ((decZ D).length : Int))).toNat : Nat) : Int) - ((decZ D).length : Int)) = j by omega] at this
        refine ⟨_, [], 0, by rw [List.append_nil], .inl ⟨rfl, rfl⟩, this, fun z hz => ?_, ⟨[48], List.replicate (-(j + ((decZ D).length : Int))).toNat 48 ++ decZ D, fun z hz => by simp at hz; omega, by simp, (IsDig.zeros _).app (IsDig.dec D), .inr (by simp)⟩⟩
        rcases List.mem_append.1 hz with hz | hz
        · rcases List.mem_append.1 hz with hz | hz
          · simp at hz
            rcases hz with rfl | rfl
            · left; omega
            · right; rfl
          · exact .inl (IsDig.zeros _ z hz)
        · exact .inl (IsDig.dec D z hz)
      · rename_i h1 h2 h3
        have hex : ExT (101 :: sgnZ (j + (decZ D).length - 1)) (j + (decZ D).length - 1) := by
          right
          refine ⟨by omega, by omega, ?_⟩
          unfold sgnZ
          by_cases g : j + (decZ D).length - 1 < 0
          · rw [if_pos g]; exact .inl ⟨rfl, g⟩
          · rw [if_neg g]; exact .inr (.inl ⟨rfl, by omega⟩)
        refine ⟨dotZ (decZ D), _, _, by rw [List.append_assoc]; rfl, hex, ?_, ?_, ?_⟩
        · unfold dotZ
          split
          · rename_i g
            have := rd_plain h0 hk (j + (decZ D).length - 1)
            rw [g] at this ⊢
            rw [show (j + ((1 : Nat) : Int) - 1) = j by omega] at this ⊢
            exact this
          · have hl : 1 ≤ (decZ D).length := by
              rcases Nat.eq_zero_or_pos (decZ D).length with g | g
              · have := congrArg valZ (List.length_eq_zero_iff.1 g)
                rw [valZ_dec] at this
                have e : valZ [] = 0 := rfl
                omega
              · exact g
            have := rd_dotted (n := 1) h0 hk (by omega) hl (j + (decZ D).length - 1)
            rw [show (((1 : Nat) : Int) - (decZ D).length + (j + (decZ D).length - 1)) = j by omega] at this
            exact this
        · unfold dotZ
          split
          · exact fun z hz => .inl (IsDig.dec D z hz)
          · exact hz 1
        · unfold dotZ
          split
          · exact ⟨_, [], IsDig.dec D, dec_pos D, fun z hz => by simp at hz, .inl rfl⟩
          · exact hsh 1 (by omega) (dec_pos D)
end Go.Proofs.YtbcolebomgcphaaGreatFmt

namespace Go.Proofs.YtbcolebomgcphaaGreatFmt

/-- The word w is the one that M times ten to the E is nearest to, of all that are above 0 and finite. -/
def PsIs (M : Nat) (E : Int) (w : Nat) : Prop := ∀ r, 0 < r → r < 9218868437227405312 → (w = r ↔ Tells r (M * 10 ^ E.toNat) (10 ^ (-E).toNat))
theorem PsIs.zeros {D k w : Nat} {E j : Int} (h : PsIs (D * 10 ^ k) E w) (hj : E + k = j) : PsIs D j w := by
  intro r h0 h1
  rw [h r h0 h1, tells_zeros, hj]
theorem PsIs.whole {X w : Nat} (h : ∀ r, 0 < r → r < 9218868437227405312 → (w = r ↔ Tells r X 1)) {M k : Nat} (hX : X = M * 10 ^ k) : PsIs M k w := by
  intro r h0 h1
  rw [h r h0 h1, hX, Int.toNat_natCast, show (-(k : Int)).toNat = 0 by omega, Nat.pow_zero]
theorem PsIs.part {M k w : Nat} (h : ∀ r, 0 < r → r < 9218868437227405312 → (w = r ↔ Tells r M (10 ^ k))) : PsIs M (-(k : Int)) w := by
  intro r h0 h1
  rw [h r h0 h1, show (-(k : Int)).toNat = 0 by omega, Nat.pow_zero, Nat.mul_one, show (-(-(k : Int))).toNat = k by omega]
theorem not_tells_high {r P Q : Nat} (hr : r < 9218868437227405312) (h : (unt 9218868437227405311 + unt 9218868437227405312) * Q < P * big) : ¬ Tells r P Q := by
  have h1 : unt r + unt (r + 1) ≤ unt 9218868437227405311 + unt 9218868437227405312 := Nat.add_le_add (unt_le (by omega)) (unt_le (by omega))
  have h2 : (unt r + unt (r + 1)) * Q ≤ (unt 9218868437227405311 + unt 9218868437227405312) * Q := Nat.mul_le_mul_right _ h1
  unfold Tells
  generalize P * big = X at *
  generalize (unt 9218868437227405311 + unt 9218868437227405312) * Q = Y at *
  split <;> omega
theorem high_ok : Nat.blt (unt 9218868437227405311 + unt 9218868437227405312) (10 ^ 311 * 2 ^ 1075) = true := by decide +kernel
set_option exponentiation.threshold 3000 in
theorem PsIs.high {M : Nat} {E : Int} (hM : 0 < M) (hE : 310 < E) {w : Nat} (hw : 9218868437227405312 ≤ w) : PsIs M E w := by
  intro r h0 h1
  constructor
  · intro h; omega
  · intro h
    exfalso
    refine not_tells_high h1 ?_ h
    rw [show (-E).toNat = 0 by omega, Nat.pow_zero, Nat.mul_one]
    have hk : Nat.blt (unt 9218868437227405311 + unt 9218868437227405312) (10 ^ 311 * big) = true := high_ok
    refine Nat.lt_of_lt_of_le (by simpa using hk) (Nat.mul_le_mul_right _ ?_)
    have h3 : 10 ^ 311 ≤ 10 ^ E.toNat := Nat.pow_le_pow_right (n := 10) (by decide) (by omega)
    exact Nat.le_trans h3 (Nat.le_mul_of_pos_left _ hM)
theorem low_ok : Nat.blt (10000000000000000000 * 2 ^ 1075) (10 ^ 346) = true := by decide +kernel
set_option exponentiation.threshold 3000 in
theorem PsIs.low {M : Nat} {E : Int} (hM : M < 10000000000000000000) (hE : E < -345) : PsIs M E 0 := by
  intro r h0 h1
  constructor
  · intro h; omega
  · intro h
    exfalso
    refine not_tells_low h0 ?_ h
    rw [show E.toNat = 0 by omega, Nat.pow_zero, Nat.mul_one]
    have hk : Nat.blt (10000000000000000000 * big) (10 ^ 346) = true := low_ok
    have h2 : 10000000000000000000 * big < 10 ^ 346 := by simpa using hk
    refine Nat.lt_of_le_of_lt (Nat.mul_le_mul_right _ (Nat.le_of_lt hM)) (Nat.lt_of_lt_of_le h2 ?_)
    exact Nat.pow_le_pow_right (by decide) (by omega)
/-- The gap where the power of ten is small: every number of 64 bits. -/
theorem rd_gap_few {d b : Nat} {p : Int} (h0 : 0 ≤ p) (h1 : p ≤ 4) (hb : b ≤ 64) : Gap (d * rN (rdX b p + 2) p) (rM (rdX b p + 2) p) (2 ^ ((rdSh b p).toNat + 64)) := by
  have hp : p = 0 ∨ p = 1 ∨ p = 2 ∨ p = 3 ∨ p = 4 := by omega
  have hl : l2 p ≤ 13 ∧ 0 ≤ l2 p := by rcases hp with h | h | h | h | h <;> subst h <;> decide
  have es : rdSh b p = 8 := by unfold rdSh rdX; omega
  have ex : rdX b p = 53 - b - l2 p := by unfold rdX; omega
  have hM : rM (rdX b p + 2) p ≤ 4194304 := by
    unfold rM
    rw [show (-p).toNat = 0 by omega, Nat.pow_zero, Nat.mul_one]
    have h22 : (-(rdX (↑b) p + 2)).toNat ≤ 22 := by omega
    exact Nat.pow_le_pow_right (n := 2) (by decide) h22
  have hp := rM_pos (rdX b p + 2) p
  rw [es]
  generalize d * rN (rdX b p + 2) p = A
  generalize rM (rdX b p + 2) p = M at *
  have hlt := Nat.mod_lt A hp
  unfold Gap
  rw [show (2 : Nat) ^ ((8 : Int).toNat + 64) = 4722366482869645213696 from rfl]
  omega
end Go.Proofs.YtbcolebomgcphaaGreatFmt

namespace Go.Proofs.YtbcolebomgcphaaGreatFmt
open Ieee

theorem read_one : double.read 4607182418800017408 = .number false 4503599627370496 (-52) := by decide
theorem read_mone : double.read 13830554455654793216 = .number true 4503599627370496 (-52) := by decide
theorem nearest_neg (mag : Nat) (place : Int) : double.nearest true mag place = 9223372036854775808 + double.nearest false mag place := by
  have hc : ∀ n d, Toward.even.cut true n d = Toward.even.cut false n d := fun n d => rfl
  have hw : ∀ k, double.word true k = 9223372036854775808 + double.word false k := by
    intro k
    have e6 : double.signWeight = 9223372036854775808 := by decide
    unfold Format.word
    rw [e6]
    simp
  unfold Format.nearest
  split
  · exact hw 0
  · simp only [hc, hw]
theorem near_times {w : Nat} (h0 : 0 < w) (hw : w < 9218868437227405312) : double.nearest false (4503599627370496 * mant w) (-52 + expo w) = w := by
  have he := expo_ge w
  refine nearest_exact w _ _ 2000 h0 hw (by omega) (by omega) ?_
  rw [show (4503599627370496 : Nat) = 2 ^ 52 from rfl, Nat.mul_comm (2 ^ 52), Nat.mul_assoc, ← Nat.pow_add]
  congr 2
  omega
theorem one_mul {w : Nat} (hw : w ≤ 9218868437227405312) : floatBits .mul .f64 4607182418800017408 w = some w := by
  show double.mul 4607182418800017408 w = _
  unfold Format.mul
  rw [read_one]
  rcases Nat.eq_or_lt_of_le hw with g | g
  · subst g
    rw [read_inf]
    decide
  · rw [read_pos g]
    rcases Nat.eq_zero_or_pos w with h | h
    · subst h; decide
    · show some (double.nearest (false ^^ false) (4503599627370496 * mant w) (-52 + expo w)) = _
      rw [show (false ^^ false) = false from rfl, near_times h g]
theorem mone_mul {w : Nat} (hw : w ≤ 9218868437227405312) : floatBits .mul .f64 13830554455654793216 w = some (9223372036854775808 + w) := by
  show double.mul 13830554455654793216 w = _
  unfold Format.mul
  rw [read_mone]
  rcases Nat.eq_or_lt_of_le hw with g | g
  · subst g
    rw [read_inf]
    decide
  · rw [read_pos g]
    rcases Nat.eq_zero_or_pos w with h | h
    · subst h; decide
    · show some (double.nearest (true ^^ false) (4503599627370496 * mant w) (-52 + expo w)) = _
      rw [show (true ^^ false) = true from rfl, nearest_neg, near_times h g]
theorem read_ninf : double.read 18442240474082181120 = .infinity true := by decide
theorem read_neg {r : Nat} (h : r < 9218868437227405312) : double.read (9223372036854775808 + r) = .number true (mant r) (expo r) := by
  have := read_num (b := 9223372036854775808 + r) (by omega)
  rw [this]
  have e1 : (9223372036854775808 + r) % 9223372036854775808 = r := by omega
  have e2 : (9223372036854775808 + r) / 9223372036854775808 % 2 = 1 := by omega
  rw [e1, e2]
  rfl
/-- Is a word that may be infinite a finite one? -/
theorem eq_word {a r : Nat} (ha : a ≤ 9218868437227405312) (hr : r < 9218868437227405312) : (FloatKind.f64.format.order a r != some .eq) = decide (a ≠ r) := by
  show (double.order a r != some .eq) = _
  rcases Nat.eq_or_lt_of_le ha with g | g
  · subst g
    unfold Format.order
    rw [read_inf, read_pos hr]
    have : (9218868437227405312 : Nat) ≠ r := by omega
    rw [decide_eq_true this]
    rfl
  · rw [order_pos g hr]
    rcases Nat.lt_trichotomy a r with h | h | h
    · rw [Int.compare_eq_lt.2 (by have := unt_lt h; omega), decide_eq_true (by omega)]; rfl
    · subst h
      rw [Int.compare_eq_eq.2 rfl, decide_eq_false (by omega)]; rfl
    · rw [Int.compare_eq_gt.2 (by have := unt_lt h; omega), decide_eq_true (by omega)]; rfl
theorem eq_nword {a r : Nat} (ha : a ≤ 9218868437227405312) (hr : r < 9218868437227405312) : (FloatKind.f64.format.order (9223372036854775808 + a) (9223372036854775808 + r) != some .eq) = decide (a ≠ r) := by
  show (double.order (9223372036854775808 + a) (9223372036854775808 + r) != some .eq) = _
  rcases Nat.eq_or_lt_of_le ha with g | g
  · subst g
    unfold Format.order
    rw [show (9223372036854775808 + 9218868437227405312 : Nat) = 18442240474082181120 from rfl, read_ninf, read_neg hr]
    have : (9218868437227405312 : Nat) ≠ r := by omega
    rw [decide_eq_true this]
    rfl
  · have h := neg_order2 g hr
    have h' : double.order (9223372036854775808 + a) (9223372036854775808 + r) = some (compare r a) := h
    rw [h']
    rcases Nat.lt_trichotomy a r with h | h | h
    · rw [Nat.compare_eq_gt.2 h, decide_eq_true (by omega)]; rfl
    · subst h
      rw [Nat.compare_eq_eq.2 rfl, decide_eq_false (by omega)]; rfl
    · rw [Nat.compare_eq_lt.2 h, decide_eq_true (by omega)]; rfl
end Go.Proofs.YtbcolebomgcphaaGreatFmt

namespace Go.Proofs.YtbcolebomgcphaaGreatFmt
open Go.RowKit Go.Sort

/-- What has been found: the digits, where the point stands, was it seen? the exponent, its sign, was its letter seen? -/
structure DgSt where
  d : List Int
  point : Int
  seen : Bool
  e : Nat
  minus : Bool
  exp : Bool
def dgStart : DgSt := ⟨[], 0, false, 0, false, false⟩
def dgStep (s : DgSt) (c : Int) : DgSt :=
  if c = 101 then ⟨s.d, s.point, s.seen, s.e, s.minus, true⟩
  else if c = 45 then ⟨s.d, s.point, s.seen, s.e, s.exp, s.exp⟩
  else if c = 46 then ⟨s.d, s.point, true, s.e, s.minus, s.exp⟩
  else if 48 ≤ c ∧ c ≤ 57 then
    (if s.exp then ⟨s.d, s.point, s.seen, s.e * 10 + (c - 48).toNat, s.minus, s.exp⟩
     else if s.d = [] ∧ c = 48 then ⟨s.d, if s.seen then s.point - 1 else s.point, s.seen, s.e, s.minus, s.exp⟩
     else ⟨s.d ++ [c], if s.seen then s.point else s.point + 1, s.seen, s.e, s.minus, s.exp⟩)
  else s
def dgFold (s : DgSt) (l : List Int) : DgSt := l.foldl dgStep s
theorem dgFold_app (s : DgSt) (a b : List Int) : dgFold s (a ++ b) = dgFold (dgFold s a) b := List.foldl_append
theorem dgFold_snoc (s : DgSt) (a : List Int) (c : Int) : dgFold s (a ++ [c]) = dgStep (dgFold s a) c := by rw [dgFold_app]; rfl
theorem dg_digit {s : DgSt} {c : Int} (h0 : 48 ≤ c) (h1 : c ≤ 57) (he : s.exp = false) (hn : ¬ (s.d = [] ∧ c = 48)) : dgStep s c = ⟨s.d ++ [c], if s.seen then s.point else s.point + 1, s.seen, s.e, s.minus, false⟩ := by
  unfold dgStep
  rw [if_neg (by omega), if_neg (by omega), if_neg (by omega), if_pos ⟨h0, h1⟩, he, if_neg (by decide), if_neg hn]
/-- Digits that count. -/
theorem dg_sig (s : DgSt) (l : List Int) (hl : IsDig l) (he : s.exp = false) (hd : s.d = [] → ∀ z, l.head? = some z → z ≠ 48) :
    dgFold s l = ⟨s.d ++ l, if s.seen then s.point else s.point + l.length, s.seen, s.e, s.minus, false⟩ := by
  revert hl hd
  refine snoc_ind (P := fun l => IsDig l → (s.d = [] → ∀ z, l.head? = some z → z ≠ 48) → dgFold s l = ⟨s.d ++ l, if s.seen then s.point else s.point + l.length, s.seen, s.e, s.minus, false⟩) ?_ (fun l c ih hl hd => ?_) l
  · intro _ _
    cases s
    simp at he
    subst he
    simp [dgFold]
  · have hc := hl c (by simp)
    rw [dgFold_snoc, ih hl.left (fun h z hz => hd h z (by
      cases l with
      | nil => simp at hz
      | cons x l => simpa using hz)), dg_digit hc.1 hc.2 rfl]
    · simp only [List.length_append, List.length_singleton, List.append_assoc, DgSt.mk.injEq, true_and]
      refine ⟨?_, trivial⟩
      split <;> omega
    · rintro ⟨e1, e2⟩
      have e3 := List.append_eq_nil_iff.1 e1
      have : l = [] := e3.2
      subst this
      exact hd e3.1 c rfl e2
/-- Zeros ahead of the digits. -/
theorem dg_lead (s : DgSt) (c : Nat) (he : s.exp = false) (hd : s.d = []) : dgFold s (List.replicate c 48) = ⟨[], if s.seen then s.point - c else s.point, s.seen, s.e, s.minus, false⟩ := by
  induction c with
  | zero => cases s; simp at he hd; subst he; subst hd; simp [dgFold]
  | succ c ih =>
    rw [List.replicate_succ', dgFold_snoc, ih]
    unfold dgStep
    rw [if_neg (by decide), if_neg (by decide), if_neg (by decide), if_pos (by decide), if_neg (by simp), if_pos ⟨rfl, rfl⟩]
    simp only [DgSt.mk.injEq, true_and]
    refine ⟨?_, trivial⟩
    split <;> omega
theorem dg_dot (s : DgSt) : dgFold s [46] = ⟨s.d, s.point, true, s.e, s.minus, s.exp⟩ := rfl
/-- The exponent's digits. -/
theorem dg_exp (s : DgSt) (l : List Int) (hl : IsDig l) (he : s.exp = true) : dgFold s l = ⟨s.d, s.point, s.seen, s.e * 10 ^ l.length + valZ l, s.minus, true⟩ := by
  revert hl
  refine snoc_ind (P := fun l => IsDig l → dgFold s l = ⟨s.d, s.point, s.seen, s.e * 10 ^ l.length + valZ l, s.minus, true⟩) ?_ (fun l c ih hl => ?_) l
  · intro _
    cases s
    simp at he
    subst he
    simp [dgFold, valZ]
  · have hc := hl c (by simp)
    rw [dgFold_snoc, ih hl.left, valZ_snoc]
    unfold dgStep
    rw [if_neg (by omega), if_neg (by omega), if_neg (by omega), if_pos ⟨hc.1, hc.2⟩, if_pos rfl]
    simp only [DgSt.mk.injEq, true_and, List.length_append, List.length_singleton]
    refine ⟨?_, trivial⟩
    rw [Nat.pow_succ]
    grind
/-- What is left when the zeros behind are struck. -/
def DgIs (s : DgSt) (D : Nat) (p : Int) : Prop := ∃ c : Nat, s.d = decZ D ++ List.replicate c 48 ∧ s.point + (if s.minus then -(s.e : Int) else s.e) = p ∧ s.e ≤ 10000 ∧ s.d.length ≤ 40
theorem dg_dotted {s : DgSt} {D n : Nat} (h0 : 0 < D) (h1 : 0 < n) (h2 : n ≤ (decZ D).length) (he : s.exp = false) (hd : s.d = []) (hs : s.seen = false) :
    dgFold s ((decZ D).take n ++ [46] ++ (decZ D).drop n) = ⟨decZ D, s.point + n, true, s.e, s.minus, false⟩ := by
  have hd1 := head_dec h0 []
  rw [List.append_nil] at hd1
  have hh : ∀ z, ((decZ D).take n).head? = some z → z ≠ 48 := by
    intro z hz
    refine hd1 z ?_
    rw [List.head?_take] at hz
    simpa [show n ≠ 0 by omega] using hz
  have l1 : ((decZ D).take n).length = n := by rw [List.length_take]; omega
  rw [dgFold_app, dgFold_app, dg_sig s _ ((IsDig.dec D).take n) he (fun _ => hh), dg_dot, dg_sig _ _ ((IsDig.dec D).drop n) rfl]
  · simp only [hd, List.nil_append, List.take_append_drop, hs, l1]
    rfl
  · intro e1
    have e2 : s.d ++ (decZ D).take n = [] := e1
    have := congrArg List.length (List.append_eq_nil_iff.1 e2).2
    rw [l1] at this
    simp at this
    omega
theorem dg_ex {s : DgSt} {x : Int} (hm : s.minus = false) (hx : s.e = 0) : dgFold s (101 :: sgnZ x) = ⟨s.d, s.point, s.seen, x.natAbs, decide (x < 0), true⟩ := by
  have e : dgFold s (101 :: sgnZ x) = dgFold (dgStep (dgStep s 101) (if x < 0 then 45 else 43)) (decZ x.natAbs) := rfl
  rw [e, dg_exp _ _ (IsDig.dec _)]
  · rw [valZ_dec]
    by_cases g : x < 0
    · rw [if_pos g]
      unfold dgStep
      simp [hx, g]
    · rw [if_neg g]
      unfold dgStep
      simp [hx, hm, g]
  · by_cases g : x < 0
    · rw [if_pos g]; rfl
    · rw [if_neg g]; rfl
/-- THE LAW: the digits of a written number. -/
theorem text_digits {D : Nat} {j : Int} (h0 : 0 < D) (hk : (decZ D).length ≤ 18) (hj0 : -1000 ≤ j) (hj1 : j ≤ 1000) (s : DgSt) (hs : s = dgStart) : DgIs (dgFold s (textZ D j)) D (j + (decZ D).length) := by
  have q1 : s.exp = false := by rw [hs]; rfl
  have q2 : s.d = [] := by rw [hs]; rfl
  have q3 : s.seen = false := by rw [hs]; rfl
  have q4 : s.minus = false := by rw [hs]; rfl
  have q5 : s.e = 0 := by rw [hs]; rfl
  have q6 : s.point = 0 := by rw [hs]; rfl
  clear hs
  have hd1 := head_dec h0
  have hpos : 1 ≤ (decZ D).length := by
    rcases Nat.eq_zero_or_pos (decZ D).length with g | g
    · have := congrArg valZ (List.length_eq_zero_iff.1 g)
      rw [valZ_dec] at this
      have e : valZ [] = 0 := rfl
      omega
    · exact g
  unfold textZ
  split
  · rename_i h
    rw [dg_sig s _ ((IsDig.dec D).app (.zeros _)) q1 (fun _ => hd1 _)]
    refine ⟨j.toNat, by rw [q2]; rfl, ?_, by rw [q5]; omega, ?_⟩
    · rw [q3, q4, q5, q6, List.length_append, List.length_replicate]
      simp
      omega
    · rw [q2, List.nil_append, List.length_append, List.length_replicate]; omega
  · split
    · rename_i h1 h
      obtain ⟨n, hn⟩ : ∃ n : Nat, j + (decZ D).length = n := ⟨(j + (decZ D).length).toNat, by omega⟩
      rw [hn, Int.toNat_natCast, dg_dotted h0 (by omega) (by omega) q1 q2 q3]
      refine ⟨0, by simp, ?_, by rw [q5]; omega, by show (decZ D).length ≤ 40; omega⟩
      rw [q4, q5, q6]
      simp
    · split
      · rename_i h1 h2 h
        have e1 : dgFold s [48, 46] = ⟨[], 0, true, 0, false, false⟩ := by
          have : s = ⟨[], 0, false, 0, false, false⟩ := by cases s; simp_all
          rw [this]
          rfl
        have hd2 := hd1 []
        rw [List.append_nil] at hd2
        rw [dgFold_app, dgFold_app, e1, dg_lead _ _ rfl rfl, dg_sig _ _ (IsDig.dec D) rfl (fun _ => hd2)]
        refine ⟨0, by simp, ?_, by simp, by simp; omega⟩
        simp
        omega
      · rename_i h1 h2 h3
        obtain ⟨x, hx⟩ : ∃ x, j + ((decZ D).length : Int) - 1 = x := ⟨_, rfl⟩
        rw [List.append_assoc, hx, dgFold_app]
        have key : dgFold s (dotZ (decZ D)) = ⟨decZ D, 1, decide ((decZ D).length ≠ 1), 0, false, false⟩ := by
          unfold dotZ
          split
          · rename_i g
            have hd2 := hd1 []
            rw [List.append_nil] at hd2
            rw [dg_sig s _ (IsDig.dec D) q1 (fun _ => hd2), q2, q3, q4, q5, q6, g]
            rfl
          · rename_i g
            rw [dg_dotted h0 (by omega) hpos q1 q2 q3, q4, q5, q6, decide_eq_true g]
            rfl
        rw [key]
        have e2 := dg_ex (s := ⟨decZ D, 1, decide ((decZ D).length ≠ 1), 0, false, false⟩) (x := x) rfl rfl
        have e3 : [101] ++ sgnZ x = 101 :: sgnZ x := rfl
        rw [e3, e2]
        refine ⟨0, by simp, ?_, ?_, by show (decZ D).length ≤ 40; omega⟩
        · by_cases g : x < 0
          · simp [g]; omega
          · simp [g]; omega
        · show x.natAbs ≤ 10000; omega
/-- One more in the last place: of digits that end in t nines. -/
theorem more_last (S : Nat) (h : S % 10 ≠ 9) : ∃ l c, decZ S = l ++ [c] ∧ c ≠ 57 ∧ 48 ≤ c ∧ decZ (S + 1) = l ++ [c + 1] := by
  rcases Nat.lt_or_ge S 10 with g | g
  · refine ⟨[], (S : Int) + 48, ?_, by omega, by omega, ?_⟩
    · rw [decZ_one_digit S g]; rfl
    · rw [decZ_one_digit (S + 1) (by omega)]
      simp
      omega
  · refine ⟨decZ (S / 10), ((S % 10 : Nat) : Int) + 48, decZ_snoc S g, by omega, by omega, ?_⟩
    rw [decZ_snoc (S + 1) (by omega), show (S + 1) / 10 = S / 10 by omega, show (S + 1) % 10 = S % 10 + 1 by omega]
    simp
    omega
theorem more_nine (S : Nat) (h : S % 10 = 9) (h1 : 10 ≤ S) : decZ S = decZ (S / 10) ++ [57] ∧ decZ (S + 1) = decZ (S / 10 + 1) ++ [48] := by
  constructor
  · rw [decZ_snoc S h1, h]; rfl
  · rw [decZ_snoc (S + 1) (by omega), show (S + 1) / 10 = S / 10 + 1 by omega, show (S + 1) % 10 = 0 by omega]; rfl
theorem more_law (S : Nat) : (∃ l c t, decZ S = l ++ [c] ++ List.replicate t 57 ∧ c ≠ 57 ∧ 48 ≤ c ∧ decZ (S + 1) = l ++ [c + 1] ++ List.replicate t 48) ∨
    (∃ t, decZ S = List.replicate t 57 ∧ decZ (S + 1) = 49 :: List.replicate t 48) := by
  induction S using Nat.strongRecOn with
  | _ S ih =>
    by_cases h : S % 10 = 9
    · rcases Nat.lt_or_ge S 10 with g | g
      · have : S = 9 := by omega
        subst this
        right
        exact ⟨1, by decide +kernel, by decide +kernel⟩
      · obtain ⟨e1, e2⟩ := more_nine S h g
        rcases ih (S / 10) (by omega) with ⟨l, c, t, a1, a2, a3, a4⟩ | ⟨t, a1, a2⟩
        · left
          refine ⟨l, c, t + 1, ?_, a2, a3, ?_⟩
          · rw [e1, a1, List.replicate_succ', List.append_assoc]
          · rw [e2, a4, List.replicate_succ', List.append_assoc]
        · right
          refine ⟨t + 1, ?_, ?_⟩
          · rw [e1, a1, List.replicate_succ']
          · rw [e2, a2, List.replicate_succ']; rfl
    · left
      obtain ⟨l, c, a1, a2, a3, a4⟩ := more_last S h
      exact ⟨l, c, 0, by simpa using a1, a2, a3, by simpa using a4⟩
end Go.Proofs.YtbcolebomgcphaaGreatFmt
