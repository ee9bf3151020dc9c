/- The check of all powers and exponents, by Lean's kernel. -/
import Derived.Test.YtmhbkilidpbenaaGreatDoorZc
import GoSem.PinnedTables
namespace Go.Proofs.YtmhbkilidpbenaaGreatDoor

/-- 2 to the e times 10 to the p as a ratio. -/
def rN (e p : Int) : Nat := 2 ^ e.toNat * 10 ^ p.toNat
def rM (e p : Int) : Nat := 2 ^ (-e).toNat * 10 ^ (-p).toNat
def l10 (x : Int) : Int := x * 78913 / 262144
def l2 (x : Int) : Int := x * 108853 / 32768
def skw (x : Int) : Int := (x * 631305 - 261663) / 2097152
/-- One row of the powers' table: it lies above the power, by less than 1. -/
def rowOK (i : Nat) (h : Nat × Nat) : Bool :=
  Nat.ble (rN (127 - l2 ((i : Int) - 348)) ((i : Int) - 348) + h.2 * rM (127 - l2 ((i : Int) - 348)) ((i : Int) - 348)) (h.1 * 18446744073709551616 * rM (127 - l2 ((i : Int) - 348)) ((i : Int) - 348)) &&
  Nat.blt (h.1 * 18446744073709551616 * rM (127 - l2 ((i : Int) - 348)) ((i : Int) - 348)) (rN (127 - l2 ((i : Int) - 348)) ((i : Int) - 348) + h.2 * rM (127 - l2 ((i : Int) - 348)) ((i : Int) - 348) + rM (127 - l2 ((i : Int) - 348)) ((i : Int) - 348)) &&
  Nat.blt h.1 18446744073709551616 && Nat.blt h.2 18446744073709551616
def rowsOK : Nat → List (Nat × Nat) → Bool
  | _, [] => true
  | i, h :: t => rowOK i h && rowsOK (i + 1) t
set_option maxRecDepth 100000 in
theorem rows_ok : rowsOK 0 Go.Pinned.pow10Rows = true := by decide +kernel
set_option maxRecDepth 100000 in
theorem rows_len : Go.Pinned.pow10Rows.length = 696 := by decide +kernel
theorem rowsOK_get : ∀ (l : List (Nat × Nat)) (k i : Nat) (h : Nat × Nat), rowsOK k l = true → l[i]? = some h → rowOK (k + i) h = true := by
  intro l
  induction l with
  | nil => intro k i h _ h2; simp at h2
  | cons x l ih =>
    intro k i h h1 h2
    rw [rowsOK, Bool.and_eq_true] at h1
    cases i with
    | zero => simp at h2; subst h2; exact h1.1
    | succ i =>
      rw [List.getElem?_cons_succ] at h2
      have := ih (k + 1) i h h1.2 h2
      rwa [show k + 1 + i = k + (i + 1) by omega] at this

def fin (a b t N x1 y1 x2 y2 : Nat) : Bool :=
  Nat.beq (x1 * y2) (x2 * y1 + 1) && Nat.ble (y1 * b) (x1 * a) && Nat.ble (x2 * a) (y2 * b) &&
  (Nat.ble N (x1 + x2) || Nat.beq (x1 * a) (y1 * b) || Nat.beq (x2 * a) (y2 * b)) &&
  (Nat.beq (x1 * a) (y1 * b) || Nat.ble (2 * b) (t * (x1 * a - y1 * b))) && (Nat.beq (x2 * a) (y2 * b) || Nat.ble (2 * b) (t * (y2 * b - x2 * a)))
theorem fin_gap {a b t N x1 y1 x2 y2 : Nat} (hb : 0 < b) (h : fin a b t N x1 y1 x2 y2 = true) : ∀ x, x < N → Gap (x * a) b t := by
  simp only [fin, Bool.and_eq_true, Bool.or_eq_true, Nat.beq_eq, Nat.ble_eq] at h
  obtain ⟨⟨⟨⟨⟨h1, h2⟩, h3⟩, h4⟩, h5⟩, h6⟩ := h
  exact fun x hx => cert_gap hb h1 h2 h3 (by omega) h5 h6 hx
def euc (a b t N : Nat) : Nat → Nat → Nat → Nat → Nat → Nat → Nat → Bool
  | 0, x1, y1, _, x2, y2, _ => fin a b t N x1 y1 x2 y2
  | f + 1, x1, y1, r1, x2, y2, r2 =>
    match Nat.ble N (x1 + x2) || Nat.beq r1 0 || Nat.beq r2 0 with
    | true => fin a b t N x1 y1 x2 y2
    | false =>
      match Nat.ble r1 r2 with
      | true => euc a b t N f x1 y1 r1 (x2 + min (r2 / r1) ((N - x2 - 1) / x1) * x1) (y2 + min (r2 / r1) ((N - x2 - 1) / x1) * y1) (r2 - min (r2 / r1) ((N - x2 - 1) / x1) * r1)
      | false => euc a b t N f (x1 + min (r1 / r2) ((N - x1 - 1) / x2) * x2) (y1 + min (r1 / r2) ((N - x1 - 1) / x2) * y2) (r1 - min (r1 / r2) ((N - x1 - 1) / x2) * r2) x2 y2 r2
theorem euc_gap {a b t N : Nat} (hb : 0 < b) : ∀ f x1 y1 r1 x2 y2 r2, euc a b t N f x1 y1 r1 x2 y2 r2 = true → ∀ x, x < N → Gap (x * a) b t := by
  intro f
  induction f with
  | zero => intro x1 y1 r1 x2 y2 r2 h; exact fin_gap hb h
  | succ f ih =>
    intro x1 y1 r1 x2 y2 r2 h
    rw [euc] at h
    split at h
    · exact fin_gap hb h
    · split at h
      · exact ih _ _ _ _ _ _ h
      · exact ih _ _ _ _ _ _ h
def gapB (A M t : Nat) : Bool := Nat.beq (A % M) 0 || (Nat.ble (2 * M) (t * (A % M)) && Nat.ble (2 * M) (t * (M - A % M)))
theorem gapB_gap {A M t : Nat} (h : gapB A M t = true) : Gap A M t := by
  unfold Gap
  simpa only [gapB, Bool.and_eq_true, Bool.or_eq_true, Nat.beq_eq, Nat.ble_eq] using h
/-- One exponent: the place of the last digit, the gap; of a power of two the same. -/
def chk1 (p s : Int) (u v a b : Nat) : Bool :=
  decide (-348 ≤ p) && decide (p < 348) && decide (0 ≤ s) && decide (s < 12) && Nat.ble v u && Nat.blt u (10 * v) &&
  euc a b (2 ^ (s.toNat + 64)) 18014398509481984 100 1 (a / b) (a % b) 1 (a / b + 1) (b - a % b)
def chk2 (p s : Int) (u v : Nat) : Bool :=
  decide (-348 ≤ p) && decide (p < 348) && decide (0 ≤ s) && decide (s < 12) && Nat.ble (4 * v) (3 * u) && Nat.blt (3 * u) (40 * v) &&
  gapB (18014398509481983 * u) v (2 ^ (s.toNat + 64)) && gapB (18014398509481984 * u) v (2 ^ (s.toNat + 64)) && gapB (18014398509481986 * u) v (2 ^ (s.toNat + 64))
def chkE (E : Int) : Bool :=
  chk1 (-l10 E) (8 - E - l2 (-l10 E)) (rN E (-l10 E)) (rM E (-l10 E)) (rN (E + 1) (-l10 E)) (rM (E + 1) (-l10 E)) &&
  chk2 (-skw E) (8 - E - l2 (-skw E)) (rN E (-skw E)) (rM E (-skw E))
def chkN (k : Int) : Nat → Bool
  | 0 => true
  | n + 1 => chkE (k + n) && chkN k n
theorem chkN_get : ∀ (n : Nat) (k E : Int), chkN k n = true → k ≤ E → E < k + n → chkE E = true := by
  intro n
  induction n with
  | zero => intro k E _ h1 h2; omega
  | succ n ih =>
    intro k E h h1 h2
    rw [chkN, Bool.and_eq_true] at h
    rcases Int.lt_or_le E (k + n) with g | g
    · exact ih k E h.2 h1 g
    · rw [show E = k + n by omega]; exact h.1
theorem chk_0 : chkN (-1074) 128 = true := by decide +kernel
theorem chk_1 : chkN (-946) 128 = true := by decide +kernel
theorem chk_2 : chkN (-818) 128 = true := by decide +kernel
theorem chk_3 : chkN (-690) 128 = true := by decide +kernel
theorem chk_4 : chkN (-562) 128 = true := by decide +kernel
theorem chk_5 : chkN (-434) 128 = true := by decide +kernel
theorem chk_6 : chkN (-306) 128 = true := by decide +kernel
theorem chk_7 : chkN (-178) 128 = true := by decide +kernel
theorem chk_8 : chkN (-50) 128 = true := by decide +kernel
theorem chk_9 : chkN (78) 128 = true := by decide +kernel
theorem chk_10 : chkN (206) 128 = true := by decide +kernel
theorem chk_11 : chkN (334) 128 = true := by decide +kernel
theorem chk_12 : chkN (462) 128 = true := by decide +kernel
theorem chk_13 : chkN (590) 128 = true := by decide +kernel
theorem chk_14 : chkN (718) 128 = true := by decide +kernel
theorem chk_15 : chkN (846) 128 = true := by decide +kernel
theorem chk_all (E : Int) (h0 : -1074 ≤ E) (h1 : E ≤ 971) : chkE E = true := by
  rcases Int.lt_or_le E (-946) with g | g
  · exact chkN_get 128 (-1074) E chk_0 (by omega) (by omega)
  rcases Int.lt_or_le E (-818) with g | g
  · exact chkN_get 128 (-946) E chk_1 (by omega) (by omega)
  rcases Int.lt_or_le E (-690) with g | g
  · exact chkN_get 128 (-818) E chk_2 (by omega) (by omega)
  rcases Int.lt_or_le E (-562) with g | g
  · exact chkN_get 128 (-690) E chk_3 (by omega) (by omega)
  rcases Int.lt_or_le E (-434) with g | g
  · exact chkN_get 128 (-562) E chk_4 (by omega) (by omega)
  rcases Int.lt_or_le E (-306) with g | g
  · exact chkN_get 128 (-434) E chk_5 (by omega) (by omega)
  rcases Int.lt_or_le E (-178) with g | g
  · exact chkN_get 128 (-306) E chk_6 (by omega) (by omega)
  rcases Int.lt_or_le E (-50) with g | g
  · exact chkN_get 128 (-178) E chk_7 (by omega) (by omega)
  rcases Int.lt_or_le E (78) with g | g
  · exact chkN_get 128 (-50) E chk_8 (by omega) (by omega)
  rcases Int.lt_or_le E (206) with g | g
  · exact chkN_get 128 (78) E chk_9 (by omega) (by omega)
  rcases Int.lt_or_le E (334) with g | g
  · exact chkN_get 128 (206) E chk_10 (by omega) (by omega)
  rcases Int.lt_or_le E (462) with g | g
  · exact chkN_get 128 (334) E chk_11 (by omega) (by omega)
  rcases Int.lt_or_le E (590) with g | g
  · exact chkN_get 128 (462) E chk_12 (by omega) (by omega)
  rcases Int.lt_or_le E (718) with g | g
  · exact chkN_get 128 (590) E chk_13 (by omega) (by omega)
  rcases Int.lt_or_le E (846) with g | g
  · exact chkN_get 128 (718) E chk_14 (by omega) (by omega)
  exact chkN_get 128 (846) E chk_15 (by omega) (by omega)
end Go.Proofs.YtmhbkilidpbenaaGreatDoor
