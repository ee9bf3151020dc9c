/- The contract of parseFloat64. Each lemma's conditions stand in its own statement. -/
import Derived.Test.YtbcolebomgcphaaGreatFmtSa
import Derived.Test.YtbcolebomgcphaaGreatFmtXe
namespace Go.Proofs.YtbcolebomgcphaaGreatFmt
open Go.RowKit

/-- What parseFloat64 answers: the word that is nearest; nil, or of infinity an error. -/
def PfIs (w : World) (d : Nat) (p : Int) (e : Ending) (w' : World) : Prop :=
  ∃ (x : Nat) (er : Value), e = .returned (.tuple #[.float .f64 x, er]) ∧ (er = .nilIface ∨ er = .iface 119 (.int .i64 1)) ∧ PsIs d p x ∧ x ≤ 9218868437227405312 ∧ Below w.heap.size w w'
theorem bit_parts {m : Nat} (h0 : 0 < m) (h1 : m < 18446744073709551616) : 0 < Lib.bitLen m ∧ Lib.bitLen m ≤ 64 ∧ 2 ^ (Lib.bitLen m - 1) ≤ m ∧ m < 2 ^ Lib.bitLen m := by
  have key : ∀ (f x : Nat), 0 < x → x < 2 ^ f → 0 < Lib.bitLenAux f x ∧ Lib.bitLenAux f x ≤ f ∧ 2 ^ (Lib.bitLenAux f x - 1) ≤ x ∧ x < 2 ^ Lib.bitLenAux f x := by
    intro f
    induction f with
    | zero => intro x h0 h1; simp at h1; omega
    | succ f ih =>
      intro x hx0 hx1
      rw [Lib.bitLenAux, if_neg (by omega)]
      rcases Nat.eq_zero_or_pos (x / 2) with g | g
      · have hz : Lib.bitLenAux f (x / 2) = 0 := by rw [g]; cases f <;> simp [Lib.bitLenAux]
        rw [hz]
        have : x = 1 := by omega
        subst this
        exact ⟨by decide, by omega, by decide, by decide⟩
      · obtain ⟨a, d, b, c⟩ := ih (x / 2) g (by rw [Nat.pow_succ] at hx1; omega)
        obtain ⟨L, hL⟩ : ∃ L, Lib.bitLenAux f (x / 2) = L + 1 := ⟨_, (Nat.succ_pred_eq_of_pos a).symm⟩
        rw [hL] at b c d ⊢
        rw [show L + 1 - 1 = L by omega] at b
        refine ⟨by omega, by omega, ?_, ?_⟩
        · rw [show 1 + (L + 1) - 1 = L + 1 by omega, Nat.pow_succ]; omega
        · rw [show 1 + (L + 1) = (L + 1) + 1 by omega, Nat.pow_succ]; omega
  exact key 64 m h0 h1
theorem l2_bounds {p : Int} (h0 : -345 ≤ p) (h1 : p ≤ 310) : -1150 ≤ l2 p ∧ l2 p ≤ 1030 := by unfold l2; omega
/-- The scaled and unrounded number, its table row, its shift. -/
theorem parse_usc {d b s hi lo : Nat} {p : Int} (h0 : -345 ≤ p) (h1 : p ≤ 310) (hd0 : 0 < d) (hb0 : 0 < b) (hb : b ≤ 64) (hd : d < 2 ^ b) (hbp : b ≤ 57 ∨ (0 ≤ p ∧ p ≤ 4)) (hs : (s : Int) = rdSh b p) (hs64 : s < 64)
    (hrow : Go.Pinned.pow10Rows[rowAt p]? = some (hi, lo)) : usc (d * 2 ^ (64 - b)) hi lo s = unr (d * rN (rdX b p + 2) p) (rM (rdX b p + 2) p) := by
  have hx : d * 2 ^ (64 - b) < 18446744073709551616 := by
    have h := (Nat.mul_lt_mul_right (a := 2 ^ (64 - b)) (Nat.two_pow_pos _)).2 hd
    rw [← Nat.pow_add, show b + (64 - b) = 64 by omega] at h
    exact h
  have hsh : (s : Int) = -(rdX b p - (64 - b) + l2 p + 3) := by rw [hs]; rfl
  have hg : Gap (d * rN (rdX b p + 2) p) (rM (rdX b p + 2) p) (2 ^ ((rdSh b p).toNat + 64)) := by
    rcases hbp with h | h
    · exact rd_gap h0 h1 h hd (by omega)
    · exact rd_gap_few h.1 h.2 hb
  have he : rdX b p - (64 - b) + 2 + ((64 - b : Nat) : Int) = rdX b p + 2 := by omega
  have := usc_at (e := rdX b p - (64 - b)) (X := d) (k := 64 - b) (t := (rdSh b p).toNat) (row_ok hrow) (by omega) hsh hd0 hx (by
    rw [show (18446744073709551616 : Nat) = 2 ^ 64 from rfl, ← Nat.pow_add]
    exact Nat.pow_le_pow_right (by decide) (by omega)) (by rw [he]; exact hg)
  rw [he] at this
  exact this
set_option maxRecDepth 100000 in
set_option maxHeartbeats 1600000 in
theorem parse_none (d b i hi lo s : Nat) (p lp E : Int) (w : World) (h0 : -345 ≤ p) (h1 : p ≤ 310) (hd : d < 18446744073709551616) (hbl : Lib.bitLen d = b) (hb : b ≤ 64) (hlp : l2 p = lp) (hlp0 : -1150 ≤ lp) (hlp1 : lp ≤ 1030) (hi1 : i < 696) (hpi : p = (i : Int) - 348)
    (hE : min 1074 (53 - (b : Int) - lp) = E) (hE0 : -1100 ≤ E) (hE1 : E ≤ 1074) (hs : (s : Int) = -(E - (64 - b) + lp + 3)) (hs64 : 64 ≤ s)
    (hT : w.cell? ⟨14, i * 2, none⟩ = some (.int .u64 hi)) (hT2 : w.cell? ⟨14, i * 2 + 1, none⟩ = some (.int .u64 lo)) (hg : 14 < w.heap.size) (hres : PsIs d p 0) :
    Calls Tryz.prog 197 #[.int .u64 d, .int .i64 p, .int .u64 0] w (PfIs w d p) := by
  have clen := Tryz.bits_Len64 d
  rw [Int.toNat_natCast, hbl] at clen
  have hd2 : (0 : Int) ≤ (d : Int) ∧ (d : Int) ≤ 18446744073709551615 := by omega
  have cl := fun W => log2pow10_any p W (by omega) (by omega)
  rw [hlp] at cl
  have cp := prescale_new i hi lo s (E - (64 - (b : Int))) p lp w hi1 hpi (by omega) (by omega) (by omega) (by omega) hs hT hT2 hg
  have hx := fun n W => ext_from 195 (.inr rfl) n W
  have ho : bits .or .u64 0 0 = 0 := by decide
  have gE := fun _ : True => hE
  have HRES := Lib.hid hres
  have gs : (64 : Int) ≤ (s : Int) := by omega
  clear hE hs hT hT2 hg hres hbl hlp hpi
  go_enter Tryz.func197, Tryz.ntmps197
  go_wp2_with fail
  refine (clen _ hd2.1 hd2.2).mono ?_
  rintro e w1 ⟨rfl, rfl⟩
  clear clen
  go_wp2_with fail
  refine (cl _).mono ?_
  rintro e w1 ⟨rfl, rfl⟩
  go_wp2_with fail
  refine cp.mono ?_
  rintro e w2 ⟨rfl, hP, hb⟩
  obtain ⟨k0, k1, k2⟩ := hP
  have HB := Lib.hid hb
  clear cp hb cl
  go_wp2
  go_ret2
  exact ⟨0, .nilIface, rfl, .inl rfl, HRES.out, by omega, HB.out⟩
set_option maxRecDepth 100000 in
theorem bool2i_t (w : World) : Calls Tryz.prog 162 #[.bool true] w fun e w' => e = .returned (.int .i64 1) ∧ w' = w := by
  go_enter Tryz.func162, Tryz.ntmps162
  go_wp2
  go_ret
  exact ⟨rfl, rfl⟩
set_option maxRecDepth 100000 in
theorem bool2i_f (w : World) : Calls Tryz.prog 162 #[.bool false] w fun e w' => e = .returned (.int .i64 0) ∧ w' = w := by
  go_enter Tryz.func162, Tryz.ntmps162
  go_wp2
  go_ret
  exact ⟨rfl, rfl⟩
theorem or_half (u : Nat) (h : u < 1152921504606846976) : bits .or .u64 ((u : Int) / 2) ((u : Int) % 2) = (halfU u : Int) := by
  have e1 : (u : Int) / 2 = ((u / 2 : Nat) : Int) := by omega
  rw [e1]
  unfold halfU
  rcases Nat.mod_two_eq_zero_or_one u with g | g
  · rw [show (u : Int) % 2 = 0 by omega, or_zero _ (by omega), if_neg (by omega)]
  · rw [show (u : Int) % 2 = 1 by omega, or_one _ (by omega), if_pos g]
theorem or_same (u : Nat) (h : u < 1152921504606846976) : bits .or .u64 (u : Int) ((u : Int) % 2) = (u : Int) := by
  rcases Nat.mod_two_eq_zero_or_one u with g | g
  · rw [show (u : Int) % 2 = 0 by omega, or_zero _ (by omega)]
  · rw [show (u : Int) % 2 = 1 by omega, or_one _ (by omega)]
    omega
theorem or_left (m : Nat) (h : m < 18446744073709551616) : bits .or .u64 0 (m : Int) = (m : Int) := by
  have e := u64_or_nat 0 m (by omega) h
  rw [Nat.zero_or] at e
  exact e
/-- A word and the error beside it. -/
def erOf (m : Nat) (e : Int) : Value := if 4503599627370496 ≤ m ∧ 972 ≤ e then .iface 119 (.int .i64 1) else .nilIface
def wdOf (m : Nat) (e : Int) : Nat := if 4503599627370496 ≤ m ∧ 972 ≤ e then 9218868437227405312 else rungOf m e
def PkTwo (w : World) (m : Nat) (e : Int) (en : Ending) (w' : World) : Prop :=
  ∃ (x : Nat) (er : Value), x = wdOf m e ∧ (er = .nilIface ∨ er = .iface 119 (.int .i64 1)) ∧ en = .returned (.tuple #[.float .f64 x, er]) ∧ w' = w
theorem pack_two (m : Nat) (e : Int) (w : World) (hm : m < 9007199254740992) (h0 : -1074 ≤ e) (h1 : m < 4503599627370496 → e = -1074) : Calls Tryz.prog 222 #[.int .u64 m, .int .i64 e] w (PkTwo w m e) := by
  refine (pack_any m e w hm h0 h1).mono ?_
  rintro en w' ⟨rfl, rfl⟩
  refine ⟨wdOf m e, erOf m e, rfl, ?_, rfl, rfl⟩
  unfold erOf
  split
  · exact .inr rfl
  · exact .inl rfl
set_option maxRecDepth 100000 in
set_option maxHeartbeats 3200000 in
theorem parse_some (d b i hi lo s x u v m : Nat) (sh : Bool) (p lp E E2 : Int) (w : World) (h0 : -345 ≤ p) (h1 : p ≤ 310) (hd : d < 18446744073709551616) (hbl : Lib.bitLen d = b) (hb0 : 0 < b) (hb : b ≤ 64) (hlp : l2 p = lp) (hlp0 : -1150 ≤ lp) (hlp1 : lp ≤ 1030) (hi1 : i < 696) (hpi : p = (i : Int) - 348)
    (hE : min 1074 (53 - (b : Int) - lp) = E) (hE0 : -1100 ≤ E) (hE1 : E ≤ 1074) (hs : (s : Int) = -(E - (64 - b) + lp + 3)) (hs64 : s < 64)
    (hrow : Go.Pinned.pow10Rows[i]? = some (hi, lo))
    (hT : w.cell? ⟨14, i * 2, none⟩ = some (.int .u64 hi)) (hT2 : w.cell? ⟨14, i * 2 + 1, none⟩ = some (.int .u64 lo)) (hg : 14 < w.heap.size)
    (hx : d * 2 ^ (64 - b) = x) (hxl : x < 18446744073709551616) (hx2 : 2 ≤ x) (hu : usc x hi lo s = u) (hub : u < 1152921504606846976) (hsh : decide (36028797018963966 ≤ u) = sh) (hv : (if sh then halfU u else u) = v) (hm : rndOf v = m) (hml : m < 9007199254740992)
    (hE2 : (if sh then E - 1 else E) = E2) (hmE : m < 4503599627370496 → E2 = 1074) (hres : PsIs d p (wdOf m (-E2))) (hle : wdOf m (-E2) ≤ 9218868437227405312) :
    Calls Tryz.prog 197 #[.int .u64 d, .int .i64 p, .int .u64 0] w (PfIs w d p) := by
  have hE22 : -E2 = -1074 ∨ -1074 ≤ -E2 := by cases sh <;> simp at hE2 <;> omega
  have clen := Tryz.bits_Len64 d
  rw [Int.toNat_natCast, hbl] at clen
  have hd2 : (0 : Int) ≤ (d : Int) ∧ (d : Int) ≤ 18446744073709551615 := by omega
  have cl := fun W => log2pow10_any p W (by omega) (by omega)
  rw [hlp] at cl
  have cp := prescale_new i hi lo s (E - (64 - (b : Int))) p lp w hi1 hpi (by omega) (by omega) (by omega) (by omega) hs hT hT2 hg
  have hsl := shl_eq d b (by rw [hx]; exact hxl)
  rw [hx] at hsl
  have cu := fun (w0 W : World) (hP : Pre W w.heap.size hi lo s) (hbW : Below w.heap.size w0 W) => uscale_pre x hi lo s w.heap.size w.heap.size w0 W hxl hx2 (row_lt hrow).1 (row_big hrow) (row_lt hrow).2 hs64 hP hbW u hu
  have cm := fun W => unmin_53 W
  have cr := fun W => uround_any v W (by
    rw [← hv]
    split
    · unfold halfU; split <;> omega
    · omega)
  rw [hm] at cr
  have ck := fun W => pack_two m (-E2) W hml (by omega) (fun g => by have := hmE g; omega)
  have gE := fun _ : True => hE
  have HRES := Lib.hid (And.intro hres hle)
  have gs : (s : Int) < 64 := by omega
  have g1 := fun _ : True => hsl
  clear hE hs hT hT2 hg hbl hlp hpi hsl hx hu hm hres hle
  go_enter Tryz.func197, Tryz.ntmps197
  go_wp2_with fail
  refine (clen _ hd2.1 hd2.2).mono ?_
  rintro e w1 ⟨rfl, rfl⟩
  clear clen
  go_wp2_with fail
  refine (cl _).mono ?_
  rintro e w2 ⟨rfl, rfl⟩
  go_wp2_with fail
  refine cp.mono ?_
  rintro e w3 ⟨rfl, hP, hb⟩
  have HB := Lib.hid hb
  have HP := Lib.hid hP
  obtain ⟨k0, k1, k2⟩ := hP
  clear cp hb cl
  go_wp2_with fail
  refine (cu _ _ HP.out HB.out).mono ?_
  rintro e w4 ⟨rfl, _, hb4⟩
  have HB4 := Lib.hid hb4
  clear k0 k1 k2 hb4
  have a1 := and_one (u : Int) (by omega) (by omega)
  have om := or_left m (by omega)
  cases sh
  · have t1 : decide ((36028797018963966 : Int) ≤ (u : Int)) = false := by
      have := of_decide_eq_false hsh
      exact decide_eq_false (by omega)
    have ov : bits .or .u64 (u : Int) ((u : Int) % 2) = (v : Int) := by rw [← hv]; exact or_same u hub
    have he : E = E2 := by simpa using hE2
    clear hv hsh hE2
    subst he
    go_wp2_with fail
    refine (cm _).mono ?_
    rintro e w5 ⟨rfl, rfl⟩
    go_wp2_with fail
    refine (bool2i_f _).mono ?_
    rintro e w6 ⟨rfl, rfl⟩
    go_wp2_with fail
    refine (cr _).mono ?_
    rintro e w7 ⟨rfl, rfl⟩
    go_wp2_with fail
    refine (ck _).mono ?_
    rintro e w8 ⟨X, er, hX, her, rfl, rfl⟩
    have HX := Lib.hid hX
    have HER := Lib.hid her
    clear hX her
    go_wp2
    go_ret2
    exact ⟨_, _, rfl, HER.out, HX.out ▸ HRES.out.1, HX.out ▸ HRES.out.2, HB4.out⟩
  · have t1 : decide ((36028797018963966 : Int) ≤ (u : Int)) = true := by
      have := of_decide_eq_true hsh
      exact decide_eq_true (by omega)
    have ov : bits .or .u64 ((u : Int) / 2) ((u : Int) % 2) = (v : Int) := by rw [← hv]; exact or_half u hub
    have he : E - 1 = E2 := by simpa using hE2
    clear hv hsh hE2
    subst he
    go_wp2_with fail
    refine (cm _).mono ?_
    rintro e w5 ⟨rfl, rfl⟩
    go_wp2_with fail
    refine (bool2i_t _).mono ?_
    rintro e w6 ⟨rfl, rfl⟩
    go_wp2_with fail
    refine (cr _).mono ?_
    rintro e w7 ⟨rfl, rfl⟩
    go_wp2_with fail
    refine (ck _).mono ?_
    rintro e w8 ⟨X, er, hX, her, rfl, rfl⟩
    have HX := Lib.hid hX
    have HER := Lib.hid her
    clear hX her
    go_wp2
    go_ret2
    exact ⟨_, _, rfl, HER.out, HX.out ▸ HRES.out.1, HX.out ▸ HRES.out.2, HB4.out⟩
/-- parseFloat64: of a number of at most 57 bits, or times a small power of ten: the nearest word. -/
theorem parse_f64 (d : Nat) (p : Int) (w : World) (hd0 : 0 < d) (hd : d < 18446744073709551616) (hbp : d < 144115188075855872 ∨ (0 ≤ p ∧ p ≤ 4)) (h0 : -345 ≤ p) (h1 : p ≤ 310) (hT : PowTab w) :
    Calls Tryz.prog 197 #[.int .u64 d, .int .i64 p, .int .u64 0] w (PfIs w d p) := by
  obtain ⟨b0, b1, b2, b3⟩ := bit_parts hd0 hd
  obtain ⟨b, hb⟩ : ∃ b, Lib.bitLen d = b := ⟨_, rfl⟩
  rw [hb] at b0 b1 b2 b3
  obtain ⟨hi, lo, hrow⟩ := row_get (p := p) (by omega)
  obtain ⟨lp0, lp1⟩ := l2_bounds h0 h1
  have hi1 : rowAt p < 696 := by unfold rowAt; omega
  have hpi : p = (rowAt p : Int) - 348 := by unfold rowAt; omega
  obtain ⟨t1, t2⟩ := hT.2 _ hi lo hrow
  have hE : min 1074 (53 - (b : Int) - l2 p) = rdX b p := rfl
  have hE0 : -1100 ≤ rdX b p := by unfold rdX; omega
  have hE1 : rdX b p ≤ 1074 := by unfold rdX; omega
  have hsn : 0 ≤ rdSh b p := by unfold rdSh rdX; omega
  have hs : (((rdSh b p).toNat : Nat) : Int) = -(rdX b p - (64 - b) + l2 p + 3) := by rw [Int.toNat_of_nonneg hsn]; rfl
  have hb57 : b ≤ 57 ∨ (0 ≤ p ∧ p ≤ 4) := by
    rcases hbp with h | h
    · left
      rcases Nat.lt_or_ge 57 b with g | g
      · exfalso
        have : 2 ^ 57 ≤ 2 ^ (b - 1) := Nat.pow_le_pow_right (by decide) (by omega)
        omega
      · exact g
    · exact .inr h
  rcases Nat.lt_or_ge (rdSh b p).toNat 64 with g | g
  · have hu := parse_usc h0 h1 hd0 b0 b1 b3 hb57 (Int.toNat_of_nonneg hsn) g hrow
    have hx := Nat.mul_lt_mul_right (a := 2 ^ (64 - b)) (Nat.two_pow_pos _) |>.2 b3
    rw [← Nat.pow_add, show b + (64 - b) = 64 by omega] at hx
    have hx2 : 2 ≤ d * 2 ^ (64 - b) := by
      have h := Nat.mul_le_mul_right (2 ^ (64 - b)) b2
      rw [← Nat.pow_add, show b - 1 + (64 - b) = 63 by omega] at h
      exact Nat.le_trans (by decide) h
    have hM := rM_pos (rdX b p + 2) p
    -- the bounds of the scaled number
    have hup : d * rN (rdX b p + 2) p * 962 ≤ 72057594037927936 * 961 * rM (rdX b p + 2) p ∧ (18014398509481984 * rM (rdX b p + 2) p ≤ d * rN (rdX b p + 2) p ∨ rdX b p = 1074) := by
      by_cases hn : 53 - (b : Int) - l2 p ≤ 1074
      · have ex : rdX b p + 2 = 55 - b - l2 p := by unfold rdX; omega
        rw [ex]
        exact ⟨sc_up h0 h1 b1 b3, .inl (sc_bounds h0 h1 b0 b1 b2 b3).1⟩
      · have ex : rdX b p = 1074 := by unfold rdX; omega
        refine ⟨?_, .inr ex⟩
        rw [ex]
        obtain ⟨k, hk⟩ : ∃ k : Nat, (55 - b - l2 p : Int) = 1076 + (k + 1 : Nat) := ⟨(55 - b - l2 p - 1077).toNat, by omega⟩
        have hsm := sc_small h0 h1 b0 b1 b2 b3 (k + 1) hk
        have h2 : 2 ≤ 2 ^ (k + 1) := by rw [Nat.pow_succ]; have := Nat.two_pow_pos k; omega
        have h3 : d * rN 1076 p * 2 ≤ d * rN 1076 p * 2 ^ (k + 1) := Nat.mul_le_mul_left _ h2
        show d * rN 1076 p * 962 ≤ 72057594037927936 * 961 * rM 1076 p
        generalize d * rN 1076 p = a at *
        generalize rM 1076 p = c at *
        omega
    have htell := fun r (hr : 0 < r) => read_tells (r := r) h0 h1 b0 b1 b2 b3 hr
    obtain ⟨u, hue⟩ : ∃ u, unr (d * rN (rdX b p + 2) p) (rM (rdX b p + 2) p) = u := ⟨_, rfl⟩
    have hml := rdM_lt hM hup.1
    have hmn := rdM_norm hM hup.2
    have hub : u < 1152921504606846976 := by
      rw [← hue]
      have h1 := unr_le (d * rN (rdX b p + 2) p) (rM (rdX b p + 2) p)
      have h2 : d * rN (rdX b p + 2) p / rM (rdX b p + 2) p * 962 ≤ 72057594037927936 * 961 := by
        refine Nat.le_of_mul_le_mul_right (c := rM (rdX b p + 2) p) ?_ hM
        have := Nat.div_mul_le_self (d * rN (rdX b p + 2) p) (rM (rdX b p + 2) p)
        have h3 := Nat.mul_le_mul_right 962 this
        have h4 := hup.1
        generalize d * rN (rdX b p + 2) p = a at *
        generalize rM (rdX b p + 2) p = c at *
        have e : a / c * 962 * c = a / c * c * 962 := by grind
        rw [e]
        exact Nat.le_trans h3 h4
      clear hup htell hmn hml
      generalize d * rN (rdX b p + 2) p / rM (rdX b p + 2) p = q at *
      omega
    rw [hue] at hu hml hmn htell
    have hE2 : (if decide (36028797018963966 ≤ u) then rdX b p - 1 else rdX b p) = rdEx u (rdX b p) := by
      unfold rdEx; by_cases h : 36028797018963966 ≤ u <;> simp [h]
    have hv : rndOf (if decide (36028797018963966 ≤ u) then halfU u else u) = rdM u := by
      unfold rdM; by_cases h : 36028797018963966 ≤ u <;> simp [h]
    have hex : rdEx u (rdX b p) ≤ 1074 := by unfold rdEx; split <;> omega
    have hps : PsIs d p (wdOf (rdM u) (-(rdEx u (rdX b p)))) ∧ wdOf (rdM u) (-(rdEx u (rdX b p))) ≤ 9218868437227405312 := by
      have hw := rdW_eq u (rdX b p)
      rw [hw] at htell
      clear hup hue hu
      generalize rdM u = m at *
      generalize rdEx u (rdX b p) = e at *
      unfold wdOf
      by_cases hc : 4503599627370496 ≤ m ∧ 972 ≤ -e
      · rw [if_pos hc]
        refine ⟨fun r hr hr2 => ?_, Nat.le_refl _⟩
        rw [← htell r hr]
        have : 9218868437227405312 ≤ rungOf m (-e) := by unfold rungOf; omega
        constructor <;> intro h <;> omega
      · rw [if_neg hc]
        refine ⟨fun r hr hr2 => htell r hr, ?_⟩
        unfold rungOf
        rcases Nat.lt_or_ge m 4503599627370496 with k | k
        · have := hmn k
          omega
        · omega
    exact parse_some d b (rowAt p) hi lo (rdSh b p).toNat (d * 2 ^ (64 - b)) u _ (rdM u) _ p (l2 p) (rdX b p) (rdEx u (rdX b p)) w h0 h1 hd hb b0 b1 rfl lp0 lp1 hi1 hpi hE hE0 hE1 hs g hrow t1 t2 hT.1 rfl hx hx2 hu hub rfl rfl hv hml hE2 hmn hps.1 hps.2
  · refine parse_none d b (rowAt p) hi lo (rdSh b p).toNat p (l2 p) (rdX b p) w h0 h1 hd hb b1 rfl lp0 lp1 hi1 hpi hE hE0 hE1 hs g t1 t2 hT.1 ?_
    intro r hr hr2
    constructor
    · intro h; omega
    · intro h
      exact absurd h (read_zero h0 h1 b0 b1 b2 b3 (by omega) hr)
end Go.Proofs.YtbcolebomgcphaaGreatFmt
