/- The contract of ftoa64 at the shortest form with an exponent. Each lemma's conditions stand in its own statement. The contracts of ftoa64 and FormatFloat at the shortest form with an exponent. Each lemma's conditions stand in its own statement. The contract of FormatFloat at the shortest form with an exponent. Each lemma's conditions stand in its own statement. -/
import Derived.Test.YtbcolebomgcphaaGreatFmtXd
import Derived.Deep.RegionWith
namespace Go.Proofs.YtbcolebomgcphaaGreatFmt
open Go.RowKit Go.Sort

theorem tab_below {w w1 : World} {B : Nat} {name : String} {k : IntKind} {zs : List Int} {P : Program} (h : Lib.TabIs P w name k zs) (hb : Below B w w1) (hB : w.heap.size ≤ B) : Lib.TabIs P w1 name k zs := by
  unfold Lib.TabIs World.var? at *
  cases hg : P.globalNamed name with
  | none => simp [hg] at h
  | some g =>
    simp only [hg, Option.bind_some] at h ⊢
    have hlt : g < w.heap.size := by
      rcases Nat.lt_or_ge g w.heap.size with h' | h'
      · exact h'
      · rw [Array.getElem?_eq_none h'] at h; simp at h
    rw [hb.block g (by omega)]
    exact h
theorem pow_below {w w' : World} {B : Nat} (h : PowTab w) (hb : Below B w w') (hB : w.heap.size ≤ B) : PowTab w' := h.below (Nat.lt_of_lt_of_le h.1 hB) hb
theorem len_left {m : Nat} (h0 : 0 < m) (h1 : m < 9007199254740992) : Lib.bitLen m ≤ 53 ∧ 9223372036854775808 ≤ m * 2 ^ (64 - Lib.bitLen m) ∧ m * 2 ^ (64 - Lib.bitLen m) < 18446744073709551616 := by
  have key : ∀ (f x : Nat), 0 < x → x < 2 ^ f → 0 < Lib.bitLenAux f x ∧ 2 ^ (Lib.bitLenAux f x - 1) ≤ x ∧ x < 2 ^ Lib.bitLenAux f x := by
    intro f
    induction f with
    | zero => intro x h0 h1; simp at h1; omega
    | succ f ih =>
      intro x hx0 hx1
      rw [Lib.bitLenAux, if_neg (by omega)]
      rcases Nat.eq_zero_or_pos (x / 2) with g | g
      · have hz : Lib.bitLenAux f (x / 2) = 0 := by rw [g]; cases f <;> simp [Lib.bitLenAux]
        rw [hz]
        have : x = 1 := by omega
        subst this
        decide
      · obtain ⟨a, b, c⟩ := ih (x / 2) g (by rw [Nat.pow_succ] at hx1; omega)
        obtain ⟨L, hL⟩ : ∃ L, Lib.bitLenAux f (x / 2) = L + 1 := ⟨_, (Nat.succ_pred_eq_of_pos a).symm⟩
        rw [hL] at b c ⊢
        rw [show L + 1 - 1 = L by omega] at b
        refine ⟨by omega, ?_, ?_⟩
        · rw [show 1 + (L + 1) - 1 = L + 1 by omega, Nat.pow_succ]; omega
        · rw [show 1 + (L + 1) = (L + 1) + 1 by omega, Nat.pow_succ]; omega
  obtain ⟨a, b, c⟩ := key 64 m h0 (by omega)
  have he : Lib.bitLen m = Lib.bitLenAux 64 m := rfl
  rw [← he] at a b c
  have h53 : Lib.bitLen m ≤ 53 := by
    rcases Nat.lt_or_ge 53 (Lib.bitLen m) with g | g
    · have : 2 ^ 53 ≤ 2 ^ (Lib.bitLen m - 1) := Nat.pow_le_pow_right (by decide) (by omega)
      omega
    · exact g
  refine ⟨h53, ?_, ?_⟩
  · have h2 : 2 ^ (Lib.bitLen m - 1) * 2 ^ (64 - Lib.bitLen m) ≤ m * 2 ^ (64 - Lib.bitLen m) := Nat.mul_le_mul_right _ b
    rw [← Nat.pow_add, show Lib.bitLen m - 1 + (64 - Lib.bitLen m) = 63 by omega] at h2
    exact h2
  · have h2 : m * 2 ^ (64 - Lib.bitLen m) < 2 ^ Lib.bitLen m * 2 ^ (64 - Lib.bitLen m) := (Nat.mul_lt_mul_right (Nat.two_pow_pos _)).2 c
    rw [← Nat.pow_add, show Lib.bitLen m + (64 - Lib.bitLen m) = 64 by omega] at h2
    exact h2
theorem z63 (r : Nat) (h : r < 9223372036854775808) : (r : Int) / 9223372036854775808 = 0 := Int.ediv_eq_zero_of_lt (by omega) (by omega)
theorem shl_eq (M bl : Nat) (h3 : M * 2 ^ (64 - bl) < 18446744073709551616) : IntKind.u64.wrap ((M : Int) * 2 ^ (64 - bl)) = ((M * 2 ^ (64 - bl) : Nat) : Int) := by
  rw [cast_shl]
  exact u64_wrap _ (Int.natCast_nonneg _) (Int.ofNat_lt.2 h3)
theorem left_eq (q bl : Nat) (h : bl ≤ 53) : (q : Int) + -1023 - (64 - (bl : Int)) - 52 = (q : Int) - 1075 - ((64 - bl : Nat) : Int) := by omega
theorem d_lt {d : Nat} (h : d < 100000000000000000) : d < 18446744073709551616 := by omega
theorem d_lt2 {d : Nat} (h : d < 100000000000000000) : d < 1000000000000000000 := by omega
theorem len_in {M : Nat} (h : M < 9007199254740992) : (0 : Int) ≤ (M : Int) ∧ (M : Int) ≤ 18446744073709551615 := by omega
theorem q_wrap {q : Nat} (h : q < 2047) : wrap64 (q : Int) = (q : Int) := IntWalk.wrap64_in _ (by omega)
theorem q_ne {q : Nat} (h : q < 2047) : ((q : Int) == 2047) = false := by simp; omega
theorem n_ne {q : Nat} (h : 1 ≤ q) : ((q : Int) == 0) = false := by simp; omega
theorem m52 (r : Nat) (h : r < 9223372036854775808) : bits .and .u64 (r : Int) 4503599627370495 = ((r % 4503599627370496 : Nat) : Int) := by
  have e : bits .and .u64 (r : Int) 4503599627370495 = (r : Int) % 4503599627370496 := bits_mask .u64 64 (by decide) (fun n h0 h1 => IntWalk.u64_in n (by omega)) 52 (by decide) (r : Int) (by omega) (by omega)
  rw [e, Int.natCast_emod]
  rfl
theorem or52 (t : Nat) (h : t < 4503599627370496) : bits .or .u64 (t : Int) 4503599627370496 = ((t + 4503599627370496 : Nat) : Int) := by
  have := orexp t 1 1 h (by omega) rfl
  rw [show (1 : Int) * 4503599627370496 = 4503599627370496 from rfl] at this
  rw [this, Nat.one_mul, Nat.add_comm]
theorem norm_parts {r : Nat} (h0 : 4503599627370496 ≤ r) (hr : r < 9218868437227405312) : mant r = r % 4503599627370496 + 4503599627370496 ∧ expo r = ((r / 4503599627370496 : Nat) : Int) - 1075 ∧ 1 ≤ r / 4503599627370496 ∧ r / 4503599627370496 < 2047 ∧ r % 4503599627370496 < 4503599627370496 := by
  refine ⟨?_, ?_, by omega, by omega, by omega⟩
  · unfold mant; rw [if_neg (by omega), Nat.add_comm]
  · unfold expo; rw [if_neg (by omega)]
theorem own_g {w w1 : World} {base B : Nat} {e : TypeId} {n : Nat} {v : Value} {xs : List Value} (h : w.ownsRow base e 1 v n xs) (hb : Below B w w1) (hlt : ∀ k, v.ownBlock = some k → k < B) : w1.ownsRow base e 1 v n xs := by
  refine ⟨h.1, ?_⟩
  rcases h.2 with h | ⟨g, cap, cur, rfl, h1, h2, h3⟩
  · exact .inl h
  · exact .inr ⟨g, cap, cur, rfl, h1, by rw [hb.block g (hlt g rfl)]; exact h2, h3⟩
theorem as_start {base g : Nat} {w0 wb w3 w' : World} {l : List Int} {v : Value} (hbg : base ≤ g) (h1 : wb.ownsRow base 5 1 v 0 []) (hv : ∀ k, v.ownBlock = some k → k < g) (hsz : wb.heap.size = g + 1) (hbl : Below base w0 wb)
    (hb3 : Below (g + 1) wb w3) (n : Nat) (hb4 : Below g (w3.drewN n) w') (hd : DigAt w' g l) : AS base w0 w' g l v [] := by
  have b3 : Below g wb (w3.drewN n) := below_drewN (hb3.mono (by omega)) n
  have b4 : Below g wb w' := b3.trans hb4
  have hs := b4.size
  exact ⟨own_g h1 b4 hv, fun e => by have := hv g e; omega, by omega, hd, hbl.trans (b4.mono hbg), by omega⟩
theorem fmte_at (g base nd nc : Nat) (k : Int) (w0 w : World) (v : Value) (cc : Nat) (h : AS base w0 w g (decZ cc) v []) (hnc : Lib.nDigits cc = nc) (h17 : nc ≤ 17) (h1 : 1 ≤ nc) (hx0 : -400 ≤ (nd : Int) + k - 1) (hx1 : (nd : Int) + k - 1 ≤ 400) :
    Calls Tryz.prog 116 #[v, .bool false, .slice (some ⟨g, 0, none⟩) 32 32, .int .i64 ((nd : Int) + k), .int .i64 nc, .int .i64 ((nc : Int) - 1), .int .u8 101, .bool true] w (FmtIs base w0 g (decZ cc) ((nd : Int) + k - 1)) := by
  have hl : (decZ cc).length = nc := by rw [decZ_length, hnc]
  have := fmte_any g base w0 w v (decZ cc) ((nd : Int) + k - 1) h (by omega) (by omega) hx0 hx1
  rw [hl, show (nd : Int) + k - 1 + 1 = (nd : Int) + k by omega] at this
  exact this
/-- What ftoa64 answers: the shortest number's digits in the form with an exponent. -/
def FtoaIs (base : Nat) (w0 : World) (r : Nat) (e : Ending) (w' : World) : Prop :=
  ∃ (D : Nat) (j : Int) (v : Value), Shr r D j ∧ 0 < D ∧ D < 1000000000000000000 ∧ -400 ≤ j ∧ j ≤ 366 ∧ e = .returned v ∧
    w'.ownsRow base 5 1 v (fmtE (decZ D) (j + (decZ D).length - 1)).length ((fmtE (decZ D) (j + (decZ D).length - 1)).map (Value.int .u8)) ∧ Below base w0 w'
theorem ftoa_len {r d cc i : Nat} {k : Int} (h : ShortOf r d k) (hd : d = cc * 10 ^ i) (hcc : cc % 10 ≠ 0) : 1 ≤ Lib.nDigits cc ∧ Lib.nDigits cc ≤ 17 ∧ -348 ≤ (Lib.nDigits d : Int) + k - 1 ∧ (Lib.nDigits d : Int) + k - 1 ≤ 370 := by
  obtain ⟨h0, h1, h2, h3, _⟩ := h
  have a := Lib.nDigits_pos cc
  have a' := Lib.nDigits_pos d
  have b := ndig_le (u := d) (k := 17) h1 (by omega)
  have c := ndig_zeros cc i (by omega)
  rw [← hd] at c
  omega
theorem ftoa_fin {base g r d cc i : Nat} {k : Int} {w0 w5 : World} {v5 : Value} (h : ShortOf r d k) (hd : d = cc * 10 ^ i) (hcc : cc % 10 ≠ 0) (has : AS base w0 w5 g (decZ cc) v5 (fmtE (decZ cc) ((Lib.nDigits d : Int) + k - 1))) : FtoaIs base w0 r (.returned v5) w5 := by
  have h5 := h.2.2.2.2 cc i hd hcc
  obtain ⟨q1, q2, q3, q4⟩ := ftoa_len h hd hcc
  have c := ndig_zeros cc i (by omega)
  rw [← hd] at c
  have b := ndig_le (u := d) (k := 17) h.2.1 (by omega)
  have hk1 := h.2.2.1
  have hk2 := h.2.2.2.1
  have hcd : cc ≤ d := by
    have h1 : 1 ≤ 10 ^ i := Nat.pow_pos (by decide)
    have : cc * 1 ≤ cc * 10 ^ i := Nat.mul_le_mul_left _ h1
    omega
  have hdl := h.2.1
  have ex : k + (i : Int) + ((decZ cc).length : Int) - 1 = (Lib.nDigits d : Int) + k - 1 := by rw [decZ_length]; omega
  refine ⟨cc, k + i, v5, h5, by omega, by omega, by omega, by omega, rfl, ?_, has.2.2.2.2.1⟩
  rw [ex]
  exact has.1
set_option maxRecDepth 100000 in
set_option maxHeartbeats 6400000 in
theorem ftoa_norm (r base : Nat) (v : Value) (w0 w : World) (h0 : 4503599627370496 ≤ r) (hr : r < 9218868437227405312) (hown : w.ownsRow base 5 1 v 0 []) (hbl : Below base w0 w) (hbase : base ≤ w.heap.size) (hT : PowTab w)
    (hU : Lib.TabIs Tryz.prog w "internal/strconv.uint64pow10" .u64 Lib.pow10Tab) :
    Calls Tryz.prog 84 #[v, .float .f64 r, .int .u8 101, .int .i64 (-1)] w (FtoaIs base w0 r) := by
  have hx := ext_bits 113 (.inr rfl) r w
  have hz := z63 r (by omega)
  have hm52 := m52 r (by omega)
  obtain ⟨hmant, hexpo, hq1, hq2, ht2⟩ := norm_parts h0 hr
  have hqi : (r : Int) / 4503599627370496 = ((r / 4503599627370496 : Nat) : Int) := by rw [Int.natCast_ediv]; rfl
  obtain ⟨q, hq⟩ : ∃ q, r / 4503599627370496 = q := ⟨_, rfl⟩
  obtain ⟨t, ht⟩ : ∃ t, r % 4503599627370496 = t := ⟨_, rfl⟩
  rw [hq] at hqi hexpo hq1 hq2
  rw [ht] at hm52 hmant ht2
  have hor := or52 t ht2
  have hm11 := mask11 q (by omega)
  have hM0 : t + 4503599627370496 < 9007199254740992 := Nat.add_lt_add_right ht2 _
  obtain ⟨M, hM⟩ : ∃ M, t + 4503599627370496 = M := ⟨_, rfl⟩
  rw [hM] at hor hmant hM0
  have hM1 : 0 < M := by rw [← hM]; exact Nat.lt_of_lt_of_le (by decide) (Nat.le_add_left _ _)
  have HR0 := Lib.hid (show 0 < r from Nat.lt_of_lt_of_le (by decide) h0)
  obtain ⟨l1, l2, l3⟩ := len_left hM1 hM0
  have HL2 := Lib.hid l2
  have HL3 := Lib.hid l3
  clear l2 l3
  have HR := Lib.hid hr
  have HM0 := Lib.hid hM0
  clear hq ht hM ht2 hM0 h0 hr
  have hw64 : wrap64 (q : Int) = (q : Int) := q_wrap hq2
  have hq2047 : ((q : Int) == 2047) = false := q_ne hq2
  have hq0 : ((q : Int) == 0) = false := n_ne hq1
  have hMn : ((M : Int) == 0) = false := n_ne hM1
  obtain ⟨bl, hbln⟩ : ∃ b, Lib.bitLen M = b := ⟨_, rfl⟩
  have clen := Tryz.bits_Len64 M
  rw [Int.toNat_natCast, hbln] at clen
  rw [hbln] at l1 HL2 HL3
  have HMANT := Lib.hid hmant
  have HEXPO := Lib.hid hexpo
  have HM1 := Lib.hid hM1
  have HOWN := Lib.hid hown
  have HBL := Lib.hid hbl
  have HT := Lib.hid hT
  have HU := Lib.hid hU
  clear hM1 hbln hmant hexpo hown hbl hT hU
  have hsl := shl_eq M bl HL3.out
  obtain ⟨mm, hmm⟩ : ∃ mm, M * 2 ^ (64 - bl) = mm := ⟨_, rfl⟩
  rw [hmm] at hsl
  have gsl := fun _ : True => hsl
  have cs : ∀ W, PowTab W → Calls Tryz.prog 126 #[.int .u64 mm, .int .i64 ((q : Int) + -1023 - (64 - (bl : Int)) - 52)] W (ShIs W r) := by
    intro W hW
    have h := short_any r (64 - bl) W HR0.out HR.out (by rw [HMANT.out]; exact HL2.out) (by rw [HMANT.out]; exact HL3.out) hW
    rw [HMANT.out, HEXPO.out, hmm] at h
    rw [show (q : Int) + -1023 - (64 - (bl : Int)) - 52 = (q : Int) - 1075 - ((64 - bl : Nat) : Int) from left_eq q bl l1]
    exact h
  have gz := fun _ : True => hz
  have gqi := fun _ : True => hqi
  have gm52 := fun _ : True => hm52
  have gor := fun _ : True => hor
  have gm11 := fun _ : True => hm11
  clear hz hqi hm52 hor hm11 hsl hmm
  go_enter Tryz.func84, Tryz.ntmps84
  go_wp2
  go_quiet (fail)
  generalize hw1 : World.drewN w _ = w1
  have hown1 : w1.ownsRow base 5 1 v 0 [] := by rw [← hw1]; exact HOWN.out
  have hbl1 : Below base w0 w1 := by rw [← hw1]; exact below_drewN HBL.out _
  have hbase1 : base ≤ w1.heap.size := by rw [← hw1]; exact hbase
  have hT1 : PowTab w1 := by rw [← hw1]; exact HT.out
  have hU1 : Lib.TabIs Tryz.prog w1 "internal/strconv.uint64pow10" .u64 Lib.pow10Tab := by rw [← hw1]; exact HU.out
  clear hw1 hbase hx
  go_wp2_with fail
  have hcell : ∀ j, j < 32 → (w1.alloc (.cells (Array.replicate 32 (.int .u8 0)) 153)).cell? ⟨w1.heap.size, j, none⟩ = some (.int .u8 0) ∧ (w1.alloc (.cells (Array.replicate 32 (.int .u8 0)) 153)).frozen? ⟨w1.heap.size, j, none⟩ = false := by
    intro j hj
    refine ⟨?_, World.frozen?_alloc_new _ _ _ _⟩
    rw [World.cell?_alloc_new, Array.getElem?_replicate, if_pos hj]
  have hsz : (w1.alloc (.cells (Array.replicate 32 (.int .u8 0)) 153)).heap.size = w1.heap.size + 1 := World.size_alloc _ _
  have hown2 := hown1.alloc (.cells (Array.replicate 32 (.int .u8 0)) 153)
  have hblg : Below w1.heap.size w1 (w1.alloc (.cells (Array.replicate 32 (.int .u8 0)) 153)) := (Below.refl _ _).alloc (Nat.le_refl _) _
  have hbl2 : Below base w0 (w1.alloc (.cells (Array.replicate 32 (.int .u8 0)) 153)) := hbl1.alloc hbase1 _
  have hT2 := pow_below hT1 hblg (Nat.le_refl _)
  have hU2 := tab_below hU1 hblg (Nat.le_refl _)
  have hvg : ∀ k, v.ownBlock = some k → k < w1.heap.size := fun k e => (hown1.lt k e).2
  obtain ⟨g, hg⟩ : ∃ g, w1.heap.size = g := ⟨_, rfl⟩
  generalize hwb : World.alloc w1 _ = wb
  change w1.alloc (.cells (Array.replicate 32 (.int .u8 0)) 153) = wb at hwb
  rw [hwb] at hcell hsz hown2 hbl2 hT2 hU2
  rw [hg] at hcell hsz hbase1 hvg
  have HCELL := Lib.hid hcell
  have HSZ := Lib.hid hsz
  have HOWN2 := Lib.hid hown2
  have HBL2 := Lib.hid hbl2
  have HT2 := Lib.hid hT2
  have HU2 := Lib.hid hU2
  have HVG := Lib.hid hvg
  have HB1 := Lib.hid hbase1
  clear hcell hsz hown2 hbl2 hT2 hU2 hvg hwb hown1 hbl1 hT1 hU1 hblg
  refine (clen wb (len_in HM0.out).1 (len_in HM0.out).2).mono ?_
  rintro e1 w2 ⟨rfl, rfl⟩
  go_wp2_with fail
  refine (cs _ HT2.out).mono ?_
  rintro e3 w3 ⟨d, k, rfl, hsh, hbl3⟩
  have HSH := Lib.hid hsh
  have hsz2 := HSZ.out
  rw [hsz2] at hbl3
  have HBL3 := Lib.hid hbl3
  clear hsh hbl3 hsz2 cs
  go_wp2_with fail
  have hw3 := HBL3.out
  have hU3 := tab_below HU2.out HBL3.out (Nat.le_of_eq HSZ.out)
  obtain ⟨cc, i, hdi, hcc⟩ := strip_exists d HSH.out.1
  have hcell3 : ∀ j, j < 32 → w3.cell? ⟨g, j, none⟩ = some (.int .u8 0) ∧ w3.frozen? ⟨g, j, none⟩ = false := by
    intro j hj
    obtain ⟨a1, a2⟩ := HCELL.out j hj
    exact ⟨(HBL3.out.cell (p := ⟨g, j, none⟩) (show g < g + 1 by omega)).trans a1, (HBL3.out.frozen (p := ⟨g, j, none⟩) (show g < g + 1 by omega)).trans a2⟩
  have cnd : ∀ n, Calls Tryz.prog 120 #[.int .u64 d] (w3.drewN n) fun e w' => e = .returned (.int .i64 (Lib.nDigits d)) ∧ w' = w3.drewN n := fun n => Tryz.internal_strconv_numDigits d HSH.out.1 (d_lt HSH.out.2.1) _ hU3
  have csd : ∀ n, Calls Tryz.prog 119 #[.slice (some ⟨g, 0, none⟩) 32 32, .int .u64 d, .int .i64 k, .int .i64 (Lib.nDigits d)] (w3.drewN n) (SetIs (w3.drewN n) g d cc k) := fun n => setdigits_any g d cc i k _ hdi hcc (d_lt2 HSH.out.2.1) (by have := HSH.out.2.2.1; omega) (by have := HSH.out.2.2.2.1; omega) hcell3
  have HCC := Lib.hid hcc
  have HDI := Lib.hid hdi
  clear hw3 hU3 hcell3 hcc hdi
  go_region_with (first | (go_at_call 120; refine (cnd 1).mono ?_; rintro e w' ⟨rfl, rfl⟩) | (go_at_call 119; refine (csd 1).mono ?_; rintro e w' ⟨rfl, hdig, hbl4⟩))
  have hlen := ftoa_len HSH.out HDI.out HCC.out
  obtain ⟨q1, q2, q3, q4⟩ := hlen
  have gw := fun _ : True => IntWalk.wrap64_in ((Lib.nDigits cc : Int) - 1) (by omega)
  have gmax := fun _ : True => (show max ((Lib.nDigits cc : Int) - 1) 0 = (Lib.nDigits cc : Int) - 1 by omega)
  have hAS := as_start HB1.out HOWN2.out HVG.out HSZ.out HBL2.out HBL3.out 1 hbl4 hdig
  have HAS := Lib.hid hAS
  clear hAS hdig hbl4 cnd csd
  go_wp2_with fail
  refine (fmte_at g base (Lib.nDigits d) (Lib.nDigits cc) k w0 _ v cc HAS.out rfl q2 q1 (by omega) (by omega)).mono ?_
  rintro e5 w5 ⟨v5, rfl, has⟩
  have HFIN := Lib.hid (ftoa_fin HSH.out HDI.out HCC.out has)
  clear has
  go_wp2
  go_ret
  exact HFIN.out
end Go.Proofs.YtbcolebomgcphaaGreatFmt

namespace Go.Proofs.YtbcolebomgcphaaGreatFmt
open Go.RowKit Go.Sort

theorem sub52 (r : Nat) (h : r < 4503599627370496) : bits .and .u64 (r : Int) 4503599627370495 = (r : Int) := by
  rw [m52 r (by omega), Nat.mod_eq_of_lt h]
theorem sub_quo (r : Nat) (h : r < 4503599627370496) : (r : Int) / 4503599627370496 = 0 := Int.ediv_eq_zero_of_lt (by omega) (by omega)
theorem sub_parts {r : Nat} (hr : r < 4503599627370496) : mant r = r ∧ expo r = -1074 := by
  unfold mant expo
  rw [if_pos hr, if_pos hr]
  exact ⟨rfl, rfl⟩
theorem sub_eq (bl : Nat) (h : bl ≤ 53) : -1022 - (64 - (bl : Int)) - 52 = -1074 - ((64 - bl : Nat) : Int) := by omega
set_option maxRecDepth 100000 in
set_option maxHeartbeats 6400000 in
theorem ftoa_sub (r base : Nat) (v : Value) (w0 w : World) (h0 : 0 < r) (hr : r < 4503599627370496) (hown : w.ownsRow base 5 1 v 0 []) (hbl : Below base w0 w) (hbase : base ≤ w.heap.size) (hT : PowTab w)
    (hU : Lib.TabIs Tryz.prog w "internal/strconv.uint64pow10" .u64 Lib.pow10Tab) :
    Calls Tryz.prog 84 #[v, .float .f64 r, .int .u8 101, .int .i64 (-1)] w (FtoaIs base w0 r) := by
  have hx := ext_bits 113 (.inr rfl) r w
  have hz := z63 r (by omega)
  have hm52 := sub52 r hr
  obtain ⟨hmant, hexpo⟩ := sub_parts hr
  have hqi : (r : Int) / 4503599627370496 = 0 := sub_quo r hr
  have hm11 : bits .and .i64 0 2047 = 0 := by decide
  have hor : True := trivial
  have hM0 : r < 9007199254740992 := by omega
  have hM1 : 0 < r := h0
  have HR0 := Lib.hid h0
  obtain ⟨l1, l2, l3⟩ := len_left hM1 hM0
  have HL2 := Lib.hid l2
  have HL3 := Lib.hid l3
  have HR := Lib.hid (show r < 9218868437227405312 by omega)
  have HM0 := Lib.hid hM0
  clear l2 l3 hM0 h0 hr
  have hMn : ((r : Int) == 0) = false := n_ne hM1
  obtain ⟨bl, hbln⟩ : ∃ b, Lib.bitLen r = b := ⟨_, rfl⟩
  have clen := Tryz.bits_Len64 r
  rw [Int.toNat_natCast, hbln] at clen
  rw [hbln] at l1 HL2 HL3
  have HMANT := Lib.hid hmant
  have HEXPO := Lib.hid hexpo
  have HM1 := Lib.hid hM1
  have HOWN := Lib.hid hown
  have HBL := Lib.hid hbl
  have HT := Lib.hid hT
  have HU := Lib.hid hU
  clear hM1 hbln hmant hexpo hown hbl hT hU
  have hsl := shl_eq r bl HL3.out
  obtain ⟨mm, hmm⟩ : ∃ mm, r * 2 ^ (64 - bl) = mm := ⟨_, rfl⟩
  rw [hmm] at hsl
  have gsl := fun _ : True => hsl
  have cs : ∀ W, PowTab W → Calls Tryz.prog 126 #[.int .u64 mm, .int .i64 (-1022 - (64 - (bl : Int)) - 52)] W (ShIs W r) := by
    intro W hW
    have h := short_any r (64 - bl) W HR0.out HR.out (by rw [HMANT.out]; exact HL2.out) (by rw [HMANT.out]; exact HL3.out) hW
    rw [HMANT.out, HEXPO.out, hmm] at h
    rw [show -1022 - (64 - (bl : Int)) - 52 = -1074 - ((64 - bl : Nat) : Int) from sub_eq bl l1]
    exact h
  have gz := fun _ : True => hz
  have gqi := fun _ : True => hqi
  have gm52 := fun _ : True => hm52
  have gor := fun _ : True => hor
  have gm11 := fun _ : True => hm11
  clear hz hqi hm52 hor hm11 hsl hmm
  go_enter Tryz.func84, Tryz.ntmps84
  go_wp2
  go_quiet (fail)
  generalize hw1 : World.drewN w _ = w1
  have hown1 : w1.ownsRow base 5 1 v 0 [] := by rw [← hw1]; exact HOWN.out
  have hbl1 : Below base w0 w1 := by rw [← hw1]; exact below_drewN HBL.out _
  have hbase1 : base ≤ w1.heap.size := by rw [← hw1]; exact hbase
  have hT1 : PowTab w1 := by rw [← hw1]; exact HT.out
  have hU1 : Lib.TabIs Tryz.prog w1 "internal/strconv.uint64pow10" .u64 Lib.pow10Tab := by rw [← hw1]; exact HU.out
  clear hw1 hbase hx
  go_wp2_with fail
  have hcell : ∀ j, j < 32 → (w1.alloc (.cells (Array.replicate 32 (.int .u8 0)) 153)).cell? ⟨w1.heap.size, j, none⟩ = some (.int .u8 0) ∧ (w1.alloc (.cells (Array.replicate 32 (.int .u8 0)) 153)).frozen? ⟨w1.heap.size, j, none⟩ = false := by
    intro j hj
    refine ⟨?_, World.frozen?_alloc_new _ _ _ _⟩
    rw [World.cell?_alloc_new, Array.getElem?_replicate, if_pos hj]
  have hsz : (w1.alloc (.cells (Array.replicate 32 (.int .u8 0)) 153)).heap.size = w1.heap.size + 1 := World.size_alloc _ _
  have hown2 := hown1.alloc (.cells (Array.replicate 32 (.int .u8 0)) 153)
  have hblg : Below w1.heap.size w1 (w1.alloc (.cells (Array.replicate 32 (.int .u8 0)) 153)) := (Below.refl _ _).alloc (Nat.le_refl _) _
  have hbl2 : Below base w0 (w1.alloc (.cells (Array.replicate 32 (.int .u8 0)) 153)) := hbl1.alloc hbase1 _
  have hT2 := pow_below hT1 hblg (Nat.le_refl _)
  have hU2 := tab_below hU1 hblg (Nat.le_refl _)
  have hvg : ∀ k, v.ownBlock = some k → k < w1.heap.size := fun k e => (hown1.lt k e).2
  obtain ⟨g, hg⟩ : ∃ g, w1.heap.size = g := ⟨_, rfl⟩
  generalize hwb : World.alloc w1 _ = wb
  change w1.alloc (.cells (Array.replicate 32 (.int .u8 0)) 153) = wb at hwb
  rw [hwb] at hcell hsz hown2 hbl2 hT2 hU2
  rw [hg] at hcell hsz hbase1 hvg
  have HCELL := Lib.hid hcell
  have HSZ := Lib.hid hsz
  have HOWN2 := Lib.hid hown2
  have HBL2 := Lib.hid hbl2
  have HT2 := Lib.hid hT2
  have HU2 := Lib.hid hU2
  have HVG := Lib.hid hvg
  have HB1 := Lib.hid hbase1
  clear hcell hsz hown2 hbl2 hT2 hU2 hvg hwb hown1 hbl1 hT1 hU1 hblg
  refine (clen wb (len_in HM0.out).1 (len_in HM0.out).2).mono ?_
  rintro e1 w2 ⟨rfl, rfl⟩
  go_wp2_with fail
  refine (cs _ HT2.out).mono ?_
  rintro e3 w3 ⟨d, k, rfl, hsh, hbl3⟩
  have HSH := Lib.hid hsh
  have hsz2 := HSZ.out
  rw [hsz2] at hbl3
  have HBL3 := Lib.hid hbl3
  clear hsh hbl3 hsz2 cs
  go_wp2_with fail
  have hw3 := HBL3.out
  have hU3 := tab_below HU2.out HBL3.out (Nat.le_of_eq HSZ.out)
  obtain ⟨cc, i, hdi, hcc⟩ := strip_exists d HSH.out.1
  have hcell3 : ∀ j, j < 32 → w3.cell? ⟨g, j, none⟩ = some (.int .u8 0) ∧ w3.frozen? ⟨g, j, none⟩ = false := by
    intro j hj
    obtain ⟨a1, a2⟩ := HCELL.out j hj
    exact ⟨(HBL3.out.cell (p := ⟨g, j, none⟩) (show g < g + 1 by omega)).trans a1, (HBL3.out.frozen (p := ⟨g, j, none⟩) (show g < g + 1 by omega)).trans a2⟩
  have cnd : ∀ n, Calls Tryz.prog 120 #[.int .u64 d] (w3.drewN n) fun e w' => e = .returned (.int .i64 (Lib.nDigits d)) ∧ w' = w3.drewN n := fun n => Tryz.internal_strconv_numDigits d HSH.out.1 (d_lt HSH.out.2.1) _ hU3
  have csd : ∀ n, Calls Tryz.prog 119 #[.slice (some ⟨g, 0, none⟩) 32 32, .int .u64 d, .int .i64 k, .int .i64 (Lib.nDigits d)] (w3.drewN n) (SetIs (w3.drewN n) g d cc k) := fun n => setdigits_any g d cc i k _ hdi hcc (d_lt2 HSH.out.2.1) (by have := HSH.out.2.2.1; omega) (by have := HSH.out.2.2.2.1; omega) hcell3
  have HCC := Lib.hid hcc
  have HDI := Lib.hid hdi
  clear hw3 hU3 hcell3 hcc hdi
  go_region_with (first | (go_at_call 120; refine (cnd 1).mono ?_; rintro e w' ⟨rfl, rfl⟩) | (go_at_call 119; refine (csd 1).mono ?_; rintro e w' ⟨rfl, hdig, hbl4⟩))
  have hlen := ftoa_len HSH.out HDI.out HCC.out
  obtain ⟨q1, q2, q3, q4⟩ := hlen
  have gw := fun _ : True => IntWalk.wrap64_in ((Lib.nDigits cc : Int) - 1) (by omega)
  have gmax := fun _ : True => (show max ((Lib.nDigits cc : Int) - 1) 0 = (Lib.nDigits cc : Int) - 1 by omega)
  have hAS := as_start HB1.out HOWN2.out HVG.out HSZ.out HBL2.out HBL3.out 1 hbl4 hdig
  have HAS := Lib.hid hAS
  clear hAS hdig hbl4 cnd csd
  go_wp2_with fail
  refine (fmte_at g base (Lib.nDigits d) (Lib.nDigits cc) k w0 _ v cc HAS.out rfl q2 q1 (by omega) (by omega)).mono ?_
  rintro e5 w5 ⟨v5, rfl, has⟩
  have HFIN := Lib.hid (ftoa_fin HSH.out HDI.out HCC.out has)
  clear has
  go_wp2
  go_ret
  exact HFIN.out
end Go.Proofs.YtbcolebomgcphaaGreatFmt

namespace Go.Proofs.YtbcolebomgcphaaGreatFmt
open Go.RowKit Go.Sort

theorem ftoa_any (r base : Nat) (v : Value) (w0 w : World) (h0 : 0 < r) (hr : r < 9218868437227405312) (hown : w.ownsRow base 5 1 v 0 []) (hbl : Below base w0 w) (hbase : base ≤ w.heap.size) (hT : PowTab w)
    (hU : Lib.TabIs Tryz.prog w "internal/strconv.uint64pow10" .u64 Lib.pow10Tab) :
    Calls Tryz.prog 84 #[v, .float .f64 r, .int .u8 101, .int .i64 (-1)] w (FtoaIs base w0 r) := by
  rcases Nat.lt_or_ge r 4503599627370496 with g | g
  · exact ftoa_sub r base v w0 w h0 g hown hbl hbase hT hU
  · exact ftoa_norm r base v w0 w g hr hown hbl hbase hT hU
theorem make24 (W : World) : (Instr.makeSlice 43 (.int .i64 0) (.int .i64 24)).run Tryz.prog W = .ok (.slice (some ⟨W.heap.size, 0, none⟩) 0 24) (W.alloc (.cells (cellsU .u8 (List.replicate 24 0)) 5)) := by kernel_rfl
/-- What FormatFloat answers. -/
def FfIs (w : World) (r : Nat) (e : Ending) (w' : World) : Prop :=
  ∃ (D : Nat) (j : Int), Shr r D j ∧ 0 < D ∧ D < 1000000000000000000 ∧ -400 ≤ j ∧ j ≤ 366 ∧ e = .returned (.string (strOfNums (fmtE (decZ D) (j + (decZ D).length - 1)))) ∧ Below w.heap.size w w'
set_option maxRecDepth 100000 in
set_option maxHeartbeats 1600000 in
theorem fmtfloat_in (r : Nat) (w : World) (h0 : 0 < r) (hr : r < 9218868437227405312) (hT : PowTab w) (hU : Lib.TabIs Tryz.prog w "internal/strconv.uint64pow10" .u64 Lib.pow10Tab) :
    Calls Tryz.prog 44 #[.float .f64 r, .int .u8 101, .int .i64 (-1), .int .i64 64] w (FfIs w r) := by
  have hmax := fun _ : True => (show max (3 : Int) 24 = 24 by decide)
  have hmk := make24 w
  have hbl : Below w.heap.size w (w.alloc (.cells (cellsU .u8 (List.replicate 24 0)) 5)) := (Below.refl _ _).alloc (Nat.le_refl _) _
  have hown : (w.alloc (.cells (cellsU .u8 (List.replicate 24 0)) 5)).ownsRow w.heap.size 5 1 (.slice (some ⟨w.heap.size, 0, none⟩) 0 24) 0 [] := World.ownsRow_made w _ 24 (Nat.le_refl _) (by unfold maxLen; omega) (by simp [cellsU])
  have cf := ftoa_any r w.heap.size (.slice (some ⟨w.heap.size, 0, none⟩) 0 24) w _ h0 hr hown hbl (by rw [World.size_alloc]; omega) (pow_below hT hbl (Nat.le_refl _)) (tab_below hU hbl (Nat.le_refl _))
  clear h0 hr hT hU hown hbl
  go_enter Tryz.func44, Tryz.ntmps44
  go_wp2_with fail
  refine cf.mono ?_
  rintro e w' ⟨D, j, v, h1, h2, h3, h4, h5, rfl, hown, hbl⟩
  have hcv := conv_own (P := Tryz.prog) 43 9 5 (by kernel_rfl) (by kernel_rfl) (by kernel_rfl) hown
  have HF := Lib.hid (show FfIs w r (.returned (.string (strOfNums (fmtE (decZ D) (j + (decZ D).length - 1))))) w' from ⟨D, j, h1, h2, h3, h4, h5, rfl, hbl⟩)
  clear h1 h2 h3 h4 h5 hown hbl cf hmk
  go_wp2
  go_ret
  exact HF.out
set_option maxRecDepth 100000 in
theorem fmtfloat_any (r : Nat) (w : World) (h0 : 0 < r) (hr : r < 9218868437227405312) (hT : PowTab w) (hU : Lib.TabIs Tryz.prog w "internal/strconv.uint64pow10" .u64 Lib.pow10Tab) :
    Calls Tryz.prog 23 #[.float .f64 r, .int .u8 101, .int .i64 (-1), .int .i64 64] w (FfIs w r) := by
  have cf := fmtfloat_in r w h0 hr hT hU
  clear h0 hr hT hU
  go_enter Tryz.func23, Tryz.ntmps23
  go_wp2_with fail
  refine cf.mono ?_
  rintro e w' ⟨D, j, h1, h2, h3, h4, h5, rfl, hbl⟩
  have HF := Lib.hid (show FfIs w r (.returned (.string (strOfNums (fmtE (decZ D) (j + (decZ D).length - 1))))) w' from ⟨D, j, h1, h2, h3, h4, h5, rfl, hbl⟩)
  clear h1 h2 h3 h4 h5 hbl cf
  go_wp2
  go_ret
  exact HF.out
end Go.Proofs.YtbcolebomgcphaaGreatFmt
