/- Contracts of the reference's Small, Digits. -/
import Derived.Test.YtmhbkilidpbenaaGreatDoorG
namespace Go.Proofs.YtmhbkilidpbenaaGreatDoor
open Go.RowKit

theorem small_law (z d L u Q V : Int) (hz : z = L * 65536 + u) (h : Q * d + L = V) : (z / d + 65536 * Q) * d + z % d = u + 65536 * V := by
  have := Int.emod_add_mul_ediv z d
  grind

set_option maxHeartbeats 3200000 in
set_option maxRecDepth 100000 in
theorem small_any (va : Value) (x d m : Nat) (w : World) (hx : (x : Int) < pw m) (hm : m ≤ 1000000000000) (hd0 : 0 < d) (hd : d < 65536) (ha : IsN w va x) :
    Calls Tryz.prog 34 #[va, .int .u32 d] w fun e w' => ∃ v, e = .returned (.tuple #[v, .int .u32 (x % d : Nat)]) ∧ IsN w' v (x / d) ∧ Below w.heap.size w w' ∧ v.ownBlock = some w.heap.size := by
  obtain ⟨A, n, c, us, rfl, hc, hnm, hra, hca, hva⟩ := ha.len hx
  clear ha hx
  have hn : n ≤ 1000000000000 := by omega
  clear hnm hm
  have HA := Lib.hid hra
  have HCA := Lib.hid hca
  have HVA := Lib.hid hva
  clear hra hca hva
  have hmk := run_make32 n (by omega)
  go_enter Tryz.func34, Tryz.ntmps34
  go_wp2
  clear hmk
  go_loopw [7, 8, 9] (fun lv iv _ wr => ∃ (I : Nat) (L : Int) (O : List Int), iv = .int .i64 ((I : Int) - 1) ∧ lv = .int .u32 L ∧ 0 ≤ L ∧ L < d ∧ I ≤ n ∧ Blk wr w.heap.size 59 (cellsU .u32 O) ∧ Below w.heap.size w wr ∧ Dig O ∧ O.length = n ∧ val (O.drop I) * d + L = val (us.drop I)) (fun _ iv _ _ => (intOf iv + 1).toNat)
  case atStart => exact ⟨n, 0, List.replicate n 0, rfl, rfl, by omega, by omega, by omega, Blk.new w 59 _, (Below.refl _ _).alloc (Nat.le_refl _) _, Dig.zeros _, by simp, by rw [List.drop_of_length_le (by simp), List.drop_of_length_le (by rw [HA.out.1]; omega)]; simp [val_nil]⟩
  case round =>
    obtain ⟨I, L, O, rfl, rfl, hL0, hL1, hI, hB, hbl, hdo, hlo, hv⟩ := hrel
    by_cases h0 : 0 < I
    · obtain ⟨i, rfl⟩ : ∃ i, I = i + 1 := ⟨I - 1, by omega⟩
      have e1 : (((i + 1 : Nat) : Int) - 1) = (i : Int) := by omega
      rw [e1]
      clear e1
      obtain ⟨a, oa, rfl, ha, hac⟩ := HA.out.2 (by omega)
      have hin : i < n := by omega
      have c1 := hac i hin
      rw [← hbl.cell (p := ⟨a, oa + i, none⟩) ha] at c1
      have hdu := HCA.out.1.getD i
      have hu2 := val_drop us i
      obtain ⟨u, hu⟩ : ∃ u, us.getD i 0 = u := ⟨_, rfl⟩
      rw [hu] at c1 hdu hu2
      obtain ⟨hu0, hu1⟩ := hdu
      obtain ⟨z, hz⟩ : ∃ z, L * 65536 + u = z := ⟨_, rfl⟩
      have hz0 : 0 ≤ z := by omega
      have hz1 : z < 4294967296 := by omega
      have hd0' : (0 : Int) < (d : Int) := by omega
      have hq0 : 0 ≤ z / (d : Int) := Int.ediv_nonneg hz0 (by omega)
      have hq1 : z / (d : Int) < 65536 := by
        rw [Int.ediv_lt_iff_lt_mul hd0']
        have : (L + 1) * 65536 ≤ (d : Int) * 65536 := Int.mul_le_mul_of_nonneg_right (by omega) (by decide)
        omega
      have hr0 : 0 ≤ z % (d : Int) := Int.emod_nonneg _ (by omega)
      have hr1 : z % (d : Int) < d := Int.emod_lt_of_pos _ hd0'
      have hset := hB.set_ i (.int .u32 (z / (d : Int)))
      rw [cellsU_set] at hset
      have HSet := Lib.hid hset
      have HB2 := Lib.hid (hbl.setCell (p := ⟨w.heap.size, i, none⟩) (Nat.le_refl _) (.int .u32 (z / (d : Int))))
      have HDig : Hid (Dig (O.set i (z / (d : Int)))) := hdo.set i hq0 hq1
      have HLen : Hid ((O.set i (z / (d : Int))).length = n) := by show _ = n; rw [List.length_set]; exact hlo
      have HN : Hid (val ((O.set i (z / (d : Int))).drop i) * d + z % (d : Int) = val (us.drop i)) := by
        show _ = _
        rw [val_drop, hu2, List.drop_set, if_pos (by omega)]
        rw [show (O.set i (z / (d : Int))).getD i 0 = z / (d : Int) by simp [List.getD, List.getElem?_set_self (show i < O.length by omega)]]
        exact small_law z d L u _ _ hz.symm hv
      have f1 : wr.frozen? ⟨w.heap.size, i, none⟩ = false := hB.frozen i
      have c9 : ∃ u0, wr.cell? ⟨w.heap.size, i, none⟩ = some u0 := ⟨_, by rw [hB.cell]; exact cellsU_get _ _ _ (by omega)⟩
      obtain ⟨u0, c9⟩ := c9
      have hdne : (d : Int) ≠ 0 := by omega
      have ht1 : Int.tdiv z (d : Int) = z / (d : Int) := Int.tdiv_eq_ediv_of_nonneg hz0
      have ht2 : Int.tmod z (d : Int) = z % (d : Int) := Int.tmod_eq_emod_of_nonneg hz0
      clear hset hdo hlo hv hB hbl hac hu hu2
      go_wp2
      exact ⟨⟨i, z % (d : Int), _, rfl, rfl, hr0, hr1, by omega, HSet.out, HB2.out, HDig.out, HLen.out, HN.out⟩, by simp [intOf]⟩
    · have hI0 : I = 0 := by omega
      subst hI0
      rw [List.drop_zero, List.drop_zero, HVA.out] at hv
      have hd0' : (0 : Int) < (d : Int) := by omega
      have e1 : (x : Int) % (d : Int) = L := by
        rw [← hv, Int.add_comm, Int.add_mul_emod_self_right, Int.emod_eq_of_lt hL0 hL1]
      have e2 : (x : Int) / (d : Int) = val O := by
        rw [← hv, Int.add_comm, Int.add_mul_ediv_right _ _ (by omega), Int.ediv_eq_zero_of_lt hL0 hL1, Int.zero_add]
      have cC := cut_at _ n n O wr (hB.rd hlo) hdo (Nat.le_refl _) (by omega) (x / d) (by rw [Int.natCast_ediv]; exact e2.symm)
      have HE := Lib.hid e1
      clear hv hB hdo hlo e1 e2
      go_wp2_with (go_at_call 57; refine cC.mono ?_; rintro e w1 ⟨v, rfl, hv, rfl, k, rfl⟩)
      go_ret2
      rw [Int.natCast_emod, HE.out]
      exact ⟨_, rfl, hv, hbl, rfl⟩

/-- The digits of a whole number to the base ten, the lowest first. -/
def leD : Nat → List Int
  | 0 => []
  | n + 1 => ((((n + 1) % 10 : Nat) : Int)) :: leD ((n + 1) / 10)
decreasing_by omega
/-- Digits as bytes. -/
def asc (l : List Int) : List Int := l.map (· + 48)
theorem asc_append (a b : List Int) : asc (a ++ b) = asc a ++ asc b := List.map_append
/-- How a whole number is written to the base ten. -/
def decZ (x : Nat) : List Int := if x = 0 then [48] else asc (leD x).reverse
theorem leD_pos {x : Nat} (h : 0 < x) : leD x = ((x % 10 : Nat) : Int) :: leD (x / 10) := by
  obtain ⟨n, rfl⟩ : ∃ n, x = n + 1 := ⟨x - 1, by omega⟩
  rw [leD]
theorem leD_zero : leD 0 = [] := by rw [leD]
theorem leD_length (x : Nat) : (leD x).length ≤ x := by
  induction x using Nat.strongRecOn with
  | _ x ih =>
    rcases Nat.eq_zero_or_pos x with h | h
    · subst h; simp [leD_zero]
    · rw [leD_pos h, List.length_cons]
      have := ih (x / 10) (by omega)
      omega
theorem digit_byte (d : Nat) (h : d < 10) (hs : d < (⟨#[48, 49, 50, 51, 52, 53, 54, 55, 56, 57, 97, 98, 99, 100, 101, 102, 103, 104, 105, 106, 107, 108, 109, 110, 111, 112, 113, 114, 115, 116, 117, 118, 119, 120, 121, 122]⟩ : ByteArray).size) :
    ((((⟨#[48, 49, 50, 51, 52, 53, 54, 55, 56, 57, 97, 98, 99, 100, 101, 102, 103, 104, 105, 106, 107, 108, 109, 110, 111, 112, 113, 114, 115, 116, 117, 118, 119, 120, 121, 122]⟩ : ByteArray)[d]'hs).toNat : Nat) : Int) = (d : Int) + 48 := by
  match d, h with
  | 0, _ => rfl | 1, _ => rfl | 2, _ => rfl | 3, _ => rfl | 4, _ => rfl | 5, _ => rfl | 6, _ => rfl | 7, _ => rfl | 8, _ => rfl | 9, _ => rfl

theorem leD_len (x k : Nat) (h : x < 10 ^ k) : (leD x).length ≤ k := by
  induction k generalizing x with
  | zero => have : x = 0 := by simpa using h
            subst this; simp [leD_zero]
  | succ k ih =>
    rcases Nat.eq_zero_or_pos x with h0 | h0
    · subst h0; simp [leD_zero]
    · rw [leD_pos h0, List.length_cons]
      have := ih (x / 10) (by rw [Nat.pow_succ] at h; omega)
      omega
theorem leD_pw (x m : Nat) (h : (x : Int) < pw m) : (leD x).length ≤ 5 * m := by
  apply leD_len
  have h1 : 65536 ^ m ≤ 100000 ^ m := Nat.pow_le_pow_left (by decide) m
  have h2 : 100000 ^ m = 10 ^ (5 * m) := by rw [Nat.pow_mul]
  have h3 : pw m = ((65536 ^ m : Nat) : Int) := by
    unfold pw
    rw [Int.natCast_pow]
    rfl
  omega
theorem leD_digit (x : Nat) : ∀ d ∈ leD x, 0 ≤ d ∧ d < 10 := by
  induction x using Nat.strongRecOn with
  | _ x ih =>
    rcases Nat.eq_zero_or_pos x with h | h
    · subst h; intro d hd; rw [leD_zero] at hd; cases hd
    · intro d hd
      rw [leD_pos h] at hd
      rcases List.mem_cons.1 hd with rfl | hd
      · omega
      · exact ih (x / 10) (by omega) d hd
def rvD (K : List Int) (I : Nat) : List Int := ((asc K).drop I).reverse
def sliceLen : Value → Nat | .slice _ n _ => n | _ => 0
theorem own_form {w : World} {B : Nat} {e : TypeId} {v : Value} {n : Nat} {xs : List Value} (h : w.ownsRow B e 1 v n xs) : ∃ A c, v = .slice A n c ∧ n ≤ c := by
  rcases h.2 with ⟨rfl, rfl⟩ | ⟨g, cap, cur, rfl, _, _, hnc, _⟩
  · exact ⟨none, 0, rfl, Nat.le_refl _⟩
  · exact ⟨_, _, rfl, hnc⟩
theorem own_below {B : Nat} {e : TypeId} {size n : Nat} {v : Value} {xs : List Value} {w w1 : World} (h : w.ownsRow B e size v n xs) (hb : Below w.heap.size w w1) : w1.ownsRow B e size v n xs :=
  h.kept (only_of_below hb none) (by cases v.ownBlock <;> simp)

theorem own_rd8 {w : World} {B : Nat} {e : TypeId} {A : Option Addr} {n c : Nat} {k : IntKind} {us : List Int} (h : w.ownsRow B e 1 (.slice A n c) n (us.map (Value.int k))) (hn : 0 < n) :
    ∃ b off, A = some ⟨b, off, none⟩ ∧ b < w.heap.size ∧ ∀ i, i < n → w.cell? ⟨b, off + i, none⟩ = some (.int k (us.getD i 0)) := by
  have hl : us.length = n := by have := h.1; simpa using this
  rcases h.2 with ⟨_, rfl⟩ | ⟨g, cap, cur, he, _, hh, hnc, _⟩
  · omega
  · injection he with h1 h2 h3
    subst h1
    refine ⟨g, 0, rfl, (Array.getElem?_eq_some_iff.1 hh).1, fun i hi => ?_⟩
    have hc := h.cells (g := g) rfl i (.int k (us.getD i 0)) (by simp [List.getElem?_eq_getElem (show i < us.length by omega)])
    have hadd : (⟨g, 0, none⟩ : Addr).add i = ⟨g, 0 + i, none⟩ := by unfold Addr.add; split <;> simp_all
    rwa [hadd] at hc

set_option maxHeartbeats 3200000 in
set_option maxRecDepth 100000 in
theorem digits_any (va : Value) (x m : Nat) (w : World) (hx : (x : Int) < pw m) (hm : m ≤ 1000000000) (ha : IsN w va x) :
    Calls Tryz.prog 15 #[va, .int .i64 10] w fun e w' => e = .returned (.string (strOfNums (decZ x))) ∧ Below w.heap.size w w' := by
  obtain ⟨A, n, c, us, rfl, hc, hnm, hra, hca, hva⟩ := ha.len hx
  obtain ⟨i0, hi0, hz0, hz1, hz2⟩ := info_parts byte_info
  by_cases h0 : n = 0
  · subst h0
    have hx0 : x = 0 := by
      have h1 : us = [] := List.eq_nil_of_length_eq_zero hra.1
      subst h1
      rw [val_nil] at hva
      omega
    subst hx0
    clear hra hca hva ha hx
    go_enter Tryz.func15, Tryz.ntmps15
    go_wp2
    go_ret
    exact ⟨rfl, Below.refl _ _⟩
  · have hx0 : 0 < x := by
      rcases Nat.eq_zero_or_pos x with h | h
      · subst h
        have := hca.zero.1 hva
        rw [hra.1] at this
        exact absurd this h0
      · exact h
    clear hra hca hva
    have HX := Lib.hid hx
    have hb0 : ((n : Int) == 0) = false := by simp; omega
    clear hx h0
    go_enter Tryz.func15, Tryz.ntmps15
    go_wp2
    go_loopw [0, 5, 6, 7] (fun av bv _ _ wr => ∃ (X bl : Nat) (K : List Int), IsN wr av X ∧ X ≤ x ∧ wr.ownsRow w.heap.size 5 1 bv bl ((asc K).map (Value.int .u8)) ∧ bl = K.length ∧ sliceLen bv = bl ∧ leD x = K ++ leD X ∧ Below w.heap.size w wr) (fun _ bv _ _ _ => 5 * m + 1 - sliceLen bv)
    case atStart => exact ⟨x, 0, [], ha, Nat.le_refl _, World.ownsRow_nil _ _ _ _, rfl, rfl, rfl, Below.refl _ _⟩
    case round =>
      obtain ⟨X, bl, K, hX, hXx, hown, hK, hsl, hD, hbl⟩ := hrel
      have hXm : (X : Int) < pw m := Int.lt_of_le_of_lt (Int.ofNat_le.2 hXx) HX.out
      have hlen : K.length + (leD X).length ≤ 5 * m := by
        have := leD_pw x m HX.out
        rw [hD, List.length_append] at this
        exact this
      obtain ⟨A2, n2, c2, us2, rfl, hc2, hnm2, hra2, hca2, hva2⟩ := hX.len hXm
      by_cases h2 : n2 = 0
      · subst h2
        have hX0 : X = 0 := by
          have h1 : us2 = [] := List.eq_nil_of_length_eq_zero hra2.1
          subst h1
          rw [val_nil] at hva2
          omega
        subst hX0
        rw [leD_zero, List.append_nil] at hD
        obtain ⟨A3, c3, rfl, hc3⟩ := own_form hown
        obtain ⟨b, off, hb⟩ : ∃ b off, 0 < bl → (A3 = some ⟨b, off, none⟩ ∧ b < wr.heap.size ∧ ∀ k, k < bl → wr.cell? ⟨b, off + k, none⟩ = some (.int .u8 ((asc K).getD k 0))) := by
          rcases Nat.eq_zero_or_pos bl with h | h
          · exact ⟨0, 0, fun h' => absurd h' (by omega)⟩
          · have h3 := own_rd8 hown h
            obtain ⟨b, off, h3⟩ := h3
            exact ⟨b, off, fun _ => h3⟩
        have HB := Lib.hid hb
        have HD := Lib.hid hD
        have HK := Lib.hid hK
        have hblm : bl ≤ 5 * m := by
          rw [leD_zero, List.length_nil] at hlen
          omega
        clear hb hD hK hlen hown hX hXx hra2 hca2 hva2 hsl
        rename World => wo
        go_wp2
        go_loopw [8, 9] (fun ov iv w2 => ∃ (I ol : Nat), iv = .int .i64 ((I : Int) - 1) ∧ I + ol = bl ∧ w2.ownsRow wo.heap.size 5 1 ov ol ((rvD K I).map (Value.int .u8)) ∧ Below wo.heap.size wo w2) (fun _ iv _ => (intOf iv + 1).toNat)
        case atStart => exact ⟨bl, 0, rfl, rfl, by rw [show rvD K bl = [] by unfold rvD; rw [List.drop_of_length_le (by rw [HK.out]; simp [asc])]; rfl]; exact World.ownsRow_nil _ _ _ _, Below.refl _ _⟩
        case round =>
          obtain ⟨I, ol, rfl, hIo, hown, hbl2⟩ := hrel
          by_cases h0 : 0 < I
          · obtain ⟨i, rfl⟩ : ∃ i, I = i + 1 := ⟨I - 1, by omega⟩
            have e1 : (((i + 1 : Nat) : Int) - 1) = (i : Int) := by omega
            rw [e1]
            clear e1
            obtain ⟨rfl, hb, hcell⟩ := HB.out (by omega)
            have hib : i < bl := by omega
            have c1 := hcell i hib
            rw [← hbl2.cell (p := ⟨b, off + i, none⟩) hb] at c1
            have hdr : (asc K).drop i = (asc K).getD i 0 :: (asc K).drop (i + 1) := by
              have hl : i < (asc K).length := by simp [asc]; rw [← HK.out]; omega
              rw [List.drop_eq_getElem_cons hl, List.getD, List.getElem?_eq_getElem hl]
              rfl
            obtain ⟨u, hu⟩ : ∃ u, (asc K).getD i 0 = u := ⟨_, rfl⟩
            rw [hu] at c1 hdr
            have HR : Hid (rvD K i = rvD K (i + 1) ++ [u]) := by
              show rvD K i = _
              unfold rvD
              rw [hdr, List.reverse_cons]
            clear hcell hdr hu
            go_wp2_with (at_builtin; (refine append_one (.tmp 36) (.tmp 41) 53 5 .u8 0 1 i0 Tryz.underlying53 hi0 hz0 hz1 hz2 (by decide) rfl rfl wr _ ol _ _ _ rfl rfl hown hbl2 ?c1 ?_))
            case c1 => omega
            intro v' w3 hown3 hbl3
            go_wp2
            go_roundw
            case rel => exact ⟨i, ol + 1, rfl, by omega, by rw [HR.out, List.map_append]; exact hown3, hbl3⟩
            case measure => simp [intOf]
          · have hI0 : I = 0 := by omega
            subst hI0
            have hcv := conv_own (P := Tryz.prog) 53 9 5 Tryz.underlying53 Tryz.underlying5 Tryz.underlying9 hown
            have hbl3 := hbl.trans (hbl2.mono hbl.size)
            go_wp2
            go_ret
            refine ⟨?_, hbl3⟩
            unfold decZ
            rw [if_neg (by omega), HD.out]
            simp [rvD, asc, List.map_reverse]
      · have hX0 : 0 < X := by
          rcases Nat.eq_zero_or_pos X with h | h
          · subst h
            have := hca2.zero.1 hva2
            rw [hra2.1] at this
            exact absurd this h2
          · exact h
        clear hra2 hca2 hva2
        rw [leD_pos hX0] at hD hlen
        rw [List.length_cons] at hlen
        have hblm : bl + 1 ≤ 5 * m := by omega
        have HD := Lib.hid hD
        have HK := Lib.hid hK
        have HSl := Lib.hid hsl
        clear hD hK hlen hsl
        have cS : Calls Tryz.prog 34 #[.slice A2 n2 c2, .int .u32 10] wr fun e w' => ∃ v, e = .returned (.tuple #[v, .int .u32 (X % 10 : Nat)]) ∧ IsN w' v (X / 10) ∧ Below wr.heap.size wr w' ∧ v.ownBlock = some wr.heap.size := small_any _ X 10 m wr hXm (by omega) (by omega) (by omega) hX
        obtain ⟨d, hd⟩ : ∃ d, X % 10 = d := ⟨_, rfl⟩
        have hd10 : d < 10 := by omega
        rw [hd] at cS
        go_wp2_with fail
        refine cS.mono ?_
        rintro e w1 ⟨v1, rfl, hv1, hb1, hob⟩
        have hlt1 := hown.lt
        have hown1 := own_below hown hb1
        have hbl1 := hbl.trans (hb1.mono hbl.size)
        clear hown hbl hb1 hX
        go_wp2_with (at_builtin; refine append_one_g (.tmp 23) (.tmp 26) 53 5 .u8 0 1 i0 Tryz.underlying53 hi0 hz0 hz1 hz2 (by decide) rfl rfl w1 _ bl _ _ _ rfl rfl hown1 hbl1 ?c1 ?_)
        case c1 => omega
        intro v' w2 hown2 hbl2 hgrow
        have hv2 := (hv1.alloc _).grown hgrow (fun g hg he => by
          rw [hob] at hg
          cases hg
          have := (hlt1 _ he.symm).2
          omega)
        clear hgrow hlt1 hob hv1
        rw [digit_byte d hd10] at hown2
        have HO : Hid (asc (K ++ [(d : Int)]) = asc K ++ [(d : Int) + 48]) := asc_append _ _
        go_wp2
        go_roundw
        case rel => exact ⟨X / 10, bl + 1, K ++ [(d : Int)], hv2, by omega, by rw [HO.out, List.map_append]; exact hown2, by rw [List.length_append, ← HK.out]; rfl, by obtain ⟨A3, c3, rfl, _⟩ := own_form hown2; rfl, by rw [HD.out, List.append_assoc, hd]; rfl, hbl2⟩
        case measure =>
          obtain ⟨A3, c3, rfl, _⟩ := own_form hown2
          have h := HSl.out
          unfold sliceLen at h
          simp [sliceLen]
          rw [h]
          omega
end Go.Proofs.YtmhbkilidpbenaaGreatDoor
