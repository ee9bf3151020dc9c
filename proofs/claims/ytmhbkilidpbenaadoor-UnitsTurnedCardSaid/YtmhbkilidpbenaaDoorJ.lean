/- Contracts of Trim, the program's and the reference's. -/
import Derived.Test.YtmhbkilidpbenaaDoorI
namespace Go.Proofs.YtmhbkilidpbenaaDoor
open Go.RowKit

/-- Between F and B stands what is left when white space is taken off both ends. -/
structure TrimAt (p : Int → Bool) (us : List Int) (F B : Nat) : Prop where
  le : F ≤ B
  top : B ≤ us.length
  front : ∀ j, j < F → p (us.getD j 0) = true
  first : F < us.length → p (us.getD F 0) = false
  back : ∀ j, B ≤ j → j < us.length → p (us.getD j 0) = true
  last : F < B → p (us.getD (B - 1) 0) = false
theorem trim_front (p : Int → Bool) : ∀ us : List Int, ∃ F, F ≤ us.length ∧ (∀ j, j < F → p (us.getD j 0) = true) ∧ (F < us.length → p (us.getD F 0) = false)
  | [] => ⟨0, by simp, fun j hj => absurd hj (by omega), fun h => absurd h (by simp)⟩
  | u :: r => by
    cases hu : p u
    · exact ⟨0, by simp, fun j hj => absurd hj (by omega), fun _ => by simpa using hu⟩
    · obtain ⟨F, h1, h2, h3⟩ := trim_front p r
      refine ⟨F + 1, by simpa using h1, fun j hj => ?_, fun h => ?_⟩
      · cases j with
        | zero => simpa using hu
        | succ j => simpa using h2 j (by omega)
      · simpa using h3 (by simpa using h)
theorem trim_back (p : Int → Bool) (us : List Int) (F : Nat) : ∀ d n, n - F = d → F ≤ n → n ≤ us.length → (∀ j, n ≤ j → j < us.length → p (us.getD j 0) = true) →
    ∃ B, F ≤ B ∧ B ≤ n ∧ (∀ j, B ≤ j → j < us.length → p (us.getD j 0) = true) ∧ (F < B → p (us.getD (B - 1) 0) = false) := by
  intro d
  induction d with
  | zero => intro n hd h1 h2 h3; exact ⟨n, h1, Nat.le_refl _, h3, fun h => absurd h (by omega)⟩
  | succ d ih =>
    intro n hd h1 h2 h3
    cases hp : p (us.getD (n - 1) 0)
    · exact ⟨n, h1, Nat.le_refl _, h3, fun _ => hp⟩
    · obtain ⟨B, b1, b2, b3, b4⟩ := ih (n - 1) (by omega) (by omega) (by omega) (fun j hj hl => by
        rcases Nat.lt_or_ge j n with h | h
        · obtain rfl : j = n - 1 := by omega
          exact hp
        · exact h3 j h hl)
      exact ⟨B, b1, by omega, b3, b4⟩
theorem trim_exists (p : Int → Bool) (us : List Int) : ∃ F B, TrimAt p us F B := by
  obtain ⟨F, h1, h2, h3⟩ := trim_front p us
  obtain ⟨B, b1, b2, b3, b4⟩ := trim_back p us F (us.length - F) us.length rfl h1 (Nat.le_refl _) (fun j h hl => absurd hl (by omega))
  exact ⟨F, B, b1, b2, h2, h3, b3, b4⟩

theorem Zs.below {w w' : World} (h : Lib.RVar 0 zsT w) (hb : Below w.heap.size w w') : Lib.RVar 0 zsT w' := by
  obtain ⟨Tb, oT, hc, a16, a32, R16, o16, c16, R32, o32, c32, h1, h2, h3, h4, h5, h6, h7, h8⟩ := h
  refine ⟨Tb, oT, keep_cell hb hc, a16, a32, R16, o16, c16, R32, o32, c32, keep_cell hb h1, keep_cell hb h2, keep_cell hb h3, h4, h5, fun i hi => ?_, fun i hi => ?_, h8⟩
  · obtain ⟨k1, k2, k3⟩ := h6 i hi
    exact ⟨keep_cell hb k1, keep_cell hb k2, keep_cell hb k3⟩
  · obtain ⟨k1, k2, k3⟩ := h7 i hi
    exact ⟨keep_cell hb k1, keep_cell hb k2, keep_cell hb k3⟩
theorem getD_range {us : List Int} (hr : ∀ u ∈ us, 0 ≤ u ∧ u ≤ 65535) {k : Nat} (hk : k < us.length) : 0 ≤ us.getD k 0 ∧ us.getD k 0 ≤ 65535 :=
  hr _ (by rw [List.getD, List.getElem?_eq_getElem hk]; exact List.getElem_mem _)


set_option maxHeartbeats 3200000 in
set_option maxRecDepth 100000 in
/-- Trim of a packed text. -/
theorem strim_any (s : ByteArray) (us : List Int) (F B : Nat) (w : World) (h : Packed s us) (hZ : Lib.RVar 0 zsT w) (ht : TrimAt whiteZ us F B) :
    Calls Tryd.prog 29 #[.string s] w fun e w' => e = .returned (.string (s.extract (2 * F) (2 * B))) ∧ Below w.heap.size w w' := by
  have HP := Lib.hid h
  have HTA := Lib.hid ht
  have hFB := ht.le
  have hBn := ht.top
  have hul := h.2.2
  clear h ht
  go_enter Tryd.func29, Tryd.ntmps29
  go_wp2_with (go_at_call 38; refine (len_any s us w HP.out).mono ?_; rintro e w' ⟨rfl, rfl⟩)
  go_loopw [3] (fun ii wr => ∃ i : Nat, i ≤ F ∧ ii = .int .i64 i ∧ Below w.heap.size w wr) (fun ii _ => F - (intOf ii).toNat)
  case atStart => exact ⟨0, Nat.zero_le _, rfl, Below.refl _ _⟩
  case round =>
    obtain ⟨i, hi, rfl, hbl0⟩ := hrel
    obtain ⟨wo, hwo⟩ : ∃ wo : World, wo = wr := ⟨_, rfl⟩
    subst hwo
    by_cases hlt : i < F
    · have hw := HTA.out.front i hlt
      have hx := getD_range HP.out.2.1 (k := i) (by omega)
      have cA := at_any s us i wo HP.out (by omega)
      obtain ⟨x, hxe⟩ : ∃ x, us.getD i 0 = x := ⟨_, rfl⟩
      rw [hxe] at hx hw cA
      have HW := Lib.hid hw
      obtain ⟨hx0, hx1⟩ := hx
      have hZr : Lib.RVar 0 zsT wo := Zs.below hZ hbl0
      clear hxe hw
      go_wp2_with (first | (go_at_call 40; refine cA.mono ?_; rintro e w1 ⟨rfl, q, rfl⟩) | (go_at_call 39; refine (white_any x (wo.drewN q) hx0 hx1 hZr).mono ?_; rw [HW.out]; rintro e w2 ⟨rfl, hb2⟩))
      go_roundw
      case rel => exact ⟨i + 1, by omega, by go_num, (below_drewN hbl0 q).trans (hb2.mono hbl0.size)⟩
      case measure => simp [intOf]; omega
    · obtain rfl : i = F := by omega
      by_cases hFn : i < us.length
      · have hw := HTA.out.first hFn
        have hx := getD_range HP.out.2.1 (k := i) hFn
        have cA := at_any s us i wo HP.out hFn
        obtain ⟨x, hxe⟩ : ∃ x, us.getD i 0 = x := ⟨_, rfl⟩
        rw [hxe] at hx hw cA
        have HW := Lib.hid hw
        obtain ⟨hx0, hx1⟩ := hx
        have hZr : Lib.RVar 0 zsT wo := Zs.below hZ hbl0
        clear hxe hw
        go_wp2_with (first | (go_at_call 40; refine cA.mono ?_; rintro e w1 ⟨rfl, q, rfl⟩) | (go_at_call 39; refine (white_any x (wo.drewN q) hx0 hx1 hZr).mono ?_; rw [HW.out]; rintro e w2 ⟨rfl, hb2⟩))
        have hblS : Below w.heap.size w w2 := (below_drewN hbl0 q).trans (hb2.mono hbl0.size)
        clear hbl0 hb2 hZr
        go_loopw [4] (fun kk wr => ∃ k : Nat, B ≤ k ∧ k ≤ us.length ∧ kk = .int .i64 k ∧ Below w.heap.size w wr) (fun kk _ => (intOf kk).toNat)
        case atStart => exact ⟨us.length, hBn, Nat.le_refl _, rfl, hblS⟩
        case round =>
          obtain ⟨k, hk1, hk2, rfl, hbl⟩ := hrel
          by_cases hlt : B < k
          · have hw := HTA.out.back (k - 1) (by omega) (by omega)
            have hx := getD_range HP.out.2.1 (k := k - 1) (by omega)
            have cA := at_any s us (k - 1) wr HP.out (by omega)
            obtain ⟨x, hxe⟩ : ∃ x, us.getD (k - 1) 0 = x := ⟨_, rfl⟩
            rw [hxe] at hx hw cA
            rw [show ((k - 1 : Nat) : Int) = (k : Int) - 1 by omega] at cA
            have HW := Lib.hid hw
            obtain ⟨hx0, hx1⟩ := hx
            have hZr : Lib.RVar 0 zsT wr := Zs.below hZ hbl
            clear hxe hw
            go_wp2_with (first | (go_at_call 40; refine cA.mono ?_; rintro e w1 ⟨rfl, q, rfl⟩) | (go_at_call 39; refine (white_any x (wr.drewN q) hx0 hx1 hZr).mono ?_; rw [HW.out]; rintro e w2 ⟨rfl, hb2⟩))
            go_roundw
            case rel => exact ⟨k - 1, by omega, by omega, by rw [show ((k - 1 : Nat) : Int) = (k : Int) - 1 by omega], (below_drewN hbl q).trans (hb2.mono hbl.size)⟩
            case measure => simp [intOf]; omega
          · have hkB : k = B := by omega
            by_cases hFlt : i < B
            · have hw := HTA.out.last hFlt
              have hx := getD_range HP.out.2.1 (k := B - 1) (by omega)
              have cA := at_any s us (B - 1) wr HP.out (by omega)
              obtain ⟨x, hxe⟩ : ∃ x, us.getD (B - 1) 0 = x := ⟨_, rfl⟩
              rw [hxe] at hx hw cA
              subst hkB
              rw [show ((k - 1 : Nat) : Int) = (k : Int) - 1 by omega] at cA
              have HW := Lib.hid hw
              obtain ⟨hx0, hx1⟩ := hx
              have hZr : Lib.RVar 0 zsT wr := Zs.below hZ hbl
              have hbs := hbl.size
              clear hxe hw
              go_wp2_with (first | (go_at_call 40; refine cA.mono ?_; rintro e w1 ⟨rfl, q, rfl⟩) | (go_at_call 39; refine (white_any x (wr.drewN q) hx0 hx1 hZr).mono ?_; rw [HW.out]; rintro e w2 ⟨rfl, hb2⟩) | (go_at_call 41; refine (sub_any s us i k _ HP.out hFB hBn).mono ?_; rintro e w5 ⟨rfl, rfl⟩))
              go_ret
              exact ⟨rfl, (below_drewN hbl q).trans (hb2.mono hbs)⟩
            · subst hkB
              go_wp2_with (go_at_call 41; refine (sub_any s us i k _ HP.out hFB hBn).mono ?_; rintro e w5 ⟨rfl, rfl⟩)
              go_ret
              exact ⟨rfl, hbl⟩
      · go_wp2
        have hblS := hbl0
        clear hbl0
        go_loopw [4] (fun kk wr => ∃ k : Nat, B ≤ k ∧ k ≤ us.length ∧ kk = .int .i64 k ∧ Below w.heap.size w wr) (fun kk _ => (intOf kk).toNat)
        case atStart => exact ⟨us.length, hBn, Nat.le_refl _, rfl, hblS⟩
        case round =>
          obtain ⟨k, hk1, hk2, rfl, hbl⟩ := hrel
          obtain rfl : k = B := by omega
          go_wp2_with (go_at_call 41; refine (sub_any s us i k _ HP.out hFB hBn).mono ?_; rintro e w5 ⟨rfl, rfl⟩)
          go_ret
          exact ⟨rfl, hbl⟩

set_option maxHeartbeats 800000 in
/-- Trim: of a text. -/
theorem trim_any (s : ByteArray) (F B : Nat) (w : World) (hT : Lib.Utf8Tabs 1 2 w) (hZ : Lib.RVar 0 zsT w) (hn : s.size ≤ 4000) (ht : TrimAt whiteZ (unitsZ (bytesZ s)) F B) :
    Calls Tryd.prog 14 #[.string s] w fun e w' => e = .returned (.string (strOfNums (textZ (((unitsZ (bytesZ s)).take B).drop F)))) ∧ Below w.heap.size w w' := by
  have cO := of_any s w hT (by omega)
  have hul := unitsZ_length _ (bytesZ s) rfl
  rw [bytesZ_length] at hul
  have hP1 : Packed (strOfNums (packZ (unitsZ (bytesZ s)))) (unitsZ (bytesZ s)) := Packed.mk (units_rng s) (by omega)
  have hP2 := hP1.sub (i := F) ht.top
  have HT := Lib.hid ht
  clear ht
  go_enter Tryd.func14, Tryd.ntmps14
  go_wp2_with (first | (go_at_call 24; refine cO.mono ?_; rintro e w1 ⟨rfl, hb1⟩; have hZ1 := Zs.below hZ hb1) | (go_at_call 29; refine (strim_any _ _ F B _ hP1 hZ1 HT.out).mono ?_; rintro e w2 ⟨rfl, hb2⟩) | (go_at_call 26; refine (string_any _ _ _ hP2).mono ?_; rintro e w3 ⟨rfl, hb3⟩))
  go_ret
  exact ⟨rfl, (hb1.trans (hb2.mono hb1.size)).trans (hb3.mono (Nat.le_trans hb1.size hb2.size))⟩
end Go.Proofs.YtmhbkilidpbenaaDoor
