/- Contracts of the reference's Trim and Cased. -/
import Derived.Test.YtmhbkilidpbenaaDoorJ
import Derived.Test.YtmhbkilidpbenaaDoorE
import Derived.Test.YtmhbkilidpbenaaDoorF
namespace Go.Proofs.YtmhbkilidpbenaaDoor
open Go.RowKit


/-- What the reference's Trim leaves. -/
def TrimPost (b off F B : Nat) (w : World) (e : Ending) (w' : World) : Prop := ∃ A' c', e = .returned (.slice A' (B - F) c') ∧ (F < B → A' = some ⟨b, off + F, none⟩) ∧ Below w.heap.size w w'
set_option maxHeartbeats 3200000 in
set_option maxRecDepth 100000 in
/-- The reference's Trim. -/
theorem rtrim_cells (b off n c : Nat) (us : List Int) (F B : Nat) (w : World) (hn : n ≤ 1099511627776) (hnc : n ≤ c) (hl : us.length = n) (hb : b < w.heap.size) (hr : ∀ u ∈ us, 0 ≤ u ∧ u ≤ 65535)
    (hc : ∀ k, k < n → w.cell? ⟨b, off + k, none⟩ = some (.int .u16 (us.getD k 0))) (hZ : Lib.RVar 0 zsT w) (ht : TrimAt whiteZ us F B) :
    Calls Tryd.prog 13 #[.slice (some ⟨b, off, none⟩) n c] w (TrimPost b off F B w) := by
  have HC := Lib.hid hc
  have HL := Lib.hid hl
  have HR := Lib.hid hr
  have HTA := Lib.hid ht
  have hFB := ht.le
  have hBn : B ≤ n := by rw [← hl]; exact ht.top
  clear hc hl hr ht
  go_enter Tryd.func13, Tryd.ntmps13
  go_wp2
  go_loopw [3, 5] (fun ii _ wr => ∃ i : Nat, i ≤ F ∧ ii = .int .i64 i ∧ Below w.heap.size w wr) (fun ii _ _ => F - (intOf ii).toNat)
  case atStart => exact ⟨0, Nat.zero_le _, rfl, Below.refl _ _⟩
  case round =>
    obtain ⟨i, hi, rfl, hbl0⟩ := hrel
    obtain ⟨wo, hwo⟩ : ∃ wo : World, wo = wr := ⟨_, rfl⟩
    subst hwo
    by_cases hlt : i < F
    · have hw := HTA.out.front i hlt
      have hx := getD_range HR.out (k := i) (by rw [HL.out]; omega)
      have c1 : wo.cell? ⟨b, off + i, none⟩ = some (.int .u16 (us.getD i 0)) := by rw [hbl0.cell (p := ⟨b, off + i, none⟩) hb]; exact HC.out i (by omega)
      obtain ⟨x, hxe⟩ : ∃ x, us.getD i 0 = x := ⟨_, rfl⟩
      rw [hxe] at hx hw c1
      have HW := Lib.hid hw
      obtain ⟨hx0, hx1⟩ := hx
      have hZr : Lib.RVar 0 zsT wo := Zs.below hZ hbl0
      clear hxe hw
      go_wp2_with (go_at_call 28; refine (rwhite_any x wo hx0 hx1 hZr).mono ?_; rw [HW.out]; rintro e w2 ⟨rfl, hb2⟩)
      go_roundw
      case rel => exact ⟨i + 1, by omega, by go_num, hbl0.trans (hb2.mono hbl0.size)⟩
      case measure => simp [intOf]; omega
    · obtain rfl : i = F := by omega
      by_cases hFn : i < n
      · have hw := HTA.out.first (by rw [HL.out]; exact hFn)
        have hx := getD_range HR.out (k := i) (by rw [HL.out]; exact hFn)
        have c1 : wo.cell? ⟨b, off + i, none⟩ = some (.int .u16 (us.getD i 0)) := by rw [hbl0.cell (p := ⟨b, off + i, none⟩) hb]; exact HC.out i (by omega)
        obtain ⟨x, hxe⟩ : ∃ x, us.getD i 0 = x := ⟨_, rfl⟩
        rw [hxe] at hx hw c1
        have HW := Lib.hid hw
        obtain ⟨hx0, hx1⟩ := hx
        have hZr : Lib.RVar 0 zsT wo := Zs.below hZ hbl0
        clear hxe hw
        go_wp2_with (go_at_call 28; refine (rwhite_any x wo hx0 hx1 hZr).mono ?_; rw [HW.out]; rintro e w2 ⟨rfl, hb2⟩)
        have hblS : Below w.heap.size w w2 := hbl0.trans (hb2.mono hbl0.size)
        clear hbl0 hb2 hZr
        go_loopw [4, 6] (fun kk _ wr => ∃ k : Nat, B ≤ k ∧ k ≤ n ∧ kk = .int .i64 k ∧ Below w.heap.size w wr) (fun kk _ _ => (intOf kk).toNat)
        case atStart => exact ⟨n, hBn, Nat.le_refl _, rfl, hblS⟩
        case round =>
          obtain ⟨k, hk1, hk2, rfl, hbl⟩ := hrel
          by_cases hlt : B < k
          · have hw := HTA.out.back (k - 1) (by omega) (by rw [HL.out]; omega)
            have hx := getD_range HR.out (k := k - 1) (by rw [HL.out]; omega)
            have c1 : wr.cell? ⟨b, off + (k - 1), none⟩ = some (.int .u16 (us.getD (k - 1) 0)) := by rw [hbl.cell (p := ⟨b, off + (k - 1), none⟩) hb]; exact HC.out (k - 1) (by omega)
            obtain ⟨x, hxe⟩ : ∃ x, us.getD (k - 1) 0 = x := ⟨_, rfl⟩
            rw [hxe] at hx hw c1
            have HW := Lib.hid hw
            obtain ⟨hx0, hx1⟩ := hx
            have hZr : Lib.RVar 0 zsT wr := Zs.below hZ hbl
            clear hxe hw
            go_wp2_with (go_at_call 28; refine (rwhite_any x wr hx0 hx1 hZr).mono ?_; rw [HW.out]; rintro e w2 ⟨rfl, hb2⟩)
            go_roundw
            case rel => exact ⟨k - 1, by omega, by omega, by rw [show ((k - 1 : Nat) : Int) = (k : Int) - 1 by omega], hbl.trans (hb2.mono hbl.size)⟩
            case measure => simp [intOf]; omega
          · have hkB : k = B := by omega
            by_cases hFlt : i < B
            · have hw := HTA.out.last hFlt
              have hx := getD_range HR.out (k := B - 1) (by rw [HL.out]; omega)
              have c1 : wr.cell? ⟨b, off + (B - 1), none⟩ = some (.int .u16 (us.getD (B - 1) 0)) := by rw [hbl.cell (p := ⟨b, off + (B - 1), none⟩) hb]; exact HC.out (B - 1) (by omega)
              obtain ⟨x, hxe⟩ : ∃ x, us.getD (B - 1) 0 = x := ⟨_, rfl⟩
              rw [hxe] at hx hw c1
              subst hkB
              have HW := Lib.hid hw
              obtain ⟨hx0, hx1⟩ := hx
              have hZr : Lib.RVar 0 zsT wr := Zs.below hZ hbl
              have hbs := hbl.size
              clear hxe hw
              go_wp2_with (go_at_call 28; refine (rwhite_any x wr hx0 hx1 hZr).mono ?_; rw [HW.out]; rintro e w2 ⟨rfl, hb2⟩)
              go_ret
              exact ⟨_, _, rfl, fun _ => rfl, hbl.trans (hb2.mono hbs)⟩
            · subst hkB
              go_wp2
              all_goals go_ret
              all_goals exact ⟨_, _, rfl, fun h => absurd h (by omega), hbl⟩
      · go_wp2
        have hblS := hbl0
        clear hbl0
        go_loopw [4, 6] (fun kk _ wr => ∃ k : Nat, B ≤ k ∧ k ≤ n ∧ kk = .int .i64 k ∧ Below w.heap.size w wr) (fun kk _ _ => (intOf kk).toNat)
        case atStart => exact ⟨n, hBn, Nat.le_refl _, rfl, hblS⟩
        case round =>
          obtain ⟨k, hk1, hk2, rfl, hbl⟩ := hrel
          obtain rfl : k = B := by omega
          go_wp2
          all_goals go_ret
          all_goals exact ⟨_, _, rfl, fun h => absurd h (by omega), hbl⟩

set_option maxHeartbeats 800000 in
theorem rtrim_zero (A : Option Addr) (c : Nat) (w : World) :
    Calls Tryd.prog 13 #[.slice A 0 c] w fun e w' => ∃ A' c', e = .returned (.slice A' 0 c') ∧ w = w' := by
  go_enter Tryd.func13, Tryd.ntmps13
  go_wp2
  refine wp_loop_rounds 1 ?_
  rw [rounds_succ]
  go_wp2
  refine wp_loop_rounds 1 ?_
  rw [rounds_succ]
  go_wp2
  all_goals go_ret
  all_goals exact ⟨_, _, rfl, rfl⟩

/-- The reference's Trim: of any slice of units. -/
theorem rtrim_any (A : Option Addr) (n c : Nat) (us : List Int) (F B : Nat) (w : World) (hn : n ≤ 1099511627776) (hnc : n ≤ c) (ha : RdU w w.heap.size A n us) (hr : ∀ u ∈ us, 0 ≤ u ∧ u ≤ 65535)
    (hZ : Lib.RVar 0 zsT w) (ht : TrimAt whiteZ us F B) :
    Calls Tryd.prog 13 #[.slice A n c] w fun e w' => ∃ A' c', e = .returned (.slice A' (B - F) c') ∧ RdU w' w'.heap.size A' (B - F) ((us.take B).drop F) ∧ Below w.heap.size w w' := by
  have hl := ha.1
  have h1 := ht.le
  have h2 := ht.top
  rcases Nat.eq_zero_or_pos n with h0 | h0
  · subst h0
    have e1 : us = [] := List.eq_nil_of_length_eq_zero hl
    subst e1
    have hB : B = 0 := by simpa using h2
    have hF : F = 0 := by omega
    subst hB; subst hF
    refine (rtrim_zero A c w).mono ?_
    rintro e w' ⟨A', c', rfl, rfl⟩
    exact ⟨A', c', rfl, ⟨rfl, fun h => absurd h (by omega)⟩, Below.refl _ _⟩
  · obtain ⟨b, off, rfl, hb, hc⟩ := ha.2 h0
    refine (rtrim_cells b off n c us F B w hn hnc hl hb hr hc hZ ht).mono ?_
    rintro e w' ⟨A', c', rfl, hA, hbl⟩
    refine ⟨A', c', rfl, ⟨?_, fun hlt => ⟨b, off + F, hA (by omega), ?_, fun k hk => ?_⟩⟩, hbl⟩
    · rw [List.length_drop, List.length_take]; omega
    · have := hbl.size; omega
    · rw [hbl.cell (p := ⟨b, off + F + k, none⟩) hb, Nat.add_assoc, hc (F + k) (by omega)]
      have e : ((us.take B).drop F).getD k 0 = us.getD (F + k) 0 := by
        rw [List.getD, List.getD, List.getElem?_drop, List.getElem?_take_of_lt (by omega)]
      rw [e]
end Go.Proofs.YtmhbkilidpbenaaDoor
