/- Contracts of the reference's first, second and Text. -/
import Derived.Test.YtmhbkilidpbenaaDoorB
namespace Go.Proofs.YtmhbkilidpbenaaDoor
open Go.RowKit

set_option maxHeartbeats 400000 in
theorem first_any (u : Int) (w : World) (h0 : 0 ≤ u) (h1 : u ≤ 65535) :
    Calls Tryd.prog 20 #[.int .u16 u] w fun e w' => e = .returned (.bool (isHi u)) ∧ w = w' := by
  by_cases ha : 55296 ≤ u
  · by_cases hb : u < 56320
    · have hr : isHi u = true := by simp [isHi]; omega
      rw [hr]
      clear hr
      go_enter Tryd.func20, Tryd.ntmps20
      go_wp2
      go_ret
      exact ⟨rfl, rfl⟩
    · have hr : isHi u = false := by simp [isHi]; omega
      rw [hr]
      clear hr
      go_enter Tryd.func20, Tryd.ntmps20
      go_wp2
      go_ret
      exact ⟨rfl, rfl⟩
  · have hr : isHi u = false := by simp [isHi]; omega
    rw [hr]
    clear hr
    go_enter Tryd.func20, Tryd.ntmps20
    go_wp2
    go_ret
    exact ⟨rfl, rfl⟩
set_option maxHeartbeats 400000 in
theorem second_any (u : Int) (w : World) (h0 : 0 ≤ u) (h1 : u ≤ 65535) :
    Calls Tryd.prog 21 #[.int .u16 u] w fun e w' => e = .returned (.bool (isLo u)) ∧ w = w' := by
  by_cases ha : 56320 ≤ u
  · by_cases hb : u < 57344
    · have hr : isLo u = true := by simp [isLo]; omega
      rw [hr]
      clear hr
      go_enter Tryd.func21, Tryd.ntmps21
      go_wp2
      go_ret
      exact ⟨rfl, rfl⟩
    · have hr : isLo u = false := by simp [isLo]; omega
      rw [hr]
      clear hr
      go_enter Tryd.func21, Tryd.ntmps21
      go_wp2
      go_ret
      exact ⟨rfl, rfl⟩
  · have hr : isLo u = false := by simp [isLo]; omega
    rw [hr]
    clear hr
    go_enter Tryd.func21, Tryd.ntmps21
    go_wp2
    go_ret
    exact ⟨rfl, rfl⟩

theorem rpair_eq (x y : Int) : 65536 + (x - 55296) * 1024 + y - 56320 = pairZ x y := by unfold pairZ; omega

set_option maxHeartbeats 3200000 in
set_option maxRecDepth 100000 in
theorem rtext_cells (b off n c : Nat) (us : List Int) (w : World) (hn : n ≤ 1099511627776) (hlx : us.length = n) (hb : b < w.heap.size) (hr : ∀ u ∈ us, 0 ≤ u ∧ u ≤ 65535)
    (hx : ∀ k, k < n → w.cell? ⟨b, off + k, none⟩ = some (.int .u16 (us.getD k 0))) :
    Calls Tryd.prog 9 #[.slice (some ⟨b, off, none⟩) n c] w fun e w' => e = .returned (.string (strOfNums (textZ us))) ∧ Below w.heap.size w w' := by
  have Hl := Lib.hid hlx
  have HX := Lib.hid hx
  have HR := Lib.hid hr
  clear hlx hx hr
  obtain ⟨i0, hi0, hz0, hz1, hz2⟩ := info_parts byte_info
  go_enter Tryd.func9, Tryd.ntmps9
  go_wp2
  go_loopw [3, 4] (fun v i wr => ∃ (k m : Nat) (P : List Int), k ≤ n ∧ i = .int .i64 k ∧ wr.ownsRow w.heap.size 5 1 v m (P.map (Value.int .u8)) ∧ Below w.heap.size w wr ∧ m ≤ 4 * k ∧ textZ us = P ++ textZ (us.drop k)) (fun _ i _ => n - (intOf i).toNat)
  case atStart => exact ⟨0, 0, [], Nat.zero_le _, rfl, World.ownsRow_nil _ _ _ _, Below.refl _ _, by omega, by simp⟩
  case round =>
    obtain ⟨k, m, P, hk, rfl, hown, hbl, hm, ht⟩ := hrel
    have HT := Lib.hid ht
    clear ht
    by_cases hlt : k < n
    · have c1 : wr.cell? ⟨b, off + k, none⟩ = some (.int .u16 (us.getD k 0)) := by rw [hbl.cell (p := ⟨b, off + k, none⟩) hb]; exact HX.out k hlt
      have hu := HR.out (us.getD k 0) (by
        have := Hl.out
        rw [List.getD, List.getElem?_eq_getElem (show k < us.length by omega)]
        exact List.getElem_mem _)
      obtain ⟨x, hx⟩ : ∃ x, us.getD k 0 = x := ⟨_, rfl⟩
      rw [hx] at c1 hu
      have Hx1 := Lib.hid hx
      clear hx
      obtain ⟨hu0, hu1⟩ := hu
      have hbs := hbl.size
      cases h1 : isHi x
      · have H1 := Lib.hid (textZ_one (us := us) (k := k) (by rw [Hl.out]; exact hlt) (by rw [Hx1.out, h1]; simp))
        by_cases hk1 : k + 1 < n
        · have c2 : wr.cell? ⟨b, off + (k + 1), none⟩ = some (.int .u16 (us.getD (k + 1) 0)) := by rw [hbl.cell (p := ⟨b, off + (k + 1), none⟩) hb]; exact HX.out (k + 1) hk1
          have hv := HR.out (us.getD (k + 1) 0) (by
            have := Hl.out
            rw [List.getD, List.getElem?_eq_getElem (show k + 1 < us.length by omega)]
            exact List.getElem_mem _)
          obtain ⟨y, hy⟩ : ∃ y, us.getD (k + 1) 0 = y := ⟨_, rfl⟩
          rw [hy] at c2 hv
          have Hy1 := Lib.hid hy
          clear hy
          obtain ⟨hv0, hv1⟩ := hv
          cases h2 : isLo y
          · cases h3 : isLo x
            · have HE : Hid (encU x = Lib.encodeRuneZ x) := by show encU x = _; unfold encU; rw [h1, h3]; rfl
              go_wp2_with fail
              refine (first_any _ _ (by omega) (by omega)).mono ?_; rintro e w' ⟨rfl, rfl⟩
              go_wp2_with fail
              refine (second_any _ _ (by omega) (by omega)).mono ?_; rintro e w' ⟨rfl, rfl⟩
              go_wp2_with fail
              refine (second_any _ _ (by omega) (by omega)).mono ?_; rintro e w' ⟨rfl, rfl⟩
              go_wp2_with fail
              refine (Tryd.utf8_AppendRune_plain _ _ _ _ _ (by omega) (by omega) _ hown (by omega) hbs).mono ?_
              rintro e w1 ⟨v', rfl, hown1, o, hg1⟩
              go_wp2
              have hle := Lib.encodeRuneZ_length x
              go_roundw
              case rel => exact ⟨k + 1, _, P ++ Lib.encodeRuneZ x, by omega, by go_num, own_enc hown1, below_step hown hbl hbs hg1, by omega, by rw [HT.out, H1.out, Hx1.out, HE.out, List.append_assoc]⟩
              case measure => simp [intOf]; omega
            · have HE : Hid (encU x = [237, 128 + x / 64 % 64, 128 + x % 64]) := by show encU x = _; unfold encU; rw [h1, h3]; rfl
              go_wp2_with fail
              refine (first_any _ _ (by omega) (by omega)).mono ?_; rintro e w' ⟨rfl, rfl⟩
              go_wp2_with fail
              refine (second_any _ _ (by omega) (by omega)).mono ?_; rintro e w' ⟨rfl, rfl⟩
              go_wp2_with fail
              refine (second_any _ _ (by omega) (by omega)).mono ?_; rintro e w' ⟨rfl, rfl⟩
              go_wp2_with (at_builtin; refine wpList_append_own _ rfl (.tmp 60) (.tmp 72) 32 rfl w.heap.size 5 i0 (.int .u8 0) 1 1 Tryd.underlying32 hi0 hz0 hz1 hz2 rfl (by decide) _ m _ rfl (hown.alloc _) ⟨wr.heap.size, 0, none⟩ 3 3 [.int .u8 237, .int .u8 (128 + x / 64 % 64), .int .u8 (128 + x % 64)] rfl rfl ?c1 ?c2 ?c3 ?c4 ?c5 ?_)
              case c1 =>
                intro j u hj
                match j, hj with
                | 0, hj => simp at hj; subst hj; simp [Addr.add]
                | 1, hj => simp at hj; subst hj; simp [Addr.add]
                | 2, hj => simp at hj; subst hj; simp [Addr.add]
                | (j + 3), hj => simp at hj
              case c2 => intro u hu; simp at hu; rcases hu with rfl | rfl | rfl <;> rfl
              case c3 => unfold maxLen; omega
              case c4 => omega
              case c5 => simp; omega
              intro v' w1 hown1 hgrow _
              go_wp2
              go_roundw
              case rel => exact ⟨k + 1, m + 3, P ++ encU x, by omega, by go_num, by rw [HE.out, List.map_append]; exact hown1, below_step hown hbl hbs hgrow, by omega, by rw [HT.out, H1.out, Hx1.out, List.append_assoc]⟩
              case measure => simp [intOf]; omega
          · cases h3 : isLo x
            · have HE : Hid (encU x = Lib.encodeRuneZ x) := by show encU x = _; unfold encU; rw [h1, h3]; rfl
              go_wp2_with fail
              refine (first_any _ _ (by omega) (by omega)).mono ?_; rintro e w' ⟨rfl, rfl⟩
              go_wp2_with fail
              refine (second_any _ _ (by omega) (by omega)).mono ?_; rintro e w' ⟨rfl, rfl⟩
              go_wp2_with fail
              refine (second_any _ _ (by omega) (by omega)).mono ?_; rintro e w' ⟨rfl, rfl⟩
              go_wp2_with fail
              refine (Tryd.utf8_AppendRune_plain _ _ _ _ _ (by omega) (by omega) _ hown (by omega) hbs).mono ?_
              rintro e w1 ⟨v', rfl, hown1, o, hg1⟩
              go_wp2
              have hle := Lib.encodeRuneZ_length x
              go_roundw
              case rel => exact ⟨k + 1, _, P ++ Lib.encodeRuneZ x, by omega, by go_num, own_enc hown1, below_step hown hbl hbs hg1, by omega, by rw [HT.out, H1.out, Hx1.out, HE.out, List.append_assoc]⟩
              case measure => simp [intOf]; omega
            · have HE : Hid (encU x = [237, 128 + x / 64 % 64, 128 + x % 64]) := by show encU x = _; unfold encU; rw [h1, h3]; rfl
              go_wp2_with fail
              refine (first_any _ _ (by omega) (by omega)).mono ?_; rintro e w' ⟨rfl, rfl⟩
              go_wp2_with fail
              refine (second_any _ _ (by omega) (by omega)).mono ?_; rintro e w' ⟨rfl, rfl⟩
              go_wp2_with fail
              refine (second_any _ _ (by omega) (by omega)).mono ?_; rintro e w' ⟨rfl, rfl⟩
              go_wp2_with (at_builtin; refine wpList_append_own _ rfl (.tmp 60) (.tmp 72) 32 rfl w.heap.size 5 i0 (.int .u8 0) 1 1 Tryd.underlying32 hi0 hz0 hz1 hz2 rfl (by decide) _ m _ rfl (hown.alloc _) ⟨wr.heap.size, 0, none⟩ 3 3 [.int .u8 237, .int .u8 (128 + x / 64 % 64), .int .u8 (128 + x % 64)] rfl rfl ?c1 ?c2 ?c3 ?c4 ?c5 ?_)
              case c1 =>
                intro j u hj
                match j, hj with
                | 0, hj => simp at hj; subst hj; simp [Addr.add]
                | 1, hj => simp at hj; subst hj; simp [Addr.add]
                | 2, hj => simp at hj; subst hj; simp [Addr.add]
                | (j + 3), hj => simp at hj
              case c2 => intro u hu; simp at hu; rcases hu with rfl | rfl | rfl <;> rfl
              case c3 => unfold maxLen; omega
              case c4 => omega
              case c5 => simp; omega
              intro v' w1 hown1 hgrow _
              go_wp2
              go_roundw
              case rel => exact ⟨k + 1, m + 3, P ++ encU x, by omega, by go_num, by rw [HE.out, List.map_append]; exact hown1, below_step hown hbl hbs hgrow, by omega, by rw [HT.out, H1.out, Hx1.out, List.append_assoc]⟩
              case measure => simp [intOf]; omega
        · cases h3 : isLo x
          · have HE : Hid (encU x = Lib.encodeRuneZ x) := by show encU x = _; unfold encU; rw [h1, h3]; rfl
            go_wp2_with fail
            refine (first_any _ _ (by omega) (by omega)).mono ?_; rintro e w' ⟨rfl, rfl⟩
            go_wp2_with fail
            refine (second_any _ _ (by omega) (by omega)).mono ?_; rintro e w' ⟨rfl, rfl⟩
            go_wp2_with fail
            refine (Tryd.utf8_AppendRune_plain _ _ _ _ _ (by omega) (by omega) _ hown (by omega) hbs).mono ?_
            rintro e w1 ⟨v', rfl, hown1, o, hg1⟩
            go_wp2
            have hle := Lib.encodeRuneZ_length x
            go_roundw
            case rel => exact ⟨k + 1, _, P ++ Lib.encodeRuneZ x, by omega, by go_num, own_enc hown1, below_step hown hbl hbs hg1, by omega, by rw [HT.out, H1.out, Hx1.out, HE.out, List.append_assoc]⟩
            case measure => simp [intOf]; omega
          · have HE : Hid (encU x = [237, 128 + x / 64 % 64, 128 + x % 64]) := by show encU x = _; unfold encU; rw [h1, h3]; rfl
            go_wp2_with fail
            refine (first_any _ _ (by omega) (by omega)).mono ?_; rintro e w' ⟨rfl, rfl⟩
            go_wp2_with fail
            refine (second_any _ _ (by omega) (by omega)).mono ?_; rintro e w' ⟨rfl, rfl⟩
            go_wp2_with (at_builtin; refine wpList_append_own _ rfl (.tmp 60) (.tmp 72) 32 rfl w.heap.size 5 i0 (.int .u8 0) 1 1 Tryd.underlying32 hi0 hz0 hz1 hz2 rfl (by decide) _ m _ rfl (hown.alloc _) ⟨wr.heap.size, 0, none⟩ 3 3 [.int .u8 237, .int .u8 (128 + x / 64 % 64), .int .u8 (128 + x % 64)] rfl rfl ?c1 ?c2 ?c3 ?c4 ?c5 ?_)
            case c1 =>
              intro j u hj
              match j, hj with
              | 0, hj => simp at hj; subst hj; simp [Addr.add]
              | 1, hj => simp at hj; subst hj; simp [Addr.add]
              | 2, hj => simp at hj; subst hj; simp [Addr.add]
              | (j + 3), hj => simp at hj
            case c2 => intro u hu; simp at hu; rcases hu with rfl | rfl | rfl <;> rfl
            case c3 => unfold maxLen; omega
            case c4 => omega
            case c5 => simp; omega
            intro v' w1 hown1 hgrow _
            go_wp2
            go_roundw
            case rel => exact ⟨k + 1, m + 3, P ++ encU x, by omega, by go_num, by rw [HE.out, List.map_append]; exact hown1, below_step hown hbl hbs hgrow, by omega, by rw [HT.out, H1.out, Hx1.out, List.append_assoc]⟩
            case measure => simp [intOf]; omega
      · by_cases hk1 : k + 1 < n
        · have c2 : wr.cell? ⟨b, off + (k + 1), none⟩ = some (.int .u16 (us.getD (k + 1) 0)) := by rw [hbl.cell (p := ⟨b, off + (k + 1), none⟩) hb]; exact HX.out (k + 1) hk1
          have hv := HR.out (us.getD (k + 1) 0) (by
            have := Hl.out
            rw [List.getD, List.getElem?_eq_getElem (show k + 1 < us.length by omega)]
            exact List.getElem_mem _)
          obtain ⟨y, hy⟩ : ∃ y, us.getD (k + 1) 0 = y := ⟨_, rfl⟩
          rw [hy] at c2 hv
          have Hy1 := Lib.hid hy
          clear hy
          obtain ⟨hv0, hv1⟩ := hv
          cases h2 : isLo y
          · have H1 := Lib.hid (textZ_one (us := us) (k := k) (by rw [Hl.out]; exact hlt) (by rw [Hy1.out, h2]; simp))
            have HE : Hid (encU x = [237, 128 + x / 64 % 64, 128 + x % 64]) := by show encU x = _; unfold encU; rw [h1]; rfl
            go_wp2_with fail
            refine (first_any _ _ (by omega) (by omega)).mono ?_; rintro e w' ⟨rfl, rfl⟩
            go_wp2_with fail
            refine (second_any _ _ (by omega) (by omega)).mono ?_; rintro e w' ⟨rfl, rfl⟩
            go_wp2_with fail
            refine (second_any _ _ (by omega) (by omega)).mono ?_; rintro e w' ⟨rfl, rfl⟩
            go_wp2_with (at_builtin; refine wpList_append_own _ rfl (.tmp 60) (.tmp 72) 32 rfl w.heap.size 5 i0 (.int .u8 0) 1 1 Tryd.underlying32 hi0 hz0 hz1 hz2 rfl (by decide) _ m _ rfl (hown.alloc _) ⟨wr.heap.size, 0, none⟩ 3 3 [.int .u8 237, .int .u8 (128 + x / 64 % 64), .int .u8 (128 + x % 64)] rfl rfl ?c1 ?c2 ?c3 ?c4 ?c5 ?_)
            case c1 =>
              intro j u hj
              match j, hj with
              | 0, hj => simp at hj; subst hj; simp [Addr.add]
              | 1, hj => simp at hj; subst hj; simp [Addr.add]
              | 2, hj => simp at hj; subst hj; simp [Addr.add]
              | (j + 3), hj => simp at hj
            case c2 => intro u hu; simp at hu; rcases hu with rfl | rfl | rfl <;> rfl
            case c3 => unfold maxLen; omega
            case c4 => omega
            case c5 => simp; omega
            intro v' w1 hown1 hgrow _
            go_wp2
            go_roundw
            case rel => exact ⟨k + 1, m + 3, P ++ encU x, by omega, by go_num, by rw [HE.out, List.map_append]; exact hown1, below_step hown hbl hbs hgrow, by omega, by rw [HT.out, H1.out, Hx1.out, List.append_assoc]⟩
            case measure => simp [intOf]; omega
          · have H2 := Lib.hid (textZ_pair (us := us) (k := k) (by rw [Hl.out]; exact hk1) (by rw [Hx1.out]; exact h1) (by rw [Hy1.out]; exact h2))
            go_wp2_with fail
            refine (first_any _ _ (by omega) (by omega)).mono ?_; rintro e w' ⟨rfl, rfl⟩
            go_wp2_with fail
            refine (second_any _ _ (by omega) (by omega)).mono ?_; rintro e w' ⟨rfl, rfl⟩
            go_wp2_with fail
            refine (second_any _ _ (by omega) (by omega)).mono ?_; rintro e w' ⟨rfl, rfl⟩
            go_wp2_with fail
            rw [rpair_eq x y]
            refine (Tryd.utf8_AppendRune_plain _ _ _ _ _ (pairZ_lo h1 h2) (pairZ_hi h1 h2) _ hown (by omega) hbs).mono ?_
            rintro e w1 ⟨v', rfl, hown1, o, hg1⟩
            have hle := Lib.encodeRuneZ_length (pairZ x y)
            go_wp2
            go_roundw
            case rel => exact ⟨k + 2, _, P ++ Lib.encodeRuneZ (pairZ x y), by omega, by go_num, own_enc hown1, below_step hown hbl hbs hg1, by omega, by rw [HT.out, H2.out, Hx1.out, Hy1.out, List.append_assoc]⟩
            case measure => simp [intOf]; omega
        · have H1 := Lib.hid (textZ_one (us := us) (k := k) (by rw [Hl.out]; exact hlt) (by rw [Hl.out]; intro hh; exact hk1 hh.2.1))
          have HE : Hid (encU x = [237, 128 + x / 64 % 64, 128 + x % 64]) := by show encU x = _; unfold encU; rw [h1]; rfl
          go_wp2_with fail
          refine (first_any _ _ (by omega) (by omega)).mono ?_; rintro e w' ⟨rfl, rfl⟩
          go_wp2_with fail
          refine (second_any _ _ (by omega) (by omega)).mono ?_; rintro e w' ⟨rfl, rfl⟩
          go_wp2_with (at_builtin; refine wpList_append_own _ rfl (.tmp 60) (.tmp 72) 32 rfl w.heap.size 5 i0 (.int .u8 0) 1 1 Tryd.underlying32 hi0 hz0 hz1 hz2 rfl (by decide) _ m _ rfl (hown.alloc _) ⟨wr.heap.size, 0, none⟩ 3 3 [.int .u8 237, .int .u8 (128 + x / 64 % 64), .int .u8 (128 + x % 64)] rfl rfl ?c1 ?c2 ?c3 ?c4 ?c5 ?_)
          case c1 =>
            intro j u hj
            match j, hj with
            | 0, hj => simp at hj; subst hj; simp [Addr.add]
            | 1, hj => simp at hj; subst hj; simp [Addr.add]
            | 2, hj => simp at hj; subst hj; simp [Addr.add]
            | (j + 3), hj => simp at hj
          case c2 => intro u hu; simp at hu; rcases hu with rfl | rfl | rfl <;> rfl
          case c3 => unfold maxLen; omega
          case c4 => omega
          case c5 => simp; omega
          intro v' w1 hown1 hgrow _
          go_wp2
          go_roundw
          case rel => exact ⟨k + 1, m + 3, P ++ encU x, by omega, by go_num, by rw [HE.out, List.map_append]; exact hown1, below_step hown hbl hbs hgrow, by omega, by rw [HT.out, H1.out, Hx1.out, List.append_assoc]⟩
          case measure => simp [intOf]; omega
    · have HS : Hid (textZ us = P) := by
        show textZ us = P
        have := Hl.out
        rw [HT.out, List.drop_eq_nil_of_le (by omega), textZ, List.append_nil]
      have hcv := conv_own (P := Tryd.prog) 32 9 5 Tryd.underlying32 Tryd.underlying5 Tryd.underlying9 hown
      go_wp2
      go_ret
      exact ⟨by rw [HS.out]; rfl, hbl⟩

set_option maxHeartbeats 400000 in
theorem rtext_zero (A : Option Addr) (c : Nat) (w : World) :
    Calls Tryd.prog 9 #[.slice A 0 c] w fun e w' => e = .returned (.string (strOfNums (textZ []))) ∧ Below w.heap.size w w' := by
  have hcv := conv_own (P := Tryd.prog) 32 9 5 Tryd.underlying32 Tryd.underlying5 Tryd.underlying9 (xs := []) (World.ownsRow_nil w 0 5 1)
  go_enter Tryd.func9, Tryd.ntmps9
  go_wp2
  refine wp_loop_rounds 1 ?_
  rw [rounds_succ]
  go_wp2
  go_ret
  exact ⟨by rw [textZ]; rfl, Below.refl _ _⟩

/-- The reference's Text: of any slice of units. -/
theorem rtext_any (A : Option Addr) (n c : Nat) (us : List Int) (w : World) (hn : n ≤ 1099511627776) (ha : RdU w w.heap.size A n us) (hr : ∀ u ∈ us, 0 ≤ u ∧ u ≤ 65535) :
    Calls Tryd.prog 9 #[.slice A n c] w fun e w' => e = .returned (.string (strOfNums (textZ us))) ∧ Below w.heap.size w w' := by
  rcases Nat.eq_zero_or_pos n with h0 | h0
  · subst h0
    have e1 : us = [] := List.eq_nil_of_length_eq_zero ha.1
    subst e1
    exact rtext_zero A c w
  · obtain ⟨b, off, rfl, hb, h1⟩ := ha.2 h0
    exact rtext_cells b off n c us w hn ha.1 hb hr h1
end Go.Proofs.YtmhbkilidpbenaaDoor
