/- Contracts of the reference's Cased. -/
import Derived.Test.YtmhbkilidpbenaaDoorK
import Derived.Laws.Cover4
namespace Go.Proofs.YtmhbkilidpbenaaDoor
open Go.RowKit

theorem encode_valid {r : Int} (h : Utf8.valid r = true) : bytesZ (Utf8.encode r) = Lib.encodeRuneZ r := by
  simp only [Utf8.valid, Bool.or_eq_true, Bool.and_eq_true, decide_eq_true_eq] at h
  unfold Utf8.encode
  have hv : Utf8.valid r = true := by simp only [Utf8.valid, Bool.or_eq_true, Bool.and_eq_true, decide_eq_true_eq]; exact h
  simp only [hv, if_true]
  by_cases h1 : r ≤ 127
  · rw [if_pos (by omega), Lib.encodeRuneZ_one (r := r) (by omega) h1]
    simp [bytesZ]; omega
  · rw [if_neg (by omega)]
    by_cases h2 : r ≤ 2047
    · rw [if_pos (by omega), Lib.encodeRuneZ_two (r := r) (by omega) h2]
      simp [bytesZ]; omega
    · rw [if_neg (by omega)]
      by_cases h3 : r ≤ 65535
      · rw [if_pos (by omega), Lib.encodeRuneZ_three (r := r) (by omega)]
        simp [bytesZ]; omega
      · rw [if_neg (by omega), Lib.encodeRuneZ_four (r := r) (by omega) (by omega)]
        simp [bytesZ]; omega
theorem encode_eq (r : Int) : bytesZ (Utf8.encode r) = Lib.encodeRuneZ r := by
  cases h : Utf8.valid r
  · have h' := h
    simp only [Utf8.valid, Bool.or_eq_false_iff, Bool.and_eq_false_iff, decide_eq_false_iff_not] at h'
    rw [Lib.encodeRuneZ_bad (r := r) (by omega)]
    unfold Utf8.encode
    simp only [h, Bool.false_eq_true, if_false]
    decide
  · exact encode_valid h
theorem own_reads {w : World} {B : Nat} {v : Value} {n : Nat} {us : List Int} (h : w.ownsRow B 27 1 v n (us.map (Value.int .u16))) :
    ∃ A c, v = .slice A n c ∧ Reads w w.heap.size 1 A n (us.map (Value.int .u16)) := by
  obtain ⟨A, c, hv, hr⟩ := own_slice h
  exact ⟨A, c, hv, hr.reads⟩

set_option maxHeartbeats 6400000 in
set_option maxRecDepth 100000 in
theorem casedUpper_cells (b off n c : Nat) (us : List Int) (w : World) (hn : n ≤ 16777216) (hl : us.length = n) (hb : b < w.heap.size) (hr : ∀ u ∈ us, 0 ≤ u ∧ u ≤ 65535)
    (hc : ∀ k, k < n → w.cell? ⟨b, off + k, none⟩ = some (.int .u16 (us.getD k 0))) (hT : Lib.Utf8Tabs 1 2 w) (hV : Lib.CaseVar 3 Lib.caseA w) :
    Calls Tryd.prog 10 #[.slice (some ⟨b, off, none⟩) n c, .bool true] w fun e w' => ∃ v, e = .returned v ∧ w'.ownsRow w.heap.size 27 1 v (casedZ Lib.toUpperU us).length ((casedZ Lib.toUpperU us).map (Value.int .u16)) ∧ Below w.heap.size w w' := by
  have HC := Lib.hid hc
  have HL := Lib.hid hl
  have HR := Lib.hid hr
  have h2T := Tabs.lt hT
  clear hc hl hr
  obtain ⟨i0, hi0, hz0, hz1, hz2⟩ := info_parts u16_info
  go_enter Tryd.func10, Tryd.ntmps10
  go_wp2
  go_loopw [5, 6] (fun v i wr => ∃ (k m : Nat) (P : List Int), k ≤ n ∧ i = .int .i64 k ∧ m = P.length ∧ wr.ownsRow w.heap.size 27 1 v m (P.map (Value.int .u16)) ∧ Below w.heap.size w wr ∧ m ≤ 8 * k ∧ casedZ Lib.toUpperU us = P ++ casedZ Lib.toUpperU (us.drop k)) (fun _ i _ => n - (intOf i).toNat)
  case atStart => exact ⟨0, 0, [], Nat.zero_le _, rfl, rfl, World.ownsRow_nil _ _ _ _, Below.refl _ _, by omega, by simp⟩
  case round =>
    obtain ⟨k, m, P, hk, rfl, hmp, hown, hbl, hm, ht⟩ := hrel
    have HT := Lib.hid ht
    have HM := Lib.hid hmp
    clear ht hmp
    have hbs := hbl.size
    by_cases hlt : k < n
    · have c1 : wr.cell? ⟨b, off + k, none⟩ = some (.int .u16 (us.getD k 0)) := by rw [hbl.cell (p := ⟨b, off + k, none⟩) hb]; exact HC.out k hlt
      have hu := getD_range HR.out (k := k) (by rw [HL.out]; exact hlt)
      obtain ⟨x, hx⟩ : ∃ x, us.getD k 0 = x := ⟨_, rfl⟩
      rw [hx] at c1 hu
      have Hx1 := Lib.hid hx
      clear hx
      obtain ⟨hu0, hu1⟩ := hu
      by_cases hk1 : k + 1 < n
      · have c2 : wr.cell? ⟨b, off + (k + 1), none⟩ = some (.int .u16 (us.getD (k + 1) 0)) := by rw [hbl.cell (p := ⟨b, off + (k + 1), none⟩) hb]; exact HC.out (k + 1) hk1
        have hv := getD_range HR.out (k := k + 1) (by rw [HL.out]; exact hk1)
        obtain ⟨y, hy⟩ : ∃ y, us.getD (k + 1) 0 = y := ⟨_, rfl⟩
        rw [hy] at c2 hv
        have Hy1 := Lib.hid hy
        clear hy
        obtain ⟨hv0, hv1⟩ := hv
        cases h1 : isHi x
        · by_cases hs1 : 55296 ≤ x
          · by_cases hs2 : x < 57344
            · have hsr : isSur x = true := by simp [isSur]; omega
              have HP : Hid ((if isSur (us.getD k 0) then [us.getD k 0] else caseU Lib.toUpperU (us.getD k 0)) = [x]) := by show _ = _; rw [Hx1.out, hsr]; rfl
              clear hsr
              have H1 := Lib.hid (casedZ_one Lib.toUpperU (us := us) (k := k) (by rw [HL.out]; exact hlt) (by rw [Hx1.out, h1]; simp))
              go_wp2_with (first | (go_at_call 20; refine (first_any _ _ (by omega) (by omega)).mono ?_; rintro e w' ⟨rfl, rfl⟩) | (go_at_call 21; refine (second_any _ _ (by omega) (by omega)).mono ?_; rintro e w' ⟨rfl, rfl⟩) | (at_builtin; refine wpList_append_own _ rfl (.tmp 71) (.tmp 74) 22 rfl w.heap.size 27 i0 (.int .u16 0) 1 2 Tryd.underlying22 hi0 hz0 hz1 hz2 rfl (by decide) _ m _ rfl (hown.alloc _) ⟨wr.heap.size, 0, none⟩ 1 1 [.int .u16 x] rfl rfl ?c1 ?c2 ?c3 ?c4 ?c5 ?_))
              case c1 =>
                intro j u hj
                match j, hj with
                | 0, hj => simp at hj; subst hj; simp [Addr.add]
                | (j + 1), hj => simp at hj
              case c2 => intro u hu; simp at hu; subst hu; rfl
              case c3 => unfold maxLen; omega
              case c4 => omega
              case c5 => simp; omega
              intro v' w2 hown1 hgrow hnn
              have hbl2 := below_step hown hbl hbs hgrow
              clear hnn
              go_wp2
              go_roundw
              case rel => exact ⟨k + 1, m + 1, P ++ [x], by omega, by go_num, by rw [HM.out]; simp, by rw [List.map_append]; exact hown1, hbl2, by omega, by rw [HT.out, H1.out, HP.out, List.append_assoc]⟩
              case measure => simp [intOf]; omega
            · have hsr : isSur x = false := by simp [isSur]; omega
              have HP : Hid ((if isSur (us.getD k 0) then [us.getD k 0] else caseU Lib.toUpperU (us.getD k 0)) = caseU Lib.toUpperU x) := by show _ = _; rw [Hx1.out, hsr]; rfl
              clear hsr
              have H1 := Lib.hid (casedZ_one Lib.toUpperU (us := us) (k := k) (by rw [HL.out]; exact hlt) (by rw [Hx1.out, h1]; simp))
              have hVq : Lib.CaseVar 3 Lib.caseA wr := Case.below hV hbl
              have hTq : Lib.Utf8Tabs 1 2 wr := Tabs.below hT hbl h2T
              have hfr := toUpper_range x (by omega) (by omega)
              obtain ⟨Y, hY⟩ : ∃ Y, Lib.toUpperU x = Y := ⟨_, rfl⟩
              have HY := Lib.hid hY
              have hcu : unitsZ (bytesZ (Utf8.encode Y)) = caseU Lib.toUpperU x := by rw [encode_eq, ← hY]; rfl
              have hcl := caseU_length Lib.toUpperU x
              have HCU := Lib.hid hcu
              clear hY hcu hfr
              go_wp2_with (first | (go_at_call 20; refine (first_any _ _ (by omega) (by omega)).mono ?_; rintro e w' ⟨rfl, rfl⟩) | (go_at_call 21; refine (second_any _ _ (by omega) (by omega)).mono ?_; rintro e w' ⟨rfl, rfl⟩) | (go_at_call 22; refine (Tryd.unicode_ToUpper_laid x _ hVq).mono ?_; rw [HY.out]; rintro e w2 ⟨rfl, q, rfl⟩) | (go_at_call 8; refine (runits_any (Utf8.encode Y) (wr.drewN q) hTq (by have := encode_size_le Y; omega)).mono ?_; rw [HCU.out]; rintro e w3 ⟨v3, rfl, hown3, hb3⟩; have hown0 := own_below (w := wr.drewN q) hown hb3; obtain ⟨A3, c3, hv3, hrd3⟩ := own_reads hown3; rw [hv3]; clear hv3 hown3) | (at_builtin; refine wpList_append_any _ rfl (.tmp 84) (.tmp 85) 22 rfl w.heap.size 27 i0 (.int .u16 0) 1 2 Tryd.underlying22 hi0 hz0 hz1 hz2 rfl (by omega) _ m _ rfl hown0 w3.heap.size A3 (caseU Lib.toUpperU x).length c3 ((caseU Lib.toUpperU x).map (Value.int .u16)) rfl hrd3 ?c1 ?c2 ?c3 ?c4 ?_))
              case c1 => intro u hu; obtain ⟨z, _, rfl⟩ := List.mem_map.1 hu; rfl
              case c2 => unfold maxLen; omega
              case c3 => omega
              case c4 => have := hb3.size; exact Nat.le_trans hbs this
              intro v' w4 hown4 hgrow _
              have hbl3 : Below w.heap.size w w3 := (below_drewN hbl q).trans (hb3.mono hbs)
              have hbl4 := hbl3.grown hgrow hbl3.size (fun j hj => (hown0.lt j hj).1)
              go_wp2
              go_roundw
              case rel => exact ⟨k + 1, m + (caseU Lib.toUpperU x).length, P ++ caseU Lib.toUpperU x, by omega, by go_num, by rw [HM.out, List.length_append], by rw [List.map_append]; exact hown4, hbl4, by omega, by rw [HT.out, H1.out, HP.out, List.append_assoc]⟩
              case measure => simp [intOf]; omega
          · have hsr : isSur x = false := by simp [isSur]; omega
            have HP : Hid ((if isSur (us.getD k 0) then [us.getD k 0] else caseU Lib.toUpperU (us.getD k 0)) = caseU Lib.toUpperU x) := by show _ = _; rw [Hx1.out, hsr]; rfl
            clear hsr
            have H1 := Lib.hid (casedZ_one Lib.toUpperU (us := us) (k := k) (by rw [HL.out]; exact hlt) (by rw [Hx1.out, h1]; simp))
            have hVq : Lib.CaseVar 3 Lib.caseA wr := Case.below hV hbl
            have hTq : Lib.Utf8Tabs 1 2 wr := Tabs.below hT hbl h2T
            have hfr := toUpper_range x (by omega) (by omega)
            obtain ⟨Y, hY⟩ : ∃ Y, Lib.toUpperU x = Y := ⟨_, rfl⟩
            have HY := Lib.hid hY
            have hcu : unitsZ (bytesZ (Utf8.encode Y)) = caseU Lib.toUpperU x := by rw [encode_eq, ← hY]; rfl
            have hcl := caseU_length Lib.toUpperU x
            have HCU := Lib.hid hcu
            clear hY hcu hfr
            go_wp2_with (first | (go_at_call 20; refine (first_any _ _ (by omega) (by omega)).mono ?_; rintro e w' ⟨rfl, rfl⟩) | (go_at_call 21; refine (second_any _ _ (by omega) (by omega)).mono ?_; rintro e w' ⟨rfl, rfl⟩) | (go_at_call 22; refine (Tryd.unicode_ToUpper_laid x _ hVq).mono ?_; rw [HY.out]; rintro e w2 ⟨rfl, q, rfl⟩) | (go_at_call 8; refine (runits_any (Utf8.encode Y) (wr.drewN q) hTq (by have := encode_size_le Y; omega)).mono ?_; rw [HCU.out]; rintro e w3 ⟨v3, rfl, hown3, hb3⟩; have hown0 := own_below (w := wr.drewN q) hown hb3; obtain ⟨A3, c3, hv3, hrd3⟩ := own_reads hown3; rw [hv3]; clear hv3 hown3) | (at_builtin; refine wpList_append_any _ rfl (.tmp 84) (.tmp 85) 22 rfl w.heap.size 27 i0 (.int .u16 0) 1 2 Tryd.underlying22 hi0 hz0 hz1 hz2 rfl (by omega) _ m _ rfl hown0 w3.heap.size A3 (caseU Lib.toUpperU x).length c3 ((caseU Lib.toUpperU x).map (Value.int .u16)) rfl hrd3 ?c1 ?c2 ?c3 ?c4 ?_))
            case c1 => intro u hu; obtain ⟨z, _, rfl⟩ := List.mem_map.1 hu; rfl
            case c2 => unfold maxLen; omega
            case c3 => omega
            case c4 => have := hb3.size; exact Nat.le_trans hbs this
            intro v' w4 hown4 hgrow _
            have hbl3 : Below w.heap.size w w3 := (below_drewN hbl q).trans (hb3.mono hbs)
            have hbl4 := hbl3.grown hgrow hbl3.size (fun j hj => (hown0.lt j hj).1)
            go_wp2
            go_roundw
            case rel => exact ⟨k + 1, m + (caseU Lib.toUpperU x).length, P ++ caseU Lib.toUpperU x, by omega, by go_num, by rw [HM.out, List.length_append], by rw [List.map_append]; exact hown4, hbl4, by omega, by rw [HT.out, H1.out, HP.out, List.append_assoc]⟩
            case measure => simp [intOf]; omega
        · cases h2 : isLo y
          · by_cases hs1 : 55296 ≤ x
            · by_cases hs2 : x < 57344
              · have hsr : isSur x = true := by simp [isSur]; omega
                have HP : Hid ((if isSur (us.getD k 0) then [us.getD k 0] else caseU Lib.toUpperU (us.getD k 0)) = [x]) := by show _ = _; rw [Hx1.out, hsr]; rfl
                clear hsr
                have H1 := Lib.hid (casedZ_one Lib.toUpperU (us := us) (k := k) (by rw [HL.out]; exact hlt) (by rw [Hy1.out, h2]; simp))
                go_wp2_with (first | (go_at_call 20; refine (first_any _ _ (by omega) (by omega)).mono ?_; rintro e w' ⟨rfl, rfl⟩) | (go_at_call 21; refine (second_any _ _ (by omega) (by omega)).mono ?_; rintro e w' ⟨rfl, rfl⟩) | (at_builtin; refine wpList_append_own _ rfl (.tmp 71) (.tmp 74) 22 rfl w.heap.size 27 i0 (.int .u16 0) 1 2 Tryd.underlying22 hi0 hz0 hz1 hz2 rfl (by decide) _ m _ rfl (hown.alloc _) ⟨wr.heap.size, 0, none⟩ 1 1 [.int .u16 x] rfl rfl ?c1 ?c2 ?c3 ?c4 ?c5 ?_))
                case c1 =>
                  intro j u hj
                  match j, hj with
                  | 0, hj => simp at hj; subst hj; simp [Addr.add]
                  | (j + 1), hj => simp at hj
                case c2 => intro u hu; simp at hu; subst hu; rfl
                case c3 => unfold maxLen; omega
                case c4 => omega
                case c5 => simp; omega
                intro v' w2 hown1 hgrow hnn
                have hbl2 := below_step hown hbl hbs hgrow
                clear hnn
                go_wp2
                go_roundw
                case rel => exact ⟨k + 1, m + 1, P ++ [x], by omega, by go_num, by rw [HM.out]; simp, by rw [List.map_append]; exact hown1, hbl2, by omega, by rw [HT.out, H1.out, HP.out, List.append_assoc]⟩
                case measure => simp [intOf]; omega
              · have hsr : isSur x = false := by simp [isSur]; omega
                have HP : Hid ((if isSur (us.getD k 0) then [us.getD k 0] else caseU Lib.toUpperU (us.getD k 0)) = caseU Lib.toUpperU x) := by show _ = _; rw [Hx1.out, hsr]; rfl
                clear hsr
                have H1 := Lib.hid (casedZ_one Lib.toUpperU (us := us) (k := k) (by rw [HL.out]; exact hlt) (by rw [Hy1.out, h2]; simp))
                have hVq : Lib.CaseVar 3 Lib.caseA wr := Case.below hV hbl
                have hTq : Lib.Utf8Tabs 1 2 wr := Tabs.below hT hbl h2T
                have hfr := toUpper_range x (by omega) (by omega)
                obtain ⟨Y, hY⟩ : ∃ Y, Lib.toUpperU x = Y := ⟨_, rfl⟩
                have HY := Lib.hid hY
                have hcu : unitsZ (bytesZ (Utf8.encode Y)) = caseU Lib.toUpperU x := by rw [encode_eq, ← hY]; rfl
                have hcl := caseU_length Lib.toUpperU x
                have HCU := Lib.hid hcu
                clear hY hcu hfr
                go_wp2_with (first | (go_at_call 20; refine (first_any _ _ (by omega) (by omega)).mono ?_; rintro e w' ⟨rfl, rfl⟩) | (go_at_call 21; refine (second_any _ _ (by omega) (by omega)).mono ?_; rintro e w' ⟨rfl, rfl⟩) | (go_at_call 22; refine (Tryd.unicode_ToUpper_laid x _ hVq).mono ?_; rw [HY.out]; rintro e w2 ⟨rfl, q, rfl⟩) | (go_at_call 8; refine (runits_any (Utf8.encode Y) (wr.drewN q) hTq (by have := encode_size_le Y; omega)).mono ?_; rw [HCU.out]; rintro e w3 ⟨v3, rfl, hown3, hb3⟩; have hown0 := own_below (w := wr.drewN q) hown hb3; obtain ⟨A3, c3, hv3, hrd3⟩ := own_reads hown3; rw [hv3]; clear hv3 hown3) | (at_builtin; refine wpList_append_any _ rfl (.tmp 84) (.tmp 85) 22 rfl w.heap.size 27 i0 (.int .u16 0) 1 2 Tryd.underlying22 hi0 hz0 hz1 hz2 rfl (by omega) _ m _ rfl hown0 w3.heap.size A3 (caseU Lib.toUpperU x).length c3 ((caseU Lib.toUpperU x).map (Value.int .u16)) rfl hrd3 ?c1 ?c2 ?c3 ?c4 ?_))
                case c1 => intro u hu; obtain ⟨z, _, rfl⟩ := List.mem_map.1 hu; rfl
                case c2 => unfold maxLen; omega
                case c3 => omega
                case c4 => have := hb3.size; exact Nat.le_trans hbs this
                intro v' w4 hown4 hgrow _
                have hbl3 : Below w.heap.size w w3 := (below_drewN hbl q).trans (hb3.mono hbs)
                have hbl4 := hbl3.grown hgrow hbl3.size (fun j hj => (hown0.lt j hj).1)
                go_wp2
                go_roundw
                case rel => exact ⟨k + 1, m + (caseU Lib.toUpperU x).length, P ++ caseU Lib.toUpperU x, by omega, by go_num, by rw [HM.out, List.length_append], by rw [List.map_append]; exact hown4, hbl4, by omega, by rw [HT.out, H1.out, HP.out, List.append_assoc]⟩
                case measure => simp [intOf]; omega
            · have hsr : isSur x = false := by simp [isSur]; omega
              have HP : Hid ((if isSur (us.getD k 0) then [us.getD k 0] else caseU Lib.toUpperU (us.getD k 0)) = caseU Lib.toUpperU x) := by show _ = _; rw [Hx1.out, hsr]; rfl
              clear hsr
              have H1 := Lib.hid (casedZ_one Lib.toUpperU (us := us) (k := k) (by rw [HL.out]; exact hlt) (by rw [Hy1.out, h2]; simp))
              have hVq : Lib.CaseVar 3 Lib.caseA wr := Case.below hV hbl
              have hTq : Lib.Utf8Tabs 1 2 wr := Tabs.below hT hbl h2T
              have hfr := toUpper_range x (by omega) (by omega)
              obtain ⟨Y, hY⟩ : ∃ Y, Lib.toUpperU x = Y := ⟨_, rfl⟩
              have HY := Lib.hid hY
              have hcu : unitsZ (bytesZ (Utf8.encode Y)) = caseU Lib.toUpperU x := by rw [encode_eq, ← hY]; rfl
              have hcl := caseU_length Lib.toUpperU x
              have HCU := Lib.hid hcu
              clear hY hcu hfr
              go_wp2_with (first | (go_at_call 20; refine (first_any _ _ (by omega) (by omega)).mono ?_; rintro e w' ⟨rfl, rfl⟩) | (go_at_call 21; refine (second_any _ _ (by omega) (by omega)).mono ?_; rintro e w' ⟨rfl, rfl⟩) | (go_at_call 22; refine (Tryd.unicode_ToUpper_laid x _ hVq).mono ?_; rw [HY.out]; rintro e w2 ⟨rfl, q, rfl⟩) | (go_at_call 8; refine (runits_any (Utf8.encode Y) (wr.drewN q) hTq (by have := encode_size_le Y; omega)).mono ?_; rw [HCU.out]; rintro e w3 ⟨v3, rfl, hown3, hb3⟩; have hown0 := own_below (w := wr.drewN q) hown hb3; obtain ⟨A3, c3, hv3, hrd3⟩ := own_reads hown3; rw [hv3]; clear hv3 hown3) | (at_builtin; refine wpList_append_any _ rfl (.tmp 84) (.tmp 85) 22 rfl w.heap.size 27 i0 (.int .u16 0) 1 2 Tryd.underlying22 hi0 hz0 hz1 hz2 rfl (by omega) _ m _ rfl hown0 w3.heap.size A3 (caseU Lib.toUpperU x).length c3 ((caseU Lib.toUpperU x).map (Value.int .u16)) rfl hrd3 ?c1 ?c2 ?c3 ?c4 ?_))
              case c1 => intro u hu; obtain ⟨z, _, rfl⟩ := List.mem_map.1 hu; rfl
              case c2 => unfold maxLen; omega
              case c3 => omega
              case c4 => have := hb3.size; exact Nat.le_trans hbs this
              intro v' w4 hown4 hgrow _
              have hbl3 : Below w.heap.size w w3 := (below_drewN hbl q).trans (hb3.mono hbs)
              have hbl4 := hbl3.grown hgrow hbl3.size (fun j hj => (hown0.lt j hj).1)
              go_wp2
              go_roundw
              case rel => exact ⟨k + 1, m + (caseU Lib.toUpperU x).length, P ++ caseU Lib.toUpperU x, by omega, by go_num, by rw [HM.out, List.length_append], by rw [List.map_append]; exact hown4, hbl4, by omega, by rw [HT.out, H1.out, HP.out, List.append_assoc]⟩
              case measure => simp [intOf]; omega
          · have H1 := Lib.hid (casedZ_pair Lib.toUpperU (us := us) (k := k) (by rw [HL.out]; exact hk1) (by rw [Hx1.out]; exact h1) (by rw [Hy1.out]; exact h2))
            have hpl : 65536 ≤ pairZ x y := by simp only [isHi, isLo, decide_eq_true_eq] at h1 h2; unfold pairZ; omega
            have hph : pairZ x y ≤ 1114111 := by simp only [isHi, isLo, decide_eq_true_eq] at h1 h2; unfold pairZ; omega
            have HP : Hid (caseU Lib.toUpperU (pairZ (us.getD k 0) (us.getD (k + 1) 0)) = caseU Lib.toUpperU (pairZ x y)) := by show _ = _; rw [Hx1.out, Hy1.out]
            go_wp2_with (first | (go_at_call 20; refine (first_any _ _ (by omega) (by omega)).mono ?_; rintro e w' ⟨rfl, rfl⟩) | (go_at_call 21; refine (second_any _ _ (by omega) (by omega)).mono ?_; rintro e w' ⟨rfl, rfl⟩))
            go_quiet (fail)
            rw [rpair_eq x y]
            have hVq : Lib.CaseVar 3 Lib.caseA (wr.drewN nq) := Case.below hV (below_drewN hbl nq)
            have hTq : Lib.Utf8Tabs 1 2 (wr.drewN nq) := Tabs.below hT (below_drewN hbl nq) h2T
            have hfr := toUpper_range (pairZ x y) (by omega) (by omega)
            obtain ⟨Y, hY⟩ : ∃ Y, Lib.toUpperU (pairZ x y) = Y := ⟨_, rfl⟩
            have HY := Lib.hid hY
            have hcu : unitsZ (bytesZ (Utf8.encode Y)) = caseU Lib.toUpperU (pairZ x y) := by rw [encode_eq, ← hY]; rfl
            have hcl := caseU_length Lib.toUpperU (pairZ x y)
            have HCU := Lib.hid hcu
            clear hY hcu hfr
            go_wp2_with (first | (go_at_call 22; refine (Tryd.unicode_ToUpper_laid (pairZ x y) _ hVq).mono ?_; rw [HY.out]; rintro e w2 ⟨rfl, q, rfl⟩) | (go_at_call 8; refine (runits_any (Utf8.encode Y) (wr.drewN (nq + q)) hTq (by have := encode_size_le Y; omega)).mono ?_; rw [HCU.out]; rintro e w3 ⟨v3, rfl, hown3, hb3⟩; have hown0 := own_below (w := wr.drewN (nq + q)) hown hb3; obtain ⟨A3, c3, hv3, hrd3⟩ := own_reads hown3; rw [hv3]; clear hv3 hown3) | (at_builtin; refine wpList_append_any _ rfl (.tmp 84) (.tmp 85) 22 rfl w.heap.size 27 i0 (.int .u16 0) 1 2 Tryd.underlying22 hi0 hz0 hz1 hz2 rfl (by omega) _ m _ rfl hown0 w3.heap.size A3 (caseU Lib.toUpperU (pairZ x y)).length c3 ((caseU Lib.toUpperU (pairZ x y)).map (Value.int .u16)) rfl hrd3 ?c1 ?c2 ?c3 ?c4 ?_))
            case c1 => intro u hu; obtain ⟨z, _, rfl⟩ := List.mem_map.1 hu; rfl
            case c2 => unfold maxLen; omega
            case c3 => omega
            case c4 => have := hb3.size; exact Nat.le_trans hbs this
            intro v' w4 hown4 hgrow _
            have hbl3 : Below w.heap.size w w3 := (below_drewN hbl (nq + q)).trans (hb3.mono hbs)
            have hbl4 := hbl3.grown hgrow hbl3.size (fun j hj => (hown0.lt j hj).1)
            go_wp2
            go_roundw
            case rel => exact ⟨k + 2, m + (caseU Lib.toUpperU (pairZ x y)).length, P ++ caseU Lib.toUpperU (pairZ x y), by omega, by go_num, by rw [HM.out, List.length_append], by rw [List.map_append]; exact hown4, hbl4, by omega, by rw [HT.out, H1.out, HP.out, List.append_assoc]⟩
            case measure => simp [intOf]; omega
      · by_cases hs1 : 55296 ≤ x
        · by_cases hs2 : x < 57344
          · have hsr : isSur x = true := by simp [isSur]; omega
            have HP : Hid ((if isSur (us.getD k 0) then [us.getD k 0] else caseU Lib.toUpperU (us.getD k 0)) = [x]) := by show _ = _; rw [Hx1.out, hsr]; rfl
            clear hsr
            have H1 := Lib.hid (casedZ_one Lib.toUpperU (us := us) (k := k) (by rw [HL.out]; exact hlt) (by rw [HL.out]; intro hh; exact hk1 hh.2.1))
            go_wp2_with (first | (go_at_call 20; refine (first_any _ _ (by omega) (by omega)).mono ?_; rintro e w' ⟨rfl, rfl⟩) | (go_at_call 21; refine (second_any _ _ (by omega) (by omega)).mono ?_; rintro e w' ⟨rfl, rfl⟩) | (at_builtin; refine wpList_append_own _ rfl (.tmp 71) (.tmp 74) 22 rfl w.heap.size 27 i0 (.int .u16 0) 1 2 Tryd.underlying22 hi0 hz0 hz1 hz2 rfl (by decide) _ m _ rfl (hown.alloc _) ⟨wr.heap.size, 0, none⟩ 1 1 [.int .u16 x] rfl rfl ?c1 ?c2 ?c3 ?c4 ?c5 ?_))
            case c1 =>
              intro j u hj
              match j, hj with
              | 0, hj => simp at hj; subst hj; simp [Addr.add]
              | (j + 1), hj => simp at hj
            case c2 => intro u hu; simp at hu; subst hu; rfl
            case c3 => unfold maxLen; omega
            case c4 => omega
            case c5 => simp; omega
            intro v' w2 hown1 hgrow hnn
            have hbl2 := below_step hown hbl hbs hgrow
            clear hnn
            go_wp2
            go_roundw
            case rel => exact ⟨k + 1, m + 1, P ++ [x], by omega, by go_num, by rw [HM.out]; simp, by rw [List.map_append]; exact hown1, hbl2, by omega, by rw [HT.out, H1.out, HP.out, List.append_assoc]⟩
            case measure => simp [intOf]; omega
          · have hsr : isSur x = false := by simp [isSur]; omega
            have HP : Hid ((if isSur (us.getD k 0) then [us.getD k 0] else caseU Lib.toUpperU (us.getD k 0)) = caseU Lib.toUpperU x) := by show _ = _; rw [Hx1.out, hsr]; rfl
            clear hsr
            have H1 := Lib.hid (casedZ_one Lib.toUpperU (us := us) (k := k) (by rw [HL.out]; exact hlt) (by rw [HL.out]; intro hh; exact hk1 hh.2.1))
            have hVq : Lib.CaseVar 3 Lib.caseA wr := Case.below hV hbl
            have hTq : Lib.Utf8Tabs 1 2 wr := Tabs.below hT hbl h2T
            have hfr := toUpper_range x (by omega) (by omega)
            obtain ⟨Y, hY⟩ : ∃ Y, Lib.toUpperU x = Y := ⟨_, rfl⟩
            have HY := Lib.hid hY
            have hcu : unitsZ (bytesZ (Utf8.encode Y)) = caseU Lib.toUpperU x := by rw [encode_eq, ← hY]; rfl
            have hcl := caseU_length Lib.toUpperU x
            have HCU := Lib.hid hcu
            clear hY hcu hfr
            go_wp2_with (first | (go_at_call 20; refine (first_any _ _ (by omega) (by omega)).mono ?_; rintro e w' ⟨rfl, rfl⟩) | (go_at_call 21; refine (second_any _ _ (by omega) (by omega)).mono ?_; rintro e w' ⟨rfl, rfl⟩) | (go_at_call 22; refine (Tryd.unicode_ToUpper_laid x _ hVq).mono ?_; rw [HY.out]; rintro e w2 ⟨rfl, q, rfl⟩) | (go_at_call 8; refine (runits_any (Utf8.encode Y) (wr.drewN q) hTq (by have := encode_size_le Y; omega)).mono ?_; rw [HCU.out]; rintro e w3 ⟨v3, rfl, hown3, hb3⟩; have hown0 := own_below (w := wr.drewN q) hown hb3; obtain ⟨A3, c3, hv3, hrd3⟩ := own_reads hown3; rw [hv3]; clear hv3 hown3) | (at_builtin; refine wpList_append_any _ rfl (.tmp 84) (.tmp 85) 22 rfl w.heap.size 27 i0 (.int .u16 0) 1 2 Tryd.underlying22 hi0 hz0 hz1 hz2 rfl (by omega) _ m _ rfl hown0 w3.heap.size A3 (caseU Lib.toUpperU x).length c3 ((caseU Lib.toUpperU x).map (Value.int .u16)) rfl hrd3 ?c1 ?c2 ?c3 ?c4 ?_))
            case c1 => intro u hu; obtain ⟨z, _, rfl⟩ := List.mem_map.1 hu; rfl
            case c2 => unfold maxLen; omega
            case c3 => omega
            case c4 => have := hb3.size; exact Nat.le_trans hbs this
            intro v' w4 hown4 hgrow _
            have hbl3 : Below w.heap.size w w3 := (below_drewN hbl q).trans (hb3.mono hbs)
            have hbl4 := hbl3.grown hgrow hbl3.size (fun j hj => (hown0.lt j hj).1)
            go_wp2
            go_roundw
            case rel => exact ⟨k + 1, m + (caseU Lib.toUpperU x).length, P ++ caseU Lib.toUpperU x, by omega, by go_num, by rw [HM.out, List.length_append], by rw [List.map_append]; exact hown4, hbl4, by omega, by rw [HT.out, H1.out, HP.out, List.append_assoc]⟩
            case measure => simp [intOf]; omega
        · have hsr : isSur x = false := by simp [isSur]; omega
          have HP : Hid ((if isSur (us.getD k 0) then [us.getD k 0] else caseU Lib.toUpperU (us.getD k 0)) = caseU Lib.toUpperU x) := by show _ = _; rw [Hx1.out, hsr]; rfl
          clear hsr
          have H1 := Lib.hid (casedZ_one Lib.toUpperU (us := us) (k := k) (by rw [HL.out]; exact hlt) (by rw [HL.out]; intro hh; exact hk1 hh.2.1))
          have hVq : Lib.CaseVar 3 Lib.caseA wr := Case.below hV hbl
          have hTq : Lib.Utf8Tabs 1 2 wr := Tabs.below hT hbl h2T
          have hfr := toUpper_range x (by omega) (by omega)
          obtain ⟨Y, hY⟩ : ∃ Y, Lib.toUpperU x = Y := ⟨_, rfl⟩
          have HY := Lib.hid hY
          have hcu : unitsZ (bytesZ (Utf8.encode Y)) = caseU Lib.toUpperU x := by rw [encode_eq, ← hY]; rfl
          have hcl := caseU_length Lib.toUpperU x
          have HCU := Lib.hid hcu
          clear hY hcu hfr
          go_wp2_with (first | (go_at_call 20; refine (first_any _ _ (by omega) (by omega)).mono ?_; rintro e w' ⟨rfl, rfl⟩) | (go_at_call 21; refine (second_any _ _ (by omega) (by omega)).mono ?_; rintro e w' ⟨rfl, rfl⟩) | (go_at_call 22; refine (Tryd.unicode_ToUpper_laid x _ hVq).mono ?_; rw [HY.out]; rintro e w2 ⟨rfl, q, rfl⟩) | (go_at_call 8; refine (runits_any (Utf8.encode Y) (wr.drewN q) hTq (by have := encode_size_le Y; omega)).mono ?_; rw [HCU.out]; rintro e w3 ⟨v3, rfl, hown3, hb3⟩; have hown0 := own_below (w := wr.drewN q) hown hb3; obtain ⟨A3, c3, hv3, hrd3⟩ := own_reads hown3; rw [hv3]; clear hv3 hown3) | (at_builtin; refine wpList_append_any _ rfl (.tmp 84) (.tmp 85) 22 rfl w.heap.size 27 i0 (.int .u16 0) 1 2 Tryd.underlying22 hi0 hz0 hz1 hz2 rfl (by omega) _ m _ rfl hown0 w3.heap.size A3 (caseU Lib.toUpperU x).length c3 ((caseU Lib.toUpperU x).map (Value.int .u16)) rfl hrd3 ?c1 ?c2 ?c3 ?c4 ?_))
          case c1 => intro u hu; obtain ⟨z, _, rfl⟩ := List.mem_map.1 hu; rfl
          case c2 => unfold maxLen; omega
          case c3 => omega
          case c4 => have := hb3.size; exact Nat.le_trans hbs this
          intro v' w4 hown4 hgrow _
          have hbl3 : Below w.heap.size w w3 := (below_drewN hbl q).trans (hb3.mono hbs)
          have hbl4 := hbl3.grown hgrow hbl3.size (fun j hj => (hown0.lt j hj).1)
          go_wp2
          go_roundw
          case rel => exact ⟨k + 1, m + (caseU Lib.toUpperU x).length, P ++ caseU Lib.toUpperU x, by omega, by go_num, by rw [HM.out, List.length_append], by rw [List.map_append]; exact hown4, hbl4, by omega, by rw [HT.out, H1.out, HP.out, List.append_assoc]⟩
          case measure => simp [intOf]; omega
    · have HE : Hid (casedZ Lib.toUpperU us = P) := by
        show casedZ Lib.toUpperU us = P
        rw [HT.out, List.drop_eq_nil_of_le (by rw [HL.out]; omega), casedZ, List.append_nil]
      go_wp2
      go_ret
      exact ⟨_, rfl, by rw [HE.out, ← HM.out]; exact hown, hbl⟩

set_option maxHeartbeats 6400000 in
set_option maxRecDepth 100000 in
theorem casedLower_cells (b off n c : Nat) (us : List Int) (w : World) (hn : n ≤ 16777216) (hl : us.length = n) (hb : b < w.heap.size) (hr : ∀ u ∈ us, 0 ≤ u ∧ u ≤ 65535)
    (hc : ∀ k, k < n → w.cell? ⟨b, off + k, none⟩ = some (.int .u16 (us.getD k 0))) (hT : Lib.Utf8Tabs 1 2 w) (hV : Lib.CaseVar 3 Lib.caseA w) :
    Calls Tryd.prog 10 #[.slice (some ⟨b, off, none⟩) n c, .bool false] w fun e w' => ∃ v, e = .returned v ∧ w'.ownsRow w.heap.size 27 1 v (casedZ Lib.toLowerU us).length ((casedZ Lib.toLowerU us).map (Value.int .u16)) ∧ Below w.heap.size w w' := by
  have HC := Lib.hid hc
  have HL := Lib.hid hl
  have HR := Lib.hid hr
  have h2T := Tabs.lt hT
  clear hc hl hr
  obtain ⟨i0, hi0, hz0, hz1, hz2⟩ := info_parts u16_info
  go_enter Tryd.func10, Tryd.ntmps10
  go_wp2
  go_loopw [5, 6] (fun v i wr => ∃ (k m : Nat) (P : List Int), k ≤ n ∧ i = .int .i64 k ∧ m = P.length ∧ wr.ownsRow w.heap.size 27 1 v m (P.map (Value.int .u16)) ∧ Below w.heap.size w wr ∧ m ≤ 8 * k ∧ casedZ Lib.toLowerU us = P ++ casedZ Lib.toLowerU (us.drop k)) (fun _ i _ => n - (intOf i).toNat)
  case atStart => exact ⟨0, 0, [], Nat.zero_le _, rfl, rfl, World.ownsRow_nil _ _ _ _, Below.refl _ _, by omega, by simp⟩
  case round =>
    obtain ⟨k, m, P, hk, rfl, hmp, hown, hbl, hm, ht⟩ := hrel
    have HT := Lib.hid ht
    have HM := Lib.hid hmp
    clear ht hmp
    have hbs := hbl.size
    by_cases hlt : k < n
    · have c1 : wr.cell? ⟨b, off + k, none⟩ = some (.int .u16 (us.getD k 0)) := by rw [hbl.cell (p := ⟨b, off + k, none⟩) hb]; exact HC.out k hlt
      have hu := getD_range HR.out (k := k) (by rw [HL.out]; exact hlt)
      obtain ⟨x, hx⟩ : ∃ x, us.getD k 0 = x := ⟨_, rfl⟩
      rw [hx] at c1 hu
      have Hx1 := Lib.hid hx
      clear hx
      obtain ⟨hu0, hu1⟩ := hu
      by_cases hk1 : k + 1 < n
      · have c2 : wr.cell? ⟨b, off + (k + 1), none⟩ = some (.int .u16 (us.getD (k + 1) 0)) := by rw [hbl.cell (p := ⟨b, off + (k + 1), none⟩) hb]; exact HC.out (k + 1) hk1
        have hv := getD_range HR.out (k := k + 1) (by rw [HL.out]; exact hk1)
        obtain ⟨y, hy⟩ : ∃ y, us.getD (k + 1) 0 = y := ⟨_, rfl⟩
        rw [hy] at c2 hv
        have Hy1 := Lib.hid hy
        clear hy
        obtain ⟨hv0, hv1⟩ := hv
        cases h1 : isHi x
        · by_cases hs1 : 55296 ≤ x
          · by_cases hs2 : x < 57344
            · have hsr : isSur x = true := by simp [isSur]; omega
              have HP : Hid ((if isSur (us.getD k 0) then [us.getD k 0] else caseU Lib.toLowerU (us.getD k 0)) = [x]) := by show _ = _; rw [Hx1.out, hsr]; rfl
              clear hsr
              have H1 := Lib.hid (casedZ_one Lib.toLowerU (us := us) (k := k) (by rw [HL.out]; exact hlt) (by rw [Hx1.out, h1]; simp))
              go_wp2_with (first | (go_at_call 20; refine (first_any _ _ (by omega) (by omega)).mono ?_; rintro e w' ⟨rfl, rfl⟩) | (go_at_call 21; refine (second_any _ _ (by omega) (by omega)).mono ?_; rintro e w' ⟨rfl, rfl⟩) | (at_builtin; refine wpList_append_own _ rfl (.tmp 71) (.tmp 74) 22 rfl w.heap.size 27 i0 (.int .u16 0) 1 2 Tryd.underlying22 hi0 hz0 hz1 hz2 rfl (by decide) _ m _ rfl (hown.alloc _) ⟨wr.heap.size, 0, none⟩ 1 1 [.int .u16 x] rfl rfl ?c1 ?c2 ?c3 ?c4 ?c5 ?_))
              case c1 =>
                intro j u hj
                match j, hj with
                | 0, hj => simp at hj; subst hj; simp [Addr.add]
                | (j + 1), hj => simp at hj
              case c2 => intro u hu; simp at hu; subst hu; rfl
              case c3 => unfold maxLen; omega
              case c4 => omega
              case c5 => simp; omega
              intro v' w2 hown1 hgrow hnn
              have hbl2 := below_step hown hbl hbs hgrow
              clear hnn
              go_wp2
              go_roundw
              case rel => exact ⟨k + 1, m + 1, P ++ [x], by omega, by go_num, by rw [HM.out]; simp, by rw [List.map_append]; exact hown1, hbl2, by omega, by rw [HT.out, H1.out, HP.out, List.append_assoc]⟩
              case measure => simp [intOf]; omega
            · have hsr : isSur x = false := by simp [isSur]; omega
              have HP : Hid ((if isSur (us.getD k 0) then [us.getD k 0] else caseU Lib.toLowerU (us.getD k 0)) = caseU Lib.toLowerU x) := by show _ = _; rw [Hx1.out, hsr]; rfl
              clear hsr
              have H1 := Lib.hid (casedZ_one Lib.toLowerU (us := us) (k := k) (by rw [HL.out]; exact hlt) (by rw [Hx1.out, h1]; simp))
              have hVq : Lib.CaseVar 3 Lib.caseA wr := Case.below hV hbl
              have hTq : Lib.Utf8Tabs 1 2 wr := Tabs.below hT hbl h2T
              have hfr := toLower_range x (by omega) (by omega)
              obtain ⟨Y, hY⟩ : ∃ Y, Lib.toLowerU x = Y := ⟨_, rfl⟩
              have HY := Lib.hid hY
              have hcu : unitsZ (bytesZ (Utf8.encode Y)) = caseU Lib.toLowerU x := by rw [encode_eq, ← hY]; rfl
              have hcl := caseU_length Lib.toLowerU x
              have HCU := Lib.hid hcu
              clear hY hcu hfr
              go_wp2_with (first | (go_at_call 20; refine (first_any _ _ (by omega) (by omega)).mono ?_; rintro e w' ⟨rfl, rfl⟩) | (go_at_call 21; refine (second_any _ _ (by omega) (by omega)).mono ?_; rintro e w' ⟨rfl, rfl⟩) | (go_at_call 23; refine (Tryd.unicode_ToLower_laid x _ hVq).mono ?_; rw [HY.out]; rintro e w2 ⟨rfl, q, rfl⟩) | (go_at_call 8; refine (runits_any (Utf8.encode Y) (wr.drewN q) hTq (by have := encode_size_le Y; omega)).mono ?_; rw [HCU.out]; rintro e w3 ⟨v3, rfl, hown3, hb3⟩; have hown0 := own_below (w := wr.drewN q) hown hb3; obtain ⟨A3, c3, hv3, hrd3⟩ := own_reads hown3; rw [hv3]; clear hv3 hown3) | (at_builtin; refine wpList_append_any _ rfl (.tmp 84) (.tmp 85) 22 rfl w.heap.size 27 i0 (.int .u16 0) 1 2 Tryd.underlying22 hi0 hz0 hz1 hz2 rfl (by omega) _ m _ rfl hown0 w3.heap.size A3 (caseU Lib.toLowerU x).length c3 ((caseU Lib.toLowerU x).map (Value.int .u16)) rfl hrd3 ?c1 ?c2 ?c3 ?c4 ?_))
              case c1 => intro u hu; obtain ⟨z, _, rfl⟩ := List.mem_map.1 hu; rfl
              case c2 => unfold maxLen; omega
              case c3 => omega
              case c4 => have := hb3.size; exact Nat.le_trans hbs this
              intro v' w4 hown4 hgrow _
              have hbl3 : Below w.heap.size w w3 := (below_drewN hbl q).trans (hb3.mono hbs)
              have hbl4 := hbl3.grown hgrow hbl3.size (fun j hj => (hown0.lt j hj).1)
              go_wp2
              go_roundw
              case rel => exact ⟨k + 1, m + (caseU Lib.toLowerU x).length, P ++ caseU Lib.toLowerU x, by omega, by go_num, by rw [HM.out, List.length_append], by rw [List.map_append]; exact hown4, hbl4, by omega, by rw [HT.out, H1.out, HP.out, List.append_assoc]⟩
              case measure => simp [intOf]; omega
          · have hsr : isSur x = false := by simp [isSur]; omega
            have HP : Hid ((if isSur (us.getD k 0) then [us.getD k 0] else caseU Lib.toLowerU (us.getD k 0)) = caseU Lib.toLowerU x) := by show _ = _; rw [Hx1.out, hsr]; rfl
            clear hsr
            have H1 := Lib.hid (casedZ_one Lib.toLowerU (us := us) (k := k) (by rw [HL.out]; exact hlt) (by rw [Hx1.out, h1]; simp))
            have hVq : Lib.CaseVar 3 Lib.caseA wr := Case.below hV hbl
            have hTq : Lib.Utf8Tabs 1 2 wr := Tabs.below hT hbl h2T
            have hfr := toLower_range x (by omega) (by omega)
            obtain ⟨Y, hY⟩ : ∃ Y, Lib.toLowerU x = Y := ⟨_, rfl⟩
            have HY := Lib.hid hY
            have hcu : unitsZ (bytesZ (Utf8.encode Y)) = caseU Lib.toLowerU x := by rw [encode_eq, ← hY]; rfl
            have hcl := caseU_length Lib.toLowerU x
            have HCU := Lib.hid hcu
            clear hY hcu hfr
            go_wp2_with (first | (go_at_call 20; refine (first_any _ _ (by omega) (by omega)).mono ?_; rintro e w' ⟨rfl, rfl⟩) | (go_at_call 21; refine (second_any _ _ (by omega) (by omega)).mono ?_; rintro e w' ⟨rfl, rfl⟩) | (go_at_call 23; refine (Tryd.unicode_ToLower_laid x _ hVq).mono ?_; rw [HY.out]; rintro e w2 ⟨rfl, q, rfl⟩) | (go_at_call 8; refine (runits_any (Utf8.encode Y) (wr.drewN q) hTq (by have := encode_size_le Y; omega)).mono ?_; rw [HCU.out]; rintro e w3 ⟨v3, rfl, hown3, hb3⟩; have hown0 := own_below (w := wr.drewN q) hown hb3; obtain ⟨A3, c3, hv3, hrd3⟩ := own_reads hown3; rw [hv3]; clear hv3 hown3) | (at_builtin; refine wpList_append_any _ rfl (.tmp 84) (.tmp 85) 22 rfl w.heap.size 27 i0 (.int .u16 0) 1 2 Tryd.underlying22 hi0 hz0 hz1 hz2 rfl (by omega) _ m _ rfl hown0 w3.heap.size A3 (caseU Lib.toLowerU x).length c3 ((caseU Lib.toLowerU x).map (Value.int .u16)) rfl hrd3 ?c1 ?c2 ?c3 ?c4 ?_))
            case c1 => intro u hu; obtain ⟨z, _, rfl⟩ := List.mem_map.1 hu; rfl
            case c2 => unfold maxLen; omega
            case c3 => omega
            case c4 => have := hb3.size; exact Nat.le_trans hbs this
            intro v' w4 hown4 hgrow _
            have hbl3 : Below w.heap.size w w3 := (below_drewN hbl q).trans (hb3.mono hbs)
            have hbl4 := hbl3.grown hgrow hbl3.size (fun j hj => (hown0.lt j hj).1)
            go_wp2
            go_roundw
            case rel => exact ⟨k + 1, m + (caseU Lib.toLowerU x).length, P ++ caseU Lib.toLowerU x, by omega, by go_num, by rw [HM.out, List.length_append], by rw [List.map_append]; exact hown4, hbl4, by omega, by rw [HT.out, H1.out, HP.out, List.append_assoc]⟩
            case measure => simp [intOf]; omega
        · cases h2 : isLo y
          · by_cases hs1 : 55296 ≤ x
            · by_cases hs2 : x < 57344
              · have hsr : isSur x = true := by simp [isSur]; omega
                have HP : Hid ((if isSur (us.getD k 0) then [us.getD k 0] else caseU Lib.toLowerU (us.getD k 0)) = [x]) := by show _ = _; rw [Hx1.out, hsr]; rfl
                clear hsr
                have H1 := Lib.hid (casedZ_one Lib.toLowerU (us := us) (k := k) (by rw [HL.out]; exact hlt) (by rw [Hy1.out, h2]; simp))
                go_wp2_with (first | (go_at_call 20; refine (first_any _ _ (by omega) (by omega)).mono ?_; rintro e w' ⟨rfl, rfl⟩) | (go_at_call 21; refine (second_any _ _ (by omega) (by omega)).mono ?_; rintro e w' ⟨rfl, rfl⟩) | (at_builtin; refine wpList_append_own _ rfl (.tmp 71) (.tmp 74) 22 rfl w.heap.size 27 i0 (.int .u16 0) 1 2 Tryd.underlying22 hi0 hz0 hz1 hz2 rfl (by decide) _ m _ rfl (hown.alloc _) ⟨wr.heap.size, 0, none⟩ 1 1 [.int .u16 x] rfl rfl ?c1 ?c2 ?c3 ?c4 ?c5 ?_))
                case c1 =>
                  intro j u hj
                  match j, hj with
                  | 0, hj => simp at hj; subst hj; simp [Addr.add]
                  | (j + 1), hj => simp at hj
                case c2 => intro u hu; simp at hu; subst hu; rfl
                case c3 => unfold maxLen; omega
                case c4 => omega
                case c5 => simp; omega
                intro v' w2 hown1 hgrow hnn
                have hbl2 := below_step hown hbl hbs hgrow
                clear hnn
                go_wp2
                go_roundw
                case rel => exact ⟨k + 1, m + 1, P ++ [x], by omega, by go_num, by rw [HM.out]; simp, by rw [List.map_append]; exact hown1, hbl2, by omega, by rw [HT.out, H1.out, HP.out, List.append_assoc]⟩
                case measure => simp [intOf]; omega
              · have hsr : isSur x = false := by simp [isSur]; omega
                have HP : Hid ((if isSur (us.getD k 0) then [us.getD k 0] else caseU Lib.toLowerU (us.getD k 0)) = caseU Lib.toLowerU x) := by show _ = _; rw [Hx1.out, hsr]; rfl
                clear hsr
                have H1 := Lib.hid (casedZ_one Lib.toLowerU (us := us) (k := k) (by rw [HL.out]; exact hlt) (by rw [Hy1.out, h2]; simp))
                have hVq : Lib.CaseVar 3 Lib.caseA wr := Case.below hV hbl
                have hTq : Lib.Utf8Tabs 1 2 wr := Tabs.below hT hbl h2T
                have hfr := toLower_range x (by omega) (by omega)
                obtain ⟨Y, hY⟩ : ∃ Y, Lib.toLowerU x = Y := ⟨_, rfl⟩
                have HY := Lib.hid hY
                have hcu : unitsZ (bytesZ (Utf8.encode Y)) = caseU Lib.toLowerU x := by rw [encode_eq, ← hY]; rfl
                have hcl := caseU_length Lib.toLowerU x
                have HCU := Lib.hid hcu
                clear hY hcu hfr
                go_wp2_with (first | (go_at_call 20; refine (first_any _ _ (by omega) (by omega)).mono ?_; rintro e w' ⟨rfl, rfl⟩) | (go_at_call 21; refine (second_any _ _ (by omega) (by omega)).mono ?_; rintro e w' ⟨rfl, rfl⟩) | (go_at_call 23; refine (Tryd.unicode_ToLower_laid x _ hVq).mono ?_; rw [HY.out]; rintro e w2 ⟨rfl, q, rfl⟩) | (go_at_call 8; refine (runits_any (Utf8.encode Y) (wr.drewN q) hTq (by have := encode_size_le Y; omega)).mono ?_; rw [HCU.out]; rintro e w3 ⟨v3, rfl, hown3, hb3⟩; have hown0 := own_below (w := wr.drewN q) hown hb3; obtain ⟨A3, c3, hv3, hrd3⟩ := own_reads hown3; rw [hv3]; clear hv3 hown3) | (at_builtin; refine wpList_append_any _ rfl (.tmp 84) (.tmp 85) 22 rfl w.heap.size 27 i0 (.int .u16 0) 1 2 Tryd.underlying22 hi0 hz0 hz1 hz2 rfl (by omega) _ m _ rfl hown0 w3.heap.size A3 (caseU Lib.toLowerU x).length c3 ((caseU Lib.toLowerU x).map (Value.int .u16)) rfl hrd3 ?c1 ?c2 ?c3 ?c4 ?_))
                case c1 => intro u hu; obtain ⟨z, _, rfl⟩ := List.mem_map.1 hu; rfl
                case c2 => unfold maxLen; omega
                case c3 => omega
                case c4 => have := hb3.size; exact Nat.le_trans hbs this
                intro v' w4 hown4 hgrow _
                have hbl3 : Below w.heap.size w w3 := (below_drewN hbl q).trans (hb3.mono hbs)
                have hbl4 := hbl3.grown hgrow hbl3.size (fun j hj => (hown0.lt j hj).1)
                go_wp2
                go_roundw
                case rel => exact ⟨k + 1, m + (caseU Lib.toLowerU x).length, P ++ caseU Lib.toLowerU x, by omega, by go_num, by rw [HM.out, List.length_append], by rw [List.map_append]; exact hown4, hbl4, by omega, by rw [HT.out, H1.out, HP.out, List.append_assoc]⟩
                case measure => simp [intOf]; omega
            · have hsr : isSur x = false := by simp [isSur]; omega
              have HP : Hid ((if isSur (us.getD k 0) then [us.getD k 0] else caseU Lib.toLowerU (us.getD k 0)) = caseU Lib.toLowerU x) := by show _ = _; rw [Hx1.out, hsr]; rfl
              clear hsr
              have H1 := Lib.hid (casedZ_one Lib.toLowerU (us := us) (k := k) (by rw [HL.out]; exact hlt) (by rw [Hy1.out, h2]; simp))
              have hVq : Lib.CaseVar 3 Lib.caseA wr := Case.below hV hbl
              have hTq : Lib.Utf8Tabs 1 2 wr := Tabs.below hT hbl h2T
              have hfr := toLower_range x (by omega) (by omega)
              obtain ⟨Y, hY⟩ : ∃ Y, Lib.toLowerU x = Y := ⟨_, rfl⟩
              have HY := Lib.hid hY
              have hcu : unitsZ (bytesZ (Utf8.encode Y)) = caseU Lib.toLowerU x := by rw [encode_eq, ← hY]; rfl
              have hcl := caseU_length Lib.toLowerU x
              have HCU := Lib.hid hcu
              clear hY hcu hfr
              go_wp2_with (first | (go_at_call 20; refine (first_any _ _ (by omega) (by omega)).mono ?_; rintro e w' ⟨rfl, rfl⟩) | (go_at_call 21; refine (second_any _ _ (by omega) (by omega)).mono ?_; rintro e w' ⟨rfl, rfl⟩) | (go_at_call 23; refine (Tryd.unicode_ToLower_laid x _ hVq).mono ?_; rw [HY.out]; rintro e w2 ⟨rfl, q, rfl⟩) | (go_at_call 8; refine (runits_any (Utf8.encode Y) (wr.drewN q) hTq (by have := encode_size_le Y; omega)).mono ?_; rw [HCU.out]; rintro e w3 ⟨v3, rfl, hown3, hb3⟩; have hown0 := own_below (w := wr.drewN q) hown hb3; obtain ⟨A3, c3, hv3, hrd3⟩ := own_reads hown3; rw [hv3]; clear hv3 hown3) | (at_builtin; refine wpList_append_any _ rfl (.tmp 84) (.tmp 85) 22 rfl w.heap.size 27 i0 (.int .u16 0) 1 2 Tryd.underlying22 hi0 hz0 hz1 hz2 rfl (by omega) _ m _ rfl hown0 w3.heap.size A3 (caseU Lib.toLowerU x).length c3 ((caseU Lib.toLowerU x).map (Value.int .u16)) rfl hrd3 ?c1 ?c2 ?c3 ?c4 ?_))
              case c1 => intro u hu; obtain ⟨z, _, rfl⟩ := List.mem_map.1 hu; rfl
              case c2 => unfold maxLen; omega
              case c3 => omega
              case c4 => have := hb3.size; exact Nat.le_trans hbs this
              intro v' w4 hown4 hgrow _
              have hbl3 : Below w.heap.size w w3 := (below_drewN hbl q).trans (hb3.mono hbs)
              have hbl4 := hbl3.grown hgrow hbl3.size (fun j hj => (hown0.lt j hj).1)
              go_wp2
              go_roundw
              case rel => exact ⟨k + 1, m + (caseU Lib.toLowerU x).length, P ++ caseU Lib.toLowerU x, by omega, by go_num, by rw [HM.out, List.length_append], by rw [List.map_append]; exact hown4, hbl4, by omega, by rw [HT.out, H1.out, HP.out, List.append_assoc]⟩
              case measure => simp [intOf]; omega
          · have H1 := Lib.hid (casedZ_pair Lib.toLowerU (us := us) (k := k) (by rw [HL.out]; exact hk1) (by rw [Hx1.out]; exact h1) (by rw [Hy1.out]; exact h2))
            have hpl : 65536 ≤ pairZ x y := by simp only [isHi, isLo, decide_eq_true_eq] at h1 h2; unfold pairZ; omega
            have hph : pairZ x y ≤ 1114111 := by simp only [isHi, isLo, decide_eq_true_eq] at h1 h2; unfold pairZ; omega
            have HP : Hid (caseU Lib.toLowerU (pairZ (us.getD k 0) (us.getD (k + 1) 0)) = caseU Lib.toLowerU (pairZ x y)) := by show _ = _; rw [Hx1.out, Hy1.out]
            go_wp2_with (first | (go_at_call 20; refine (first_any _ _ (by omega) (by omega)).mono ?_; rintro e w' ⟨rfl, rfl⟩) | (go_at_call 21; refine (second_any _ _ (by omega) (by omega)).mono ?_; rintro e w' ⟨rfl, rfl⟩))
            go_quiet (fail)
            rw [rpair_eq x y]
            have hVq : Lib.CaseVar 3 Lib.caseA (wr.drewN nq) := Case.below hV (below_drewN hbl nq)
            have hTq : Lib.Utf8Tabs 1 2 (wr.drewN nq) := Tabs.below hT (below_drewN hbl nq) h2T
            have hfr := toLower_range (pairZ x y) (by omega) (by omega)
            obtain ⟨Y, hY⟩ : ∃ Y, Lib.toLowerU (pairZ x y) = Y := ⟨_, rfl⟩
            have HY := Lib.hid hY
            have hcu : unitsZ (bytesZ (Utf8.encode Y)) = caseU Lib.toLowerU (pairZ x y) := by rw [encode_eq, ← hY]; rfl
            have hcl := caseU_length Lib.toLowerU (pairZ x y)
            have HCU := Lib.hid hcu
            clear hY hcu hfr
            go_wp2_with (first | (go_at_call 23; refine (Tryd.unicode_ToLower_laid (pairZ x y) _ hVq).mono ?_; rw [HY.out]; rintro e w2 ⟨rfl, q, rfl⟩) | (go_at_call 8; refine (runits_any (Utf8.encode Y) (wr.drewN (nq + q)) hTq (by have := encode_size_le Y; omega)).mono ?_; rw [HCU.out]; rintro e w3 ⟨v3, rfl, hown3, hb3⟩; have hown0 := own_below (w := wr.drewN (nq + q)) hown hb3; obtain ⟨A3, c3, hv3, hrd3⟩ := own_reads hown3; rw [hv3]; clear hv3 hown3) | (at_builtin; refine wpList_append_any _ rfl (.tmp 84) (.tmp 85) 22 rfl w.heap.size 27 i0 (.int .u16 0) 1 2 Tryd.underlying22 hi0 hz0 hz1 hz2 rfl (by omega) _ m _ rfl hown0 w3.heap.size A3 (caseU Lib.toLowerU (pairZ x y)).length c3 ((caseU Lib.toLowerU (pairZ x y)).map (Value.int .u16)) rfl hrd3 ?c1 ?c2 ?c3 ?c4 ?_))
            case c1 => intro u hu; obtain ⟨z, _, rfl⟩ := List.mem_map.1 hu; rfl
            case c2 => unfold maxLen; omega
            case c3 => omega
            case c4 => have := hb3.size; exact Nat.le_trans hbs this
            intro v' w4 hown4 hgrow _
            have hbl3 : Below w.heap.size w w3 := (below_drewN hbl (nq + q)).trans (hb3.mono hbs)
            have hbl4 := hbl3.grown hgrow hbl3.size (fun j hj => (hown0.lt j hj).1)
            go_wp2
            go_roundw
            case rel => exact ⟨k + 2, m + (caseU Lib.toLowerU (pairZ x y)).length, P ++ caseU Lib.toLowerU (pairZ x y), by omega, by go_num, by rw [HM.out, List.length_append], by rw [List.map_append]; exact hown4, hbl4, by omega, by rw [HT.out, H1.out, HP.out, List.append_assoc]⟩
            case measure => simp [intOf]; omega
      · by_cases hs1 : 55296 ≤ x
        · by_cases hs2 : x < 57344
          · have hsr : isSur x = true := by simp [isSur]; omega
            have HP : Hid ((if isSur (us.getD k 0) then [us.getD k 0] else caseU Lib.toLowerU (us.getD k 0)) = [x]) := by show _ = _; rw [Hx1.out, hsr]; rfl
            clear hsr
            have H1 := Lib.hid (casedZ_one Lib.toLowerU (us := us) (k := k) (by rw [HL.out]; exact hlt) (by rw [HL.out]; intro hh; exact hk1 hh.2.1))
            go_wp2_with (first | (go_at_call 20; refine (first_any _ _ (by omega) (by omega)).mono ?_; rintro e w' ⟨rfl, rfl⟩) | (go_at_call 21; refine (second_any _ _ (by omega) (by omega)).mono ?_; rintro e w' ⟨rfl, rfl⟩) | (at_builtin; refine wpList_append_own _ rfl (.tmp 71) (.tmp 74) 22 rfl w.heap.size 27 i0 (.int .u16 0) 1 2 Tryd.underlying22 hi0 hz0 hz1 hz2 rfl (by decide) _ m _ rfl (hown.alloc _) ⟨wr.heap.size, 0, none⟩ 1 1 [.int .u16 x] rfl rfl ?c1 ?c2 ?c3 ?c4 ?c5 ?_))
            case c1 =>
              intro j u hj
              match j, hj with
              | 0, hj => simp at hj; subst hj; simp [Addr.add]
              | (j + 1), hj => simp at hj
            case c2 => intro u hu; simp at hu; subst hu; rfl
            case c3 => unfold maxLen; omega
            case c4 => omega
            case c5 => simp; omega
            intro v' w2 hown1 hgrow hnn
            have hbl2 := below_step hown hbl hbs hgrow
            clear hnn
            go_wp2
            go_roundw
            case rel => exact ⟨k + 1, m + 1, P ++ [x], by omega, by go_num, by rw [HM.out]; simp, by rw [List.map_append]; exact hown1, hbl2, by omega, by rw [HT.out, H1.out, HP.out, List.append_assoc]⟩
            case measure => simp [intOf]; omega
          · have hsr : isSur x = false := by simp [isSur]; omega
            have HP : Hid ((if isSur (us.getD k 0) then [us.getD k 0] else caseU Lib.toLowerU (us.getD k 0)) = caseU Lib.toLowerU x) := by show _ = _; rw [Hx1.out, hsr]; rfl
            clear hsr
            have H1 := Lib.hid (casedZ_one Lib.toLowerU (us := us) (k := k) (by rw [HL.out]; exact hlt) (by rw [HL.out]; intro hh; exact hk1 hh.2.1))
            have hVq : Lib.CaseVar 3 Lib.caseA wr := Case.below hV hbl
            have hTq : Lib.Utf8Tabs 1 2 wr := Tabs.below hT hbl h2T
            have hfr := toLower_range x (by omega) (by omega)
            obtain ⟨Y, hY⟩ : ∃ Y, Lib.toLowerU x = Y := ⟨_, rfl⟩
            have HY := Lib.hid hY
            have hcu : unitsZ (bytesZ (Utf8.encode Y)) = caseU Lib.toLowerU x := by rw [encode_eq, ← hY]; rfl
            have hcl := caseU_length Lib.toLowerU x
            have HCU := Lib.hid hcu
            clear hY hcu hfr
            go_wp2_with (first | (go_at_call 20; refine (first_any _ _ (by omega) (by omega)).mono ?_; rintro e w' ⟨rfl, rfl⟩) | (go_at_call 21; refine (second_any _ _ (by omega) (by omega)).mono ?_; rintro e w' ⟨rfl, rfl⟩) | (go_at_call 23; refine (Tryd.unicode_ToLower_laid x _ hVq).mono ?_; rw [HY.out]; rintro e w2 ⟨rfl, q, rfl⟩) | (go_at_call 8; refine (runits_any (Utf8.encode Y) (wr.drewN q) hTq (by have := encode_size_le Y; omega)).mono ?_; rw [HCU.out]; rintro e w3 ⟨v3, rfl, hown3, hb3⟩; have hown0 := own_below (w := wr.drewN q) hown hb3; obtain ⟨A3, c3, hv3, hrd3⟩ := own_reads hown3; rw [hv3]; clear hv3 hown3) | (at_builtin; refine wpList_append_any _ rfl (.tmp 84) (.tmp 85) 22 rfl w.heap.size 27 i0 (.int .u16 0) 1 2 Tryd.underlying22 hi0 hz0 hz1 hz2 rfl (by omega) _ m _ rfl hown0 w3.heap.size A3 (caseU Lib.toLowerU x).length c3 ((caseU Lib.toLowerU x).map (Value.int .u16)) rfl hrd3 ?c1 ?c2 ?c3 ?c4 ?_))
            case c1 => intro u hu; obtain ⟨z, _, rfl⟩ := List.mem_map.1 hu; rfl
            case c2 => unfold maxLen; omega
            case c3 => omega
            case c4 => have := hb3.size; exact Nat.le_trans hbs this
            intro v' w4 hown4 hgrow _
            have hbl3 : Below w.heap.size w w3 := (below_drewN hbl q).trans (hb3.mono hbs)
            have hbl4 := hbl3.grown hgrow hbl3.size (fun j hj => (hown0.lt j hj).1)
            go_wp2
            go_roundw
            case rel => exact ⟨k + 1, m + (caseU Lib.toLowerU x).length, P ++ caseU Lib.toLowerU x, by omega, by go_num, by rw [HM.out, List.length_append], by rw [List.map_append]; exact hown4, hbl4, by omega, by rw [HT.out, H1.out, HP.out, List.append_assoc]⟩
            case measure => simp [intOf]; omega
        · have hsr : isSur x = false := by simp [isSur]; omega
          have HP : Hid ((if isSur (us.getD k 0) then [us.getD k 0] else caseU Lib.toLowerU (us.getD k 0)) = caseU Lib.toLowerU x) := by show _ = _; rw [Hx1.out, hsr]; rfl
          clear hsr
          have H1 := Lib.hid (casedZ_one Lib.toLowerU (us := us) (k := k) (by rw [HL.out]; exact hlt) (by rw [HL.out]; intro hh; exact hk1 hh.2.1))
          have hVq : Lib.CaseVar 3 Lib.caseA wr := Case.below hV hbl
          have hTq : Lib.Utf8Tabs 1 2 wr := Tabs.below hT hbl h2T
          have hfr := toLower_range x (by omega) (by omega)
          obtain ⟨Y, hY⟩ : ∃ Y, Lib.toLowerU x = Y := ⟨_, rfl⟩
          have HY := Lib.hid hY
          have hcu : unitsZ (bytesZ (Utf8.encode Y)) = caseU Lib.toLowerU x := by rw [encode_eq, ← hY]; rfl
          have hcl := caseU_length Lib.toLowerU x
          have HCU := Lib.hid hcu
          clear hY hcu hfr
          go_wp2_with (first | (go_at_call 20; refine (first_any _ _ (by omega) (by omega)).mono ?_; rintro e w' ⟨rfl, rfl⟩) | (go_at_call 21; refine (second_any _ _ (by omega) (by omega)).mono ?_; rintro e w' ⟨rfl, rfl⟩) | (go_at_call 23; refine (Tryd.unicode_ToLower_laid x _ hVq).mono ?_; rw [HY.out]; rintro e w2 ⟨rfl, q, rfl⟩) | (go_at_call 8; refine (runits_any (Utf8.encode Y) (wr.drewN q) hTq (by have := encode_size_le Y; omega)).mono ?_; rw [HCU.out]; rintro e w3 ⟨v3, rfl, hown3, hb3⟩; have hown0 := own_below (w := wr.drewN q) hown hb3; obtain ⟨A3, c3, hv3, hrd3⟩ := own_reads hown3; rw [hv3]; clear hv3 hown3) | (at_builtin; refine wpList_append_any _ rfl (.tmp 84) (.tmp 85) 22 rfl w.heap.size 27 i0 (.int .u16 0) 1 2 Tryd.underlying22 hi0 hz0 hz1 hz2 rfl (by omega) _ m _ rfl hown0 w3.heap.size A3 (caseU Lib.toLowerU x).length c3 ((caseU Lib.toLowerU x).map (Value.int .u16)) rfl hrd3 ?c1 ?c2 ?c3 ?c4 ?_))
          case c1 => intro u hu; obtain ⟨z, _, rfl⟩ := List.mem_map.1 hu; rfl
          case c2 => unfold maxLen; omega
          case c3 => omega
          case c4 => have := hb3.size; exact Nat.le_trans hbs this
          intro v' w4 hown4 hgrow _
          have hbl3 : Below w.heap.size w w3 := (below_drewN hbl q).trans (hb3.mono hbs)
          have hbl4 := hbl3.grown hgrow hbl3.size (fun j hj => (hown0.lt j hj).1)
          go_wp2
          go_roundw
          case rel => exact ⟨k + 1, m + (caseU Lib.toLowerU x).length, P ++ caseU Lib.toLowerU x, by omega, by go_num, by rw [HM.out, List.length_append], by rw [List.map_append]; exact hown4, hbl4, by omega, by rw [HT.out, H1.out, HP.out, List.append_assoc]⟩
          case measure => simp [intOf]; omega
    · have HE : Hid (casedZ Lib.toLowerU us = P) := by
        show casedZ Lib.toLowerU us = P
        rw [HT.out, List.drop_eq_nil_of_le (by rw [HL.out]; omega), casedZ, List.append_nil]
      go_wp2
      go_ret
      exact ⟨_, rfl, by rw [HE.out, ← HM.out]; exact hown, hbl⟩

set_option maxHeartbeats 800000 in
theorem casedUpper_zero (A : Option Addr) (c : Nat) (w : World) :
    Calls Tryd.prog 10 #[.slice A 0 c, .bool true] w fun e w' => e = .returned (.slice none 0 0) ∧ w = w' := by
  go_enter Tryd.func10, Tryd.ntmps10
  go_wp2
  refine wp_loop_rounds 1 ?_
  rw [rounds_succ]
  go_wp2
  go_ret
  exact ⟨rfl, rfl⟩
theorem casedUpper_any (A : Option Addr) (n c : Nat) (us : List Int) (w : World) (hn : n ≤ 16777216) (ha : RdU w w.heap.size A n us) (hr : ∀ u ∈ us, 0 ≤ u ∧ u ≤ 65535) (hT : Lib.Utf8Tabs 1 2 w) (hV : Lib.CaseVar 3 Lib.caseA w) :
    Calls Tryd.prog 10 #[.slice A n c, .bool true] w fun e w' => ∃ v, e = .returned v ∧ w'.ownsRow w.heap.size 27 1 v (casedZ Lib.toUpperU us).length ((casedZ Lib.toUpperU us).map (Value.int .u16)) ∧ Below w.heap.size w w' := by
  rcases Nat.eq_zero_or_pos n with h0 | h0
  · subst h0
    have e1 : us = [] := List.eq_nil_of_length_eq_zero ha.1
    subst e1
    refine (casedUpper_zero A c w).mono ?_
    rintro e w' ⟨rfl, rfl⟩
    exact ⟨_, rfl, by rw [casedZ]; exact World.ownsRow_nil _ _ _ _, Below.refl _ _⟩
  · obtain ⟨b, off, rfl, hb, hc⟩ := ha.2 h0
    exact casedUpper_cells b off n c us w hn ha.1 hb hr hc hT hV

set_option maxHeartbeats 800000 in
theorem casedLower_zero (A : Option Addr) (c : Nat) (w : World) :
    Calls Tryd.prog 10 #[.slice A 0 c, .bool false] w fun e w' => e = .returned (.slice none 0 0) ∧ w = w' := by
  go_enter Tryd.func10, Tryd.ntmps10
  go_wp2
  refine wp_loop_rounds 1 ?_
  rw [rounds_succ]
  go_wp2
  go_ret
  exact ⟨rfl, rfl⟩
theorem casedLower_any (A : Option Addr) (n c : Nat) (us : List Int) (w : World) (hn : n ≤ 16777216) (ha : RdU w w.heap.size A n us) (hr : ∀ u ∈ us, 0 ≤ u ∧ u ≤ 65535) (hT : Lib.Utf8Tabs 1 2 w) (hV : Lib.CaseVar 3 Lib.caseA w) :
    Calls Tryd.prog 10 #[.slice A n c, .bool false] w fun e w' => ∃ v, e = .returned v ∧ w'.ownsRow w.heap.size 27 1 v (casedZ Lib.toLowerU us).length ((casedZ Lib.toLowerU us).map (Value.int .u16)) ∧ Below w.heap.size w w' := by
  rcases Nat.eq_zero_or_pos n with h0 | h0
  · subst h0
    have e1 : us = [] := List.eq_nil_of_length_eq_zero ha.1
    subst e1
    refine (casedLower_zero A c w).mono ?_
    rintro e w' ⟨rfl, rfl⟩
    exact ⟨_, rfl, by rw [casedZ]; exact World.ownsRow_nil _ _ _ _, Below.refl _ _⟩
  · obtain ⟨b, off, rfl, hb, hc⟩ := ha.2 h0
    exact casedLower_cells b off n c us w hn ha.1 hb hr hc hT hV
end Go.Proofs.YtmhbkilidpbenaaDoor
