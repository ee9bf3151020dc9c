/- The contract of the reference's Units. -/
import Derived.Test.YtmhbkilidpbenaaDoorC
import Derived.Deep.RegionLaw
import Derived.BigRegion
import Derived.IntWalk
namespace Go.Proofs.YtmhbkilidpbenaaDoor
open Go.RowKit

theorem reads_new (w : World) (u : Value) (e : TypeId) : Reads ((w.alloc (.cells #[u] e)).drew) (w.heap.size + 1) 1 (some ⟨w.heap.size, 0, none⟩) 1 [u] := by
  refine ⟨rfl, fun _ => ⟨_, rfl, by show w.heap.size < w.heap.size + 1; omega, fun j v hj => ?_⟩⟩
  match j, hj with
  | 0, hj => simp at hj; subst hj; simp [Addr.add]
  | j + 1, hj => simp at hj
theorem one_u16 (V : Int) : ∀ u ∈ [Value.int .u16 V], u.oneCell' = true := by intro u hu; simp at hu; subst hu; rfl
theorem le_size {a : Nat} {w : World} (h : a ≤ w.heap.size) (o : Obj) : a ≤ ((w.alloc o).drew).heap.size := by
  show a ≤ (w.alloc o).heap.size
  rw [World.size_alloc]
  omega
theorem sur_eq (x1 x2 : UInt8) (h3 : 160 ≤ (x1.toNat : Int)) (h4 : (x1.toNat : Int) ≤ 191) (h5 : 128 ≤ (x2.toNat : Int)) (h6 : (x2.toNat : Int) ≤ 191) :
    IntKind.u16.wrap (IntKind.i64.wrap (IntKind.i64.wrap (53248 + IntKind.i64.wrap (IntKind.i64.wrap (IntKind.u8.wrap ((x1.toNat : Int) - 128)) * 64)) + IntKind.i64.wrap (IntKind.u8.wrap ((x2.toNat : Int) - 128))))
      = 53248 + (x1.toNat : Int) % 64 * 64 + (x2.toNat : Int) % 64 := by
  simp only [IntKind.wrap_u16, IntKind.wrap_i64, IntKind.wrap_u8]
  omega

set_option maxHeartbeats 6400000 in
set_option maxRecDepth 100000 in
theorem runits_any (s : ByteArray) (w : World) (hT : Lib.Utf8Tabs 1 2 w) (hn : s.size ≤ 1099511627776) :
    Calls Tryd.prog 8 #[.string s] w fun e w' => ∃ v, e = .returned v ∧ w'.ownsRow w.heap.size 27 1 v (unitsZ (bytesZ s)).length ((unitsZ (bytesZ s)).map (Value.int .u16)) ∧ Below w.heap.size w w' := by
  obtain ⟨i0, hi0, hz0, hz1, hz2⟩ := info_parts u16_info
  have h2T := Tabs.lt hT
  go_enter Tryd.func8, Tryd.ntmps8
  go_wp2
  go_loopw [3, 4, 5, 6] (fun v i _ _ wr => ∃ (k m : Nat) (P : List Int), k ≤ s.size ∧ i = .int .i64 k ∧ m = P.length ∧ wr.ownsRow w.heap.size 27 1 v m (P.map (Value.int .u16)) ∧ Below w.heap.size w wr ∧ m ≤ 2 * k ∧ unitsZ (bytesZ s) = P ++ unitsZ ((bytesZ s).drop k)) (fun _ i _ _ _ => s.size - (intOf i).toNat)
  case atStart => exact ⟨0, 0, [], Nat.zero_le _, rfl, rfl, World.ownsRow_nil _ _ _ _, Below.refl _ _, by omega, by simp⟩
  case round =>
    obtain ⟨k, m, P, hk, rfl, hmp, hown, hbl, hm, ht⟩ := hrel
    have HT := Lib.hid ht
    have HM := Lib.hid hmp
    clear ht hmp
    have hTr : Lib.Utf8Tabs 1 2 wr := Tabs.below hT hbl h2T
    have hbs := hbl.size
    by_cases hlt : k < s.size
    · have hne : (bytesZ s).drop k ≠ [] := by
        intro e
        have h := congrArg List.length e
        rw [List.length_drop, bytesZ_length, List.length_nil] at h
        omega
      by_cases h1 : 2 < s.size - k
      · have hk1 : k + 1 < s.size := by omega
        have hk2 : k + 2 < s.size := by omega
        have g0 := bytesZ_getD s k hlt
        have g1 := bytesZ_getD s (k + 1) hk1
        have g2 := bytesZ_getD s (k + 2) hk2
        obtain ⟨x0, hx0⟩ : ∃ x0, s[k]'hlt = x0 := ⟨_, rfl⟩
        obtain ⟨x1, hx1⟩ : ∃ x1, s[k + 1]'hk1 = x1 := ⟨_, rfl⟩
        obtain ⟨x2, hx2⟩ : ∃ x2, s[k + 2]'hk2 = x2 := ⟨_, rfl⟩
        have e0 : ((bytesZ s).drop k).getD 0 0 = (bytesZ s).getD k 0 := by simp [List.getD]
        have e1 : ((bytesZ s).drop k).getD 1 0 = (bytesZ s).getD (k + 1) 0 := by simp [List.getD]
        have e2 : ((bytesZ s).drop k).getD 2 0 = (bytesZ s).getD (k + 2) 0 := by simp [List.getD]
        have hlen : ((bytesZ s).drop k).length = s.size - k := by rw [List.length_drop, bytesZ_length]
        rw [g0, hx0] at e0
        rw [g1, hx1] at e1
        rw [g2, hx2] at e2
        clear g0 g1 g2
        have E0 := Lib.hid e0
        have E1 := Lib.hid e1
        have E2 := Lib.hid e2
        have EL := Lib.hid hlen
        clear e0 e1 e2 hlen
        by_cases h2 : (x0.toNat : Int) = 237
        · by_cases h3 : 160 ≤ (x1.toNat : Int)
          · by_cases h4 : (x1.toNat : Int) < 192
            · by_cases h5 : 128 ≤ (x2.toNat : Int)
              · by_cases h6 : (x2.toNat : Int) < 192
                · have hsur : surZ ((bytesZ s).drop k) = true := by
                    simp only [surZ, decide_eq_true_eq, E0.out, E1.out, E2.out, EL.out]
                    omega
                  have hstep := unitsZ_step hne
                  have hnx : nextZ ((bytesZ s).drop k) = (53248 + (x1.toNat : Int) % 64 * 64 + (x2.toNat : Int) % 64, 3) := by
                    unfold nextZ
                    rw [if_pos hsur, E1.out, E2.out]
                  rw [hnx] at hstep
                  rw [show ((3 : Int)).toNat = 3 from rfl, List.drop_drop] at hstep
                  have hcu : cuZ (53248 + (x1.toNat : Int) % 64 * 64 + (x2.toNat : Int) % 64) = [53248 + (x1.toNat : Int) % 64 * 64 + (x2.toNat : Int) % 64] := by
                    unfold cuZ; rw [if_neg (by omega)]
                  rw [hcu] at hstep
                  have HS := Lib.hid hstep
                  clear hstep hcu hnx hsur hne
                  have hb0 : ((x0.toNat : Int) == 237) = true := by simp [h2]
                  clear h2
                  have n1 : (0 : Int) ≤ (k : Int) + 1 := by omega
                  have n2 : (0 : Int) ≤ (k : Int) + 2 := by omega
                  have m1 : (k : Int) + 1 < (s.size : Int) := by omega
                  have m2 : (k : Int) + 2 < (s.size : Int) := by omega
                  have q1 : ((k : Int) + 1).toNat = k + 1 := by omega
                  have q2 : ((k : Int) + 2).toNat = k + 2 := by omega
                  have w1e : IntKind.i64.wrap ((k : Int) + 1) = (k : Int) + 1 := IntWalk.i64_in _ (by omega)
                  have w2e : IntKind.i64.wrap ((k : Int) + 2) = (k : Int) + 2 := IntWalk.i64_in _ (by omega)
                  go_wp2
                  go_region_law (refine step_append_any _ rfl (.tmp 50) (.tmp 67) 22 rfl w.heap.size 27 i0 (.int .u16 0) 1 2 Tryd.underlying22 hi0 hz0 hz1 hz2 rfl (by omega) _ m _ rfl (hown.alloc _) _ _ 1 _ _ rfl (reads_new _ _ _) (one_u16 _) (by unfold maxLen; omega) (by omega) (le_size hbs _) ?_; intro v' w2 hown1 hgrow _)
                  all_goals
                    clear w1e w2e q1 q2
                    rw [sur_eq x1 x2 h3 (by omega) h5 (by omega)] at hown1
                    have hbl2 := below_step (wr := wr.drew) hown hbl.drew hbs hgrow
                    go_wp2
                    exact ⟨⟨k + 3, m + 1, P ++ [53248 + (x1.toNat : Int) % 64 * 64 + (x2.toNat : Int) % 64], by omega, by go_num, by rw [HM.out]; simp, by rw [List.map_append]; exact hown1, hbl2, by omega, by rw [HT.out, HS.out, List.append_assoc]⟩, by simp [intOf]; omega⟩
                · have hsur : surZ ((bytesZ s).drop k) = false := by
                    simp only [surZ, decide_eq_false_iff_not, E0.out, E1.out, E2.out, EL.out]
                    omega
                  have hnx : nextZ ((bytesZ s).drop k) = decZ (bytesZ (s.extract k s.size)) := by rw [bytesZ_drop]; unfold nextZ; rw [hsur]; rfl
                  have cN := Tryd.utf8_DecodeRuneInString (s.extract k s.size) wr hTr
                  have hp := nextZ_pos hne
                  have hstep := unitsZ_step hne
                  have hd := decodeGo_eq (s.extract k s.size)
                  rw [← hnx] at hd
                  obtain ⟨R, hR⟩ : ∃ R : Int, (nextZ ((bytesZ s).drop k)).1 = R := ⟨_, rfl⟩
                  obtain ⟨K, hK⟩ : ∃ K : Nat, (nextZ ((bytesZ s).drop k)).2 = (K : Int) := ⟨(nextZ ((bytesZ s).drop k)).2.toNat, by omega⟩
                  have hd1 : ((Lib.decodeGo (s.extract k s.size)).1 : Int) = R := by rw [← hR]; exact congrArg Prod.fst hd
                  have hd2 : ((Lib.decodeGo (s.extract k s.size)).2 : Int) = (K : Int) := by rw [← hK]; exact congrArg Prod.snd hd
                  rw [hd1, hd2] at cN
                  rw [hR, hK] at hp hstep
                  rw [List.length_drop, bytesZ_length] at hp
                  rw [Int.toNat_natCast, List.drop_drop] at hstep
                  have HS := Lib.hid hstep
                  clear hstep hR hK hne hd hd1 hd2 hnx hsur
                  obtain ⟨hp1, hp2, hp3, hp4⟩ := hp
                  by_cases hbig : 65536 ≤ R
                  · go_wp2_with (first | (go_at_call 19; refine cN.mono ?_; rintro e w1 ⟨rfl, hb1⟩; have hown0 := own_below hown hb1; have hbl1 := hbl.trans (hb1.mono hbs)) | (at_builtin; refine wpList_append_own _ rfl (.tmp 83) (.tmp 96) 22 rfl w.heap.size 27 i0 (.int .u16 0) 1 2 Tryd.underlying22 hi0 hz0 hz1 hz2 rfl (by decide) _ m _ rfl (hown0.alloc _) ⟨w1.heap.size, 0, none⟩ 2 2 [.int .u16 (55296 + (R - 65536) / 1024), .int .u16 (56320 + (R - 65536) % 1024)] rfl rfl ?c1 ?c2 ?c3 ?c4 ?c5 ?_))
                    case c1 =>
                      intro j u hj
                      match j, hj with
                      | 0, hj => simp at hj; subst hj; simp [Addr.add]
                      | 1, hj => simp at hj; subst hj; simp [Addr.add]
                      | (j + 2), hj => simp at hj
                    case c2 => intro u hu; simp at hu; rcases hu with rfl | rfl <;> rfl
                    case c3 => unfold maxLen; omega
                    case c4 => omega
                    case c5 => have := hbl1.size; simp; omega
                    intro v' w2 hown1 hgrow hnn
                    have hbl2 := below_step hown0 hbl1 hbl1.size hgrow
                    have hcu : cuZ R = [55296 + (R - 65536) / 1024, 56320 + (R - 65536) % 1024] := by unfold cuZ; rw [if_pos hbig]
                    have HC := Lib.hid hcu
                    clear hcu hnn
                    go_wp2
                    go_roundw
                    case rel => exact ⟨k + K, m + 2, P ++ cuZ R, by omega, by go_num, by rw [HC.out, HM.out]; simp, by rw [HC.out, List.map_append]; exact hown1, hbl2, by omega, by rw [HT.out, HS.out, List.append_assoc]⟩
                    case measure => simp [intOf]; omega
                  · go_wp2_with (first | (go_at_call 19; refine cN.mono ?_; rintro e w1 ⟨rfl, hb1⟩; have hown0 := own_below hown hb1; have hbl1 := hbl.trans (hb1.mono hbs)) | (at_builtin; refine wpList_append_own _ rfl (.tmp 98) (.tmp 101) 22 rfl w.heap.size 27 i0 (.int .u16 0) 1 2 Tryd.underlying22 hi0 hz0 hz1 hz2 rfl (by decide) _ m _ rfl (hown0.alloc _) ⟨w1.heap.size, 0, none⟩ 1 1 [.int .u16 R] rfl rfl ?c1 ?c2 ?c3 ?c4 ?c5 ?_))
                    case c1 =>
                      intro j u hj
                      match j, hj with
                      | 0, hj => simp at hj; subst hj; simp [Addr.add]
                      | (j + 1), hj => simp at hj
                    case c2 => intro u hu; simp at hu; subst hu; rfl
                    case c3 => unfold maxLen; omega
                    case c4 => omega
                    case c5 => have := hbl1.size; simp; omega
                    intro v' w2 hown1 hgrow hnn
                    have hbl2 := below_step hown0 hbl1 hbl1.size hgrow
                    have hcu : cuZ R = [R] := by unfold cuZ; rw [if_neg (by omega)]
                    have HC := Lib.hid hcu
                    clear hcu hnn
                    go_wp2
                    go_roundw
                    case rel => exact ⟨k + K, m + 1, P ++ cuZ R, by omega, by go_num, by rw [HC.out, HM.out]; simp, by rw [HC.out, List.map_append]; exact hown1, hbl2, by omega, by rw [HT.out, HS.out, List.append_assoc]⟩
                    case measure => simp [intOf]; omega
              · have hsur : surZ ((bytesZ s).drop k) = false := by
                  simp only [surZ, decide_eq_false_iff_not, E0.out, E1.out, E2.out, EL.out]
                  omega
                have hnx : nextZ ((bytesZ s).drop k) = decZ (bytesZ (s.extract k s.size)) := by rw [bytesZ_drop]; unfold nextZ; rw [hsur]; rfl
                have cN := Tryd.utf8_DecodeRuneInString (s.extract k s.size) wr hTr
                have hp := nextZ_pos hne
                have hstep := unitsZ_step hne
                have hd := decodeGo_eq (s.extract k s.size)
                rw [← hnx] at hd
                obtain ⟨R, hR⟩ : ∃ R : Int, (nextZ ((bytesZ s).drop k)).1 = R := ⟨_, rfl⟩
                obtain ⟨K, hK⟩ : ∃ K : Nat, (nextZ ((bytesZ s).drop k)).2 = (K : Int) := ⟨(nextZ ((bytesZ s).drop k)).2.toNat, by omega⟩
                have hd1 : ((Lib.decodeGo (s.extract k s.size)).1 : Int) = R := by rw [← hR]; exact congrArg Prod.fst hd
                have hd2 : ((Lib.decodeGo (s.extract k s.size)).2 : Int) = (K : Int) := by rw [← hK]; exact congrArg Prod.snd hd
                rw [hd1, hd2] at cN
                rw [hR, hK] at hp hstep
                rw [List.length_drop, bytesZ_length] at hp
                rw [Int.toNat_natCast, List.drop_drop] at hstep
                have HS := Lib.hid hstep
                clear hstep hR hK hne hd hd1 hd2 hnx hsur
                obtain ⟨hp1, hp2, hp3, hp4⟩ := hp
                by_cases hbig : 65536 ≤ R
                · go_wp2_with (first | (go_at_call 19; refine cN.mono ?_; rintro e w1 ⟨rfl, hb1⟩; have hown0 := own_below hown hb1; have hbl1 := hbl.trans (hb1.mono hbs)) | (at_builtin; refine wpList_append_own _ rfl (.tmp 83) (.tmp 96) 22 rfl w.heap.size 27 i0 (.int .u16 0) 1 2 Tryd.underlying22 hi0 hz0 hz1 hz2 rfl (by decide) _ m _ rfl (hown0.alloc _) ⟨w1.heap.size, 0, none⟩ 2 2 [.int .u16 (55296 + (R - 65536) / 1024), .int .u16 (56320 + (R - 65536) % 1024)] rfl rfl ?c1 ?c2 ?c3 ?c4 ?c5 ?_))
                  case c1 =>
                    intro j u hj
                    match j, hj with
                    | 0, hj => simp at hj; subst hj; simp [Addr.add]
                    | 1, hj => simp at hj; subst hj; simp [Addr.add]
                    | (j + 2), hj => simp at hj
                  case c2 => intro u hu; simp at hu; rcases hu with rfl | rfl <;> rfl
                  case c3 => unfold maxLen; omega
                  case c4 => omega
                  case c5 => have := hbl1.size; simp; omega
                  intro v' w2 hown1 hgrow hnn
                  have hbl2 := below_step hown0 hbl1 hbl1.size hgrow
                  have hcu : cuZ R = [55296 + (R - 65536) / 1024, 56320 + (R - 65536) % 1024] := by unfold cuZ; rw [if_pos hbig]
                  have HC := Lib.hid hcu
                  clear hcu hnn
                  go_wp2
                  go_roundw
                  case rel => exact ⟨k + K, m + 2, P ++ cuZ R, by omega, by go_num, by rw [HC.out, HM.out]; simp, by rw [HC.out, List.map_append]; exact hown1, hbl2, by omega, by rw [HT.out, HS.out, List.append_assoc]⟩
                  case measure => simp [intOf]; omega
                · go_wp2_with (first | (go_at_call 19; refine cN.mono ?_; rintro e w1 ⟨rfl, hb1⟩; have hown0 := own_below hown hb1; have hbl1 := hbl.trans (hb1.mono hbs)) | (at_builtin; refine wpList_append_own _ rfl (.tmp 98) (.tmp 101) 22 rfl w.heap.size 27 i0 (.int .u16 0) 1 2 Tryd.underlying22 hi0 hz0 hz1 hz2 rfl (by decide) _ m _ rfl (hown0.alloc _) ⟨w1.heap.size, 0, none⟩ 1 1 [.int .u16 R] rfl rfl ?c1 ?c2 ?c3 ?c4 ?c5 ?_))
                  case c1 =>
                    intro j u hj
                    match j, hj with
                    | 0, hj => simp at hj; subst hj; simp [Addr.add]
                    | (j + 1), hj => simp at hj
                  case c2 => intro u hu; simp at hu; subst hu; rfl
                  case c3 => unfold maxLen; omega
                  case c4 => omega
                  case c5 => have := hbl1.size; simp; omega
                  intro v' w2 hown1 hgrow hnn
                  have hbl2 := below_step hown0 hbl1 hbl1.size hgrow
                  have hcu : cuZ R = [R] := by unfold cuZ; rw [if_neg (by omega)]
                  have HC := Lib.hid hcu
                  clear hcu hnn
                  go_wp2
                  go_roundw
                  case rel => exact ⟨k + K, m + 1, P ++ cuZ R, by omega, by go_num, by rw [HC.out, HM.out]; simp, by rw [HC.out, List.map_append]; exact hown1, hbl2, by omega, by rw [HT.out, HS.out, List.append_assoc]⟩
                  case measure => simp [intOf]; omega
            · have hsur : surZ ((bytesZ s).drop k) = false := by
                simp only [surZ, decide_eq_false_iff_not, E0.out, E1.out, E2.out, EL.out]
                omega
              have hnx : nextZ ((bytesZ s).drop k) = decZ (bytesZ (s.extract k s.size)) := by rw [bytesZ_drop]; unfold nextZ; rw [hsur]; rfl
              have cN := Tryd.utf8_DecodeRuneInString (s.extract k s.size) wr hTr
              have hp := nextZ_pos hne
              have hstep := unitsZ_step hne
              have hd := decodeGo_eq (s.extract k s.size)
              rw [← hnx] at hd
              obtain ⟨R, hR⟩ : ∃ R : Int, (nextZ ((bytesZ s).drop k)).1 = R := ⟨_, rfl⟩
              obtain ⟨K, hK⟩ : ∃ K : Nat, (nextZ ((bytesZ s).drop k)).2 = (K : Int) := ⟨(nextZ ((bytesZ s).drop k)).2.toNat, by omega⟩
              have hd1 : ((Lib.decodeGo (s.extract k s.size)).1 : Int) = R := by rw [← hR]; exact congrArg Prod.fst hd
              have hd2 : ((Lib.decodeGo (s.extract k s.size)).2 : Int) = (K : Int) := by rw [← hK]; exact congrArg Prod.snd hd
              rw [hd1, hd2] at cN
              rw [hR, hK] at hp hstep
              rw [List.length_drop, bytesZ_length] at hp
              rw [Int.toNat_natCast, List.drop_drop] at hstep
              have HS := Lib.hid hstep
              clear hstep hR hK hne hd hd1 hd2 hnx hsur
              obtain ⟨hp1, hp2, hp3, hp4⟩ := hp
              by_cases hbig : 65536 ≤ R
              · go_wp2_with (first | (go_at_call 19; refine cN.mono ?_; rintro e w1 ⟨rfl, hb1⟩; have hown0 := own_below hown hb1; have hbl1 := hbl.trans (hb1.mono hbs)) | (at_builtin; refine wpList_append_own _ rfl (.tmp 83) (.tmp 96) 22 rfl w.heap.size 27 i0 (.int .u16 0) 1 2 Tryd.underlying22 hi0 hz0 hz1 hz2 rfl (by decide) _ m _ rfl (hown0.alloc _) ⟨w1.heap.size, 0, none⟩ 2 2 [.int .u16 (55296 + (R - 65536) / 1024), .int .u16 (56320 + (R - 65536) % 1024)] rfl rfl ?c1 ?c2 ?c3 ?c4 ?c5 ?_))
                case c1 =>
                  intro j u hj
                  match j, hj with
                  | 0, hj => simp at hj; subst hj; simp [Addr.add]
                  | 1, hj => simp at hj; subst hj; simp [Addr.add]
                  | (j + 2), hj => simp at hj
                case c2 => intro u hu; simp at hu; rcases hu with rfl | rfl <;> rfl
                case c3 => unfold maxLen; omega
                case c4 => omega
                case c5 => have := hbl1.size; simp; omega
                intro v' w2 hown1 hgrow hnn
                have hbl2 := below_step hown0 hbl1 hbl1.size hgrow
                have hcu : cuZ R = [55296 + (R - 65536) / 1024, 56320 + (R - 65536) % 1024] := by unfold cuZ; rw [if_pos hbig]
                have HC := Lib.hid hcu
                clear hcu hnn
                go_wp2
                go_roundw
                case rel => exact ⟨k + K, m + 2, P ++ cuZ R, by omega, by go_num, by rw [HC.out, HM.out]; simp, by rw [HC.out, List.map_append]; exact hown1, hbl2, by omega, by rw [HT.out, HS.out, List.append_assoc]⟩
                case measure => simp [intOf]; omega
              · go_wp2_with (first | (go_at_call 19; refine cN.mono ?_; rintro e w1 ⟨rfl, hb1⟩; have hown0 := own_below hown hb1; have hbl1 := hbl.trans (hb1.mono hbs)) | (at_builtin; refine wpList_append_own _ rfl (.tmp 98) (.tmp 101) 22 rfl w.heap.size 27 i0 (.int .u16 0) 1 2 Tryd.underlying22 hi0 hz0 hz1 hz2 rfl (by decide) _ m _ rfl (hown0.alloc _) ⟨w1.heap.size, 0, none⟩ 1 1 [.int .u16 R] rfl rfl ?c1 ?c2 ?c3 ?c4 ?c5 ?_))
                case c1 =>
                  intro j u hj
                  match j, hj with
                  | 0, hj => simp at hj; subst hj; simp [Addr.add]
                  | (j + 1), hj => simp at hj
                case c2 => intro u hu; simp at hu; subst hu; rfl
                case c3 => unfold maxLen; omega
                case c4 => omega
                case c5 => have := hbl1.size; simp; omega
                intro v' w2 hown1 hgrow hnn
                have hbl2 := below_step hown0 hbl1 hbl1.size hgrow
                have hcu : cuZ R = [R] := by unfold cuZ; rw [if_neg (by omega)]
                have HC := Lib.hid hcu
                clear hcu hnn
                go_wp2
                go_roundw
                case rel => exact ⟨k + K, m + 1, P ++ cuZ R, by omega, by go_num, by rw [HC.out, HM.out]; simp, by rw [HC.out, List.map_append]; exact hown1, hbl2, by omega, by rw [HT.out, HS.out, List.append_assoc]⟩
                case measure => simp [intOf]; omega
          · have hsur : surZ ((bytesZ s).drop k) = false := by
              simp only [surZ, decide_eq_false_iff_not, E0.out, E1.out, E2.out, EL.out]
              omega
            have hnx : nextZ ((bytesZ s).drop k) = decZ (bytesZ (s.extract k s.size)) := by rw [bytesZ_drop]; unfold nextZ; rw [hsur]; rfl
            have cN := Tryd.utf8_DecodeRuneInString (s.extract k s.size) wr hTr
            have hp := nextZ_pos hne
            have hstep := unitsZ_step hne
            have hd := decodeGo_eq (s.extract k s.size)
            rw [← hnx] at hd
            obtain ⟨R, hR⟩ : ∃ R : Int, (nextZ ((bytesZ s).drop k)).1 = R := ⟨_, rfl⟩
            obtain ⟨K, hK⟩ : ∃ K : Nat, (nextZ ((bytesZ s).drop k)).2 = (K : Int) := ⟨(nextZ ((bytesZ s).drop k)).2.toNat, by omega⟩
            have hd1 : ((Lib.decodeGo (s.extract k s.size)).1 : Int) = R := by rw [← hR]; exact congrArg Prod.fst hd
            have hd2 : ((Lib.decodeGo (s.extract k s.size)).2 : Int) = (K : Int) := by rw [← hK]; exact congrArg Prod.snd hd
            rw [hd1, hd2] at cN
            rw [hR, hK] at hp hstep
            rw [List.length_drop, bytesZ_length] at hp
            rw [Int.toNat_natCast, List.drop_drop] at hstep
            have HS := Lib.hid hstep
            clear hstep hR hK hne hd hd1 hd2 hnx hsur
            obtain ⟨hp1, hp2, hp3, hp4⟩ := hp
            by_cases hbig : 65536 ≤ R
            · go_wp2_with (first | (go_at_call 19; refine cN.mono ?_; rintro e w1 ⟨rfl, hb1⟩; have hown0 := own_below hown hb1; have hbl1 := hbl.trans (hb1.mono hbs)) | (at_builtin; refine wpList_append_own _ rfl (.tmp 83) (.tmp 96) 22 rfl w.heap.size 27 i0 (.int .u16 0) 1 2 Tryd.underlying22 hi0 hz0 hz1 hz2 rfl (by decide) _ m _ rfl (hown0.alloc _) ⟨w1.heap.size, 0, none⟩ 2 2 [.int .u16 (55296 + (R - 65536) / 1024), .int .u16 (56320 + (R - 65536) % 1024)] rfl rfl ?c1 ?c2 ?c3 ?c4 ?c5 ?_))
              case c1 =>
                intro j u hj
                match j, hj with
                | 0, hj => simp at hj; subst hj; simp [Addr.add]
                | 1, hj => simp at hj; subst hj; simp [Addr.add]
                | (j + 2), hj => simp at hj
              case c2 => intro u hu; simp at hu; rcases hu with rfl | rfl <;> rfl
              case c3 => unfold maxLen; omega
              case c4 => omega
              case c5 => have := hbl1.size; simp; omega
              intro v' w2 hown1 hgrow hnn
              have hbl2 := below_step hown0 hbl1 hbl1.size hgrow
              have hcu : cuZ R = [55296 + (R - 65536) / 1024, 56320 + (R - 65536) % 1024] := by unfold cuZ; rw [if_pos hbig]
              have HC := Lib.hid hcu
              clear hcu hnn
              go_wp2
              go_roundw
              case rel => exact ⟨k + K, m + 2, P ++ cuZ R, by omega, by go_num, by rw [HC.out, HM.out]; simp, by rw [HC.out, List.map_append]; exact hown1, hbl2, by omega, by rw [HT.out, HS.out, List.append_assoc]⟩
              case measure => simp [intOf]; omega
            · go_wp2_with (first | (go_at_call 19; refine cN.mono ?_; rintro e w1 ⟨rfl, hb1⟩; have hown0 := own_below hown hb1; have hbl1 := hbl.trans (hb1.mono hbs)) | (at_builtin; refine wpList_append_own _ rfl (.tmp 98) (.tmp 101) 22 rfl w.heap.size 27 i0 (.int .u16 0) 1 2 Tryd.underlying22 hi0 hz0 hz1 hz2 rfl (by decide) _ m _ rfl (hown0.alloc _) ⟨w1.heap.size, 0, none⟩ 1 1 [.int .u16 R] rfl rfl ?c1 ?c2 ?c3 ?c4 ?c5 ?_))
              case c1 =>
                intro j u hj
                match j, hj with
                | 0, hj => simp at hj; subst hj; simp [Addr.add]
                | (j + 1), hj => simp at hj
              case c2 => intro u hu; simp at hu; subst hu; rfl
              case c3 => unfold maxLen; omega
              case c4 => omega
              case c5 => have := hbl1.size; simp; omega
              intro v' w2 hown1 hgrow hnn
              have hbl2 := below_step hown0 hbl1 hbl1.size hgrow
              have hcu : cuZ R = [R] := by unfold cuZ; rw [if_neg (by omega)]
              have HC := Lib.hid hcu
              clear hcu hnn
              go_wp2
              go_roundw
              case rel => exact ⟨k + K, m + 1, P ++ cuZ R, by omega, by go_num, by rw [HC.out, HM.out]; simp, by rw [HC.out, List.map_append]; exact hown1, hbl2, by omega, by rw [HT.out, HS.out, List.append_assoc]⟩
              case measure => simp [intOf]; omega
        · have h2' : ((x0.toNat : Int) == 237) = false := by simpa using h2
          have hsur : surZ ((bytesZ s).drop k) = false := by
            simp only [surZ, decide_eq_false_iff_not, E0.out, E1.out, E2.out, EL.out]
            omega
          have hnx : nextZ ((bytesZ s).drop k) = decZ (bytesZ (s.extract k s.size)) := by rw [bytesZ_drop]; unfold nextZ; rw [hsur]; rfl
          have cN := Tryd.utf8_DecodeRuneInString (s.extract k s.size) wr hTr
          have hp := nextZ_pos hne
          have hstep := unitsZ_step hne
          have hd := decodeGo_eq (s.extract k s.size)
          rw [← hnx] at hd
          obtain ⟨R, hR⟩ : ∃ R : Int, (nextZ ((bytesZ s).drop k)).1 = R := ⟨_, rfl⟩
          obtain ⟨K, hK⟩ : ∃ K : Nat, (nextZ ((bytesZ s).drop k)).2 = (K : Int) := ⟨(nextZ ((bytesZ s).drop k)).2.toNat, by omega⟩
          have hd1 : ((Lib.decodeGo (s.extract k s.size)).1 : Int) = R := by rw [← hR]; exact congrArg Prod.fst hd
          have hd2 : ((Lib.decodeGo (s.extract k s.size)).2 : Int) = (K : Int) := by rw [← hK]; exact congrArg Prod.snd hd
          rw [hd1, hd2] at cN
          rw [hR, hK] at hp hstep
          rw [List.length_drop, bytesZ_length] at hp
          rw [Int.toNat_natCast, List.drop_drop] at hstep
          have HS := Lib.hid hstep
          clear hstep hR hK hne hd hd1 hd2 hnx hsur
          obtain ⟨hp1, hp2, hp3, hp4⟩ := hp
          by_cases hbig : 65536 ≤ R
          · go_wp2_with (first | (go_at_call 19; refine cN.mono ?_; rintro e w1 ⟨rfl, hb1⟩; have hown0 := own_below hown hb1; have hbl1 := hbl.trans (hb1.mono hbs)) | (at_builtin; refine wpList_append_own _ rfl (.tmp 83) (.tmp 96) 22 rfl w.heap.size 27 i0 (.int .u16 0) 1 2 Tryd.underlying22 hi0 hz0 hz1 hz2 rfl (by decide) _ m _ rfl (hown0.alloc _) ⟨w1.heap.size, 0, none⟩ 2 2 [.int .u16 (55296 + (R - 65536) / 1024), .int .u16 (56320 + (R - 65536) % 1024)] rfl rfl ?c1 ?c2 ?c3 ?c4 ?c5 ?_))
            case c1 =>
              intro j u hj
              match j, hj with
              | 0, hj => simp at hj; subst hj; simp [Addr.add]
              | 1, hj => simp at hj; subst hj; simp [Addr.add]
              | (j + 2), hj => simp at hj
            case c2 => intro u hu; simp at hu; rcases hu with rfl | rfl <;> rfl
            case c3 => unfold maxLen; omega
            case c4 => omega
            case c5 => have := hbl1.size; simp; omega
            intro v' w2 hown1 hgrow hnn
            have hbl2 := below_step hown0 hbl1 hbl1.size hgrow
            have hcu : cuZ R = [55296 + (R - 65536) / 1024, 56320 + (R - 65536) % 1024] := by unfold cuZ; rw [if_pos hbig]
            have HC := Lib.hid hcu
            clear hcu hnn
            go_wp2
            go_roundw
            case rel => exact ⟨k + K, m + 2, P ++ cuZ R, by omega, by go_num, by rw [HC.out, HM.out]; simp, by rw [HC.out, List.map_append]; exact hown1, hbl2, by omega, by rw [HT.out, HS.out, List.append_assoc]⟩
            case measure => simp [intOf]; omega
          · go_wp2_with (first | (go_at_call 19; refine cN.mono ?_; rintro e w1 ⟨rfl, hb1⟩; have hown0 := own_below hown hb1; have hbl1 := hbl.trans (hb1.mono hbs)) | (at_builtin; refine wpList_append_own _ rfl (.tmp 98) (.tmp 101) 22 rfl w.heap.size 27 i0 (.int .u16 0) 1 2 Tryd.underlying22 hi0 hz0 hz1 hz2 rfl (by decide) _ m _ rfl (hown0.alloc _) ⟨w1.heap.size, 0, none⟩ 1 1 [.int .u16 R] rfl rfl ?c1 ?c2 ?c3 ?c4 ?c5 ?_))
            case c1 =>
              intro j u hj
              match j, hj with
              | 0, hj => simp at hj; subst hj; simp [Addr.add]
              | (j + 1), hj => simp at hj
            case c2 => intro u hu; simp at hu; subst hu; rfl
            case c3 => unfold maxLen; omega
            case c4 => omega
            case c5 => have := hbl1.size; simp; omega
            intro v' w2 hown1 hgrow hnn
            have hbl2 := below_step hown0 hbl1 hbl1.size hgrow
            have hcu : cuZ R = [R] := by unfold cuZ; rw [if_neg (by omega)]
            have HC := Lib.hid hcu
            clear hcu hnn
            go_wp2
            go_roundw
            case rel => exact ⟨k + K, m + 1, P ++ cuZ R, by omega, by go_num, by rw [HC.out, HM.out]; simp, by rw [HC.out, List.map_append]; exact hown1, hbl2, by omega, by rw [HT.out, HS.out, List.append_assoc]⟩
            case measure => simp [intOf]; omega
      · have hsur : surZ ((bytesZ s).drop k) = false := by
          simp only [surZ, decide_eq_false_iff_not, List.length_drop, bytesZ_length]
          omega
        have hnx : nextZ ((bytesZ s).drop k) = decZ (bytesZ (s.extract k s.size)) := by rw [bytesZ_drop]; unfold nextZ; rw [hsur]; rfl
        have cN := Tryd.utf8_DecodeRuneInString (s.extract k s.size) wr hTr
        have hp := nextZ_pos hne
        have hstep := unitsZ_step hne
        have hd := decodeGo_eq (s.extract k s.size)
        rw [← hnx] at hd
        obtain ⟨R, hR⟩ : ∃ R : Int, (nextZ ((bytesZ s).drop k)).1 = R := ⟨_, rfl⟩
        obtain ⟨K, hK⟩ : ∃ K : Nat, (nextZ ((bytesZ s).drop k)).2 = (K : Int) := ⟨(nextZ ((bytesZ s).drop k)).2.toNat, by omega⟩
        have hd1 : ((Lib.decodeGo (s.extract k s.size)).1 : Int) = R := by rw [← hR]; exact congrArg Prod.fst hd
        have hd2 : ((Lib.decodeGo (s.extract k s.size)).2 : Int) = (K : Int) := by rw [← hK]; exact congrArg Prod.snd hd
        rw [hd1, hd2] at cN
        rw [hR, hK] at hp hstep
        rw [List.length_drop, bytesZ_length] at hp
        rw [Int.toNat_natCast, List.drop_drop] at hstep
        have HS := Lib.hid hstep
        clear hstep hR hK hne hd hd1 hd2 hnx hsur
        obtain ⟨hp1, hp2, hp3, hp4⟩ := hp
        have h1' : ¬ (2 : Int) < (s.size : Int) - (k : Int) := by omega
        by_cases hbig : 65536 ≤ R
        · go_wp2_with (first | (go_at_call 19; refine cN.mono ?_; rintro e w1 ⟨rfl, hb1⟩; have hown0 := own_below hown hb1; have hbl1 := hbl.trans (hb1.mono hbs)) | (at_builtin; refine wpList_append_own _ rfl (.tmp 83) (.tmp 96) 22 rfl w.heap.size 27 i0 (.int .u16 0) 1 2 Tryd.underlying22 hi0 hz0 hz1 hz2 rfl (by decide) _ m _ rfl (hown0.alloc _) ⟨w1.heap.size, 0, none⟩ 2 2 [.int .u16 (55296 + (R - 65536) / 1024), .int .u16 (56320 + (R - 65536) % 1024)] rfl rfl ?c1 ?c2 ?c3 ?c4 ?c5 ?_))
          case c1 =>
            intro j u hj
            match j, hj with
            | 0, hj => simp at hj; subst hj; simp [Addr.add]
            | 1, hj => simp at hj; subst hj; simp [Addr.add]
            | (j + 2), hj => simp at hj
          case c2 => intro u hu; simp at hu; rcases hu with rfl | rfl <;> rfl
          case c3 => unfold maxLen; omega
          case c4 => omega
          case c5 => have := hbl1.size; simp; omega
          intro v' w2 hown1 hgrow hnn
          have hbl2 := below_step hown0 hbl1 hbl1.size hgrow
          have hcu : cuZ R = [55296 + (R - 65536) / 1024, 56320 + (R - 65536) % 1024] := by unfold cuZ; rw [if_pos hbig]
          have HC := Lib.hid hcu
          clear hcu hnn
          go_wp2
          go_roundw
          case rel => exact ⟨k + K, m + 2, P ++ cuZ R, by omega, by go_num, by rw [HC.out, HM.out]; simp, by rw [HC.out, List.map_append]; exact hown1, hbl2, by omega, by rw [HT.out, HS.out, List.append_assoc]⟩
          case measure => simp [intOf]; omega
        · go_wp2_with (first | (go_at_call 19; refine cN.mono ?_; rintro e w1 ⟨rfl, hb1⟩; have hown0 := own_below hown hb1; have hbl1 := hbl.trans (hb1.mono hbs)) | (at_builtin; refine wpList_append_own _ rfl (.tmp 98) (.tmp 101) 22 rfl w.heap.size 27 i0 (.int .u16 0) 1 2 Tryd.underlying22 hi0 hz0 hz1 hz2 rfl (by decide) _ m _ rfl (hown0.alloc _) ⟨w1.heap.size, 0, none⟩ 1 1 [.int .u16 R] rfl rfl ?c1 ?c2 ?c3 ?c4 ?c5 ?_))
          case c1 =>
            intro j u hj
            match j, hj with
            | 0, hj => simp at hj; subst hj; simp [Addr.add]
            | (j + 1), hj => simp at hj
          case c2 => intro u hu; simp at hu; subst hu; rfl
          case c3 => unfold maxLen; omega
          case c4 => omega
          case c5 => have := hbl1.size; simp; omega
          intro v' w2 hown1 hgrow hnn
          have hbl2 := below_step hown0 hbl1 hbl1.size hgrow
          have hcu : cuZ R = [R] := by unfold cuZ; rw [if_neg (by omega)]
          have HC := Lib.hid hcu
          clear hcu hnn
          go_wp2
          go_roundw
          case rel => exact ⟨k + K, m + 1, P ++ cuZ R, by omega, by go_num, by rw [HC.out, HM.out]; simp, by rw [HC.out, List.map_append]; exact hown1, hbl2, by omega, by rw [HT.out, HS.out, List.append_assoc]⟩
          case measure => simp [intOf]; omega
    · have HE : Hid (unitsZ (bytesZ s) = P) := by
        show unitsZ (bytesZ s) = P
        rw [HT.out, List.drop_eq_nil_of_le (by rw [bytesZ_length]; omega), unitsZ_nil, List.append_nil]
      go_wp2
      go_ret
      exact ⟨_, rfl, by rw [HE.out, ← HM.out]; exact hown, hbl⟩
end Go.Proofs.YtmhbkilidpbenaaDoor
