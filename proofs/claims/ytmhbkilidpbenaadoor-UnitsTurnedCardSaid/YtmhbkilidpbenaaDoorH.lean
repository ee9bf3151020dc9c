/- Contracts of a packed text's List and String, of Pack and Of. -/
import Derived.Test.YtmhbkilidpbenaaDoorD
import Derived.Test.YtmhbkilidpbenaaDoorG
namespace Go.Proofs.YtmhbkilidpbenaaDoor
open Go.RowKit

def cellsU (k : IntKind) (l : List Int) : Array Value := (l.map (Value.int k)).toArray
theorem made_zero (k : IntKind) (n : Nat) : madeCells #[.int k 0] n = cellsU k (List.replicate n 0) := by
  apply Array.ext
  · simp [madeCells, cellsU]
  · intro i h1 h2
    simp [madeCells, cellsU, Nat.mod_one]
theorem run_make16 (n : Nat) (hn : n ≤ 1099511627776) (W : World) :
    (Instr.makeSlice 22 (.int .i64 (n : Int)) (.int .i64 (n : Int))).run Tryd.prog W = .ok (.slice (some ⟨W.heap.size, 0, none⟩) n n) (W.alloc (.cells (cellsU .u16 (List.replicate n 0)) 27)) := by
  obtain ⟨i0, hi0, hz0, hz1, hz2⟩ := info_parts u16_info
  have h := run_make (P := Tryd.prog) W 22 27 i0 (.int .u16 0) Tryd.underlying22 hi0 hz0 .i64 .i64 n n (by omega) (by omega) (by rw [hz2]; omega) (by omega)
  rw [hz1, Nat.mul_one, Int.toNat_natCast] at h
  rw [h, ← made_zero]
  rfl
theorem run_make8 (l c : Nat) (hl : l ≤ c) (hn : c ≤ 4398046511104) (W : World) :
    (Instr.makeSlice 32 (.int .i64 (l : Int)) (.int .i64 (c : Int))).run Tryd.prog W = .ok (.slice (some ⟨W.heap.size, 0, none⟩) l c) (W.alloc (.cells (cellsU .u8 (List.replicate c 0)) 5)) := by
  obtain ⟨i0, hi0, hz0, hz1, hz2⟩ := info_parts byte_info
  have h := run_make (P := Tryd.prog) W 32 5 i0 (.int .u8 0) Tryd.underlying32 hi0 hz0 .i64 .i64 l c (by omega) (by omega) (by rw [hz2]; omega) (by omega)
  rw [hz1, Nat.mul_one, Int.toNat_natCast, Int.toNat_natCast] at h
  rw [h, ← made_zero]
  rfl
theorem cellsU_get (k : IntKind) (l : List Int) (i : Nat) (h : i < l.length) : (cellsU k l)[i]? = some (.int k (l.getD i 0)) := by
  simp [cellsU, List.getD, h]
theorem cellsU_set (k : IntKind) (l : List Int) (i : Nat) (x : Int) : (cellsU k l).setIfInBounds i (.int k x) = cellsU k (l.set i x) := by
  apply Array.toList_inj.1
  simp [cellsU]
theorem set_zero (us : List Int) (k n : Nat) (hn : us.length = n) (hk : k < n) : (us.take k ++ List.replicate (n - k) 0).set k (us.getD k 0) = us.take (k + 1) ++ List.replicate (n - (k + 1)) 0 := by
  have e1 : (us.take k).length = k := by rw [List.length_take]; omega
  have e2 : List.replicate (n - k) (0 : Int) = 0 :: List.replicate (n - (k + 1)) 0 := by
    rw [show n - k = (n - (k + 1)) + 1 by omega, List.replicate_succ]
  rw [e2, List.set_append_right _ _ (by omega), e1, Nat.sub_self, List.set_cons_zero, List.take_succ_eq_append_getElem (by omega), List.append_assoc]
  simp [List.getD, List.getElem?_eq_getElem (show k < us.length by omega)]
theorem Blk.rdU {w : World} {g n : Nat} {us : List Int} (h : Blk w g 27 (cellsU .u16 us)) (hl : us.length = n) : RdU w w.heap.size (some ⟨g, 0, none⟩) n us :=
  ⟨hl, fun _ => ⟨g, 0, rfl, h.lt, fun k hk => by rw [h.cell, Nat.zero_add]; exact cellsU_get _ _ _ (by omega)⟩⟩

set_option maxHeartbeats 1600000 in
set_option maxRecDepth 100000 in
theorem list_any (s : ByteArray) (us : List Int) (w : World) (h : Packed s us) :
    Calls Tryd.prog 35 #[.string s] w fun e w' => ∃ A c, e = .returned (.slice A us.length c) ∧ RdU w' w'.heap.size A us.length us ∧ Below w.heap.size w w' := by
  obtain ⟨n, hn⟩ : ∃ n, us.length = n := ⟨_, rfl⟩
  have hb := h.2.2
  rw [hn] at hb ⊢
  have hmk := run_make16 n hb
  have HP := Lib.hid h
  have HN := Lib.hid hn
  have cL := len_any s us w h
  rw [hn] at cL
  clear h hn
  go_enter Tryd.func35, Tryd.ntmps35
  go_wp2_with (go_at_call 38; refine cL.mono ?_; rintro e w' ⟨rfl, rfl⟩)
  clear hmk
  go_loopw [4, 10] (fun _ i wr => ∃ k : Nat, k ≤ n ∧ i = .int .i64 k ∧ Blk wr w.heap.size 27 (cellsU .u16 (us.take k ++ List.replicate (n - k) 0)) ∧ Below w.heap.size w wr) (fun _ i _ => n - (intOf i).toNat)
  case atStart => exact ⟨0, Nat.zero_le _, rfl, by simpa using Blk.new w 27 (cellsU .u16 (List.replicate n 0)), (Below.refl _ _).alloc (Nat.le_refl _) _⟩
  case round =>
    obtain ⟨k, hk, rfl, hB, hbl⟩ := hrel
    have HB := Lib.hid hB
    by_cases hlt : k < n
    · have hlen : (us.take k ++ List.replicate (n - k) (0 : Int)).length = n := by
        have := HN.out
        rw [List.length_append, List.length_take, List.length_replicate]; omega
      have c1 : wr.cell? ⟨w.heap.size, k, none⟩ = some (.int .u16 ((us.take k ++ List.replicate (n - k) (0 : Int)).getD k 0)) := by
        rw [hB.cell]; exact cellsU_get _ _ _ (by omega)
      obtain ⟨x, hx⟩ : ∃ x, (us.take k ++ List.replicate (n - k) (0 : Int)).getD k 0 = x := ⟨_, rfl⟩
      rw [hx] at c1
      have f1 : wr.frozen? ⟨w.heap.size, k, none⟩ = false := hB.frozen k
      have cA := at_any s us k wr HP.out (by rw [HN.out]; exact hlt)
      obtain ⟨y, hy⟩ : ∃ y, us.getD k 0 = y := ⟨_, rfl⟩
      rw [hy] at cA
      have hset := hB.set_ k (.int .u16 y)
      rw [cellsU_set, ← hy, set_zero us k n HN.out hlt, hy] at hset
      have HS := Lib.hid hset
      have hbl2 := hbl.setCell (p := ⟨w.heap.size, k, none⟩) (Nat.le_refl _) (.int .u16 y)
      clear hset hx hy hlen hB
      go_wp2_with (go_at_call 40; refine cA.mono ?_; rintro e w' ⟨rfl, q, rfl⟩)
      go_roundw
      case rel => exact ⟨k + 1, by omega, by go_num, HS.out, below_drewN hbl2 q⟩
      case measure => simp [intOf]; omega
    · have hk' : k = n := by omega
      subst hk'
      have e : us.take k ++ List.replicate (k - k) (0 : Int) = us := by
        have := HN.out
        rw [List.take_of_length_le (by omega), Nat.sub_self]
        simp
      rw [e] at hB
      have hr := hB.rdU HN.out
      clear e hB
      go_wp2
      go_ret
      exact ⟨_, _, rfl, hr, hbl⟩

set_option maxHeartbeats 1600000 in
set_option maxRecDepth 100000 in
theorem pack_any (A : Option Addr) (n c : Nat) (us : List Int) (w : World) (hn : n ≤ 1099511627776) (ha : RdU w w.heap.size A n us) (hr : ∀ u ∈ us, 0 ≤ u ∧ u ≤ 65535) :
    Calls Tryd.prog 33 #[.slice A n c] w fun e w' => e = .returned (.string (strOfNums (packZ us))) ∧ Below w.heap.size w w' := by
  have hmk := run_make8 0 (2 * n) (by omega) (by omega)
  rw [show ((2 * n : Nat) : Int) = 2 * (n : Int) by omega, show ((0 : Nat) : Int) = 0 by rfl] at hmk
  obtain ⟨i0, hi0, hz0, hz1, hz2⟩ := info_parts byte_info
  have HA := Lib.hid ha
  have HR := Lib.hid hr
  clear ha hr
  go_enter Tryd.func33, Tryd.ntmps33
  go_wp2
  clear hmk
  go_loopw [3, 5, 12] (fun v _ i wr => ∃ k m : Nat, k ≤ n ∧ i = .int .i64 k ∧ m = 2 * k ∧ wr.ownsRow w.heap.size 5 1 v m ((packZ (us.take k)).map (Value.int .u8)) ∧ Below w.heap.size w wr) (fun _ _ i _ => n - (intOf i).toNat)
  case atStart => exact ⟨0, 0, Nat.zero_le _, rfl, rfl, World.ownsRow_made w _ (2 * n) (Nat.le_refl _) (by unfold maxLen; omega) (by simp [cellsU]), (Below.refl _ _).alloc (Nat.le_refl _) _⟩
  case round =>
    obtain ⟨k, m, hk, rfl, hm, hown, hbl⟩ := hrel
    have HM := Lib.hid hm
    have hm2 : m ≤ 2 * n := by omega
    clear hm
    have hbs := hbl.size
    by_cases hlt : k < n
    · obtain ⟨b, off, rfl, hb, hc⟩ := HA.out.2 (by omega)
      have c1 : wr.cell? ⟨b, off + k, none⟩ = some (.int .u16 (us.getD k 0)) := by rw [hbl.cell (p := ⟨b, off + k, none⟩) hb]; exact hc k hlt
      clear hc
      have hkl : k < us.length := by rw [HA.out.1]; exact hlt
      have hu := HR.out (us.getD k 0) (by
        rw [List.getD, List.getElem?_eq_getElem hkl]
        exact List.getElem_mem _)
      have hstep : packZ (us.take (k + 1)) = packZ (us.take k) ++ [us.getD k 0 / 256, us.getD k 0 % 256] := by
        rw [List.take_succ_eq_append_getElem hkl, packZ_append]
        simp [packZ_cons, packZ_nil, List.getD, List.getElem?_eq_getElem hkl]
      obtain ⟨x, hx⟩ : ∃ x, us.getD k 0 = x := ⟨_, rfl⟩
      rw [hx] at c1 hu hstep
      have HS := Lib.hid hstep
      clear hx hstep
      obtain ⟨hu0, hu1⟩ := hu
      go_wp2_with (at_builtin; refine wpList_append_own _ rfl (.tmp 16) (.tmp 22) 32 rfl w.heap.size 5 i0 (.int .u8 0) 1 1 Tryd.underlying32 hi0 hz0 hz1 hz2 rfl (by decide) _ m _ rfl (hown.alloc _) ⟨wr.heap.size, 0, none⟩ 2 2 [.int .u8 (x / 256), .int .u8 (x % 256)] rfl rfl ?c1 ?c2 ?c3 ?c4 ?c5 ?_)
      case c1 =>
        intro j u hj
        match j, hj with
        | 0, hj => simp at hj; subst hj; simp [Addr.add]
        | 1, hj => simp at hj; subst hj; simp [Addr.add]
        | (j + 2), hj => simp at hj
      case c2 => intro u hu; simp at hu; rcases hu with rfl | rfl <;> rfl
      case c3 => unfold maxLen; omega
      case c4 => omega
      case c5 => simp; omega
      intro v' w2 hown1 hgrow hnn
      have hbl2 := below_step hown hbl hbs hgrow
      clear hnn
      go_wp2
      go_roundw
      case rel => exact ⟨k + 1, m + 2, by omega, by go_num, by have := HM.out; omega, by rw [HS.out, List.map_append]; exact hown1, hbl2⟩
      case measure => simp [intOf]; omega
    · have hk' : k = n := by omega
      subst hk'
      rw [List.take_of_length_le (by have := HA.out.1; omega)] at hown
      have hcv := conv_own (P := Tryd.prog) 32 39 5 Tryd.underlying32 Tryd.underlying5 Tryd.underlying39 hown
      go_wp2
      go_ret
      exact ⟨rfl, hbl⟩

/-! ### Of -/
theorem Packed.mk {us : List Int} (hr : ∀ u ∈ us, 0 ≤ u ∧ u ≤ 65535) (hl : us.length ≤ 1099511627776) : Packed (strOfNums (packZ us)) us :=
  ⟨bytesZ_str (packZ_byte hr), hr, hl⟩
theorem units_small {s : ByteArray} (hn : s.size ≤ 274877906944) : (unitsZ (bytesZ s)).length ≤ 1099511627776 := by
  have h1 := unitsZ_length _ (bytesZ s) rfl
  rw [bytesZ_length] at h1
  omega
theorem units_rng (s : ByteArray) : ∀ u ∈ unitsZ (bytesZ s), 0 ≤ u ∧ u ≤ 65535 := unitsZ_range _ _ rfl
theorem cells_own {w : World} {B g : Nat} {l : List Int} {n : Nat} (h : Blk w g 5 (cellsU .u8 l)) (hB : B ≤ g) (hl : l.length = n) (hm : n ≤ maxLen) : w.ownsRow B 5 1 (.slice (some ⟨g, 0, none⟩) n n) n (l.map (Value.int .u8)) :=
  ⟨by simp [hl], .inr ⟨g, n, cellsU .u8 l, rfl, hB, h, Nat.le_refl _, hm, by simp [cellsU, hl], by simp [cellsU, ← hl]; exact List.take_of_length_le (by simp)⟩⟩
theorem set_odd (bs : List Int) (k n : Nat) (hn : bs.length = n) (hk : k < n) (h0 : 0 ≤ bs.getD k 0) (h1 : bs.getD k 0 < 256) :
    (packZ (bs.take k) ++ List.replicate (2 * (n - k)) 0).set (2 * k + 1) (bs.getD k 0) = packZ (bs.take (k + 1)) ++ List.replicate (2 * (n - (k + 1))) 0 := by
  have e1 : (packZ (bs.take k)).length = 2 * k := by rw [packZ_length, List.length_take]; omega
  have e2 : List.replicate (2 * (n - k)) (0 : Int) = 0 :: 0 :: List.replicate (2 * (n - (k + 1))) 0 := by
    rw [show 2 * (n - k) = (2 * (n - (k + 1)) + 1) + 1 by omega, List.replicate_succ, List.replicate_succ]
  have e3 : bs[k]'(by omega) = bs.getD k 0 := by simp [List.getD, List.getElem?_eq_getElem (show k < bs.length by omega)]
  rw [e2, List.set_append_right _ _ (by omega), e1, show 2 * k + 1 - 2 * k = 1 by omega, List.take_succ_eq_append_getElem (by omega), packZ_append, List.append_assoc, e3, packZ_cons, packZ_nil]
  rw [show bs.getD k 0 / 256 = 0 by omega, show bs.getD k 0 % 256 = bs.getD k 0 by omega]
  rfl

set_option maxHeartbeats 1600000 in
set_option maxRecDepth 100000 in
/-- Of: any text, packed. -/
theorem of_any (s : ByteArray) (w : World) (hT : Lib.Utf8Tabs 1 2 w) (hn : s.size ≤ 274877906944) :
    Calls Tryd.prog 24 #[.string s] w fun e w' => e = .returned (.string (strOfNums (packZ (unitsZ (bytesZ s))))) ∧ Below w.heap.size w w' := by
  have hmk := run_make8 (2 * s.size) (2 * s.size) (by omega) (by omega)
  rw [show ((2 * s.size : Nat) : Int) = 2 * (s.size : Int) by omega] at hmk
  have HMK := Lib.hid hmk
  clear hmk
  have cU := units_any s w hT (by omega)
  go_enter Tryd.func24, Tryd.ntmps24
  go_wp2
  go_loop [3] (fun i => ∃ k : Nat, k ≤ s.size ∧ i = .int .i64 k ∧ ∀ j, j < k → (bytesZ s).getD j 0 < 128) (fun i => s.size - (intOf i).toNat)
  case atStart => exact ⟨0, Nat.zero_le _, rfl, fun j hj => absurd hj (by omega)⟩
  case round =>
    obtain ⟨k, hk, rfl, hall⟩ := hrel
    have HALL := Lib.hid hall
    clear hall
    by_cases hlt : k < s.size
    · have hg := bytesZ_getD s k hlt
      obtain ⟨x, hx⟩ : ∃ x, s[k]'hlt = x := ⟨_, rfl⟩
      rw [hx] at hg
      have HG := Lib.hid hg
      clear hg
      by_cases hbig : 128 ≤ (x.toNat : Int)
      · go_wp2_with (first | (go_at_call 6; refine cU.mono ?_; rintro e w1 ⟨v1, rfl, hown1, hb1, _⟩; obtain ⟨A1, c1, hv1, hrd1⟩ := own_slice hown1; rw [hv1]; clear hv1 hown1) | (go_at_call 33; refine (pack_any _ _ _ _ _ (units_small hn) hrd1 (units_rng s)).mono ?_; rintro e w2 ⟨rfl, hb2⟩))
        go_ret
        exact ⟨rfl, hb1.trans (hb2.mono hb1.size)⟩
      · go_wp2
        go_round
        case rel => exact ⟨k + 1, by omega, by go_num, fun j hj => by
          rcases Nat.lt_or_ge j k with h | h
          · exact HALL.out j h
          · obtain rfl : j = k := by omega
            rw [HG.out]; omega⟩
        case measure => simp [intOf]; omega
    · have hk' : k = s.size := by omega
      subst hk'
      have hasc : unitsZ (bytesZ s) = bytesZ s := unitsZ_ascii _ (fun x hx => by
        obtain ⟨j, hj, rfl⟩ := List.getElem_of_mem hx
        have h1 := HALL.out j (by rw [← bytesZ_length]; exact hj)
        rw [List.getD, List.getElem?_eq_getElem hj] at h1
        exact ⟨(bytesZ_byte s _ (List.getElem_mem _)).1, h1⟩)
      have HE := Lib.hid hasc
      clear hasc
      have hmk := HMK.out
      go_wp2
      clear hmk
      go_loopw [5, 25] (fun _ i wr => ∃ k : Nat, k ≤ s.size ∧ i = .int .i64 k ∧ Blk wr w.heap.size 5 (cellsU .u8 (packZ ((bytesZ s).take k) ++ List.replicate (2 * (s.size - k)) 0)) ∧ Below w.heap.size w wr) (fun _ i _ => s.size - (intOf i).toNat)
      case atStart => exact ⟨0, Nat.zero_le _, rfl, by simpa [packZ_nil] using Blk.new w 5 (cellsU .u8 (List.replicate (2 * s.size) 0)), (Below.refl _ _).alloc (Nat.le_refl _) _⟩
      case round =>
        obtain ⟨k, hk, rfl, hB, hbl⟩ := hrel
        have hlen : (packZ ((bytesZ s).take k) ++ List.replicate (2 * (s.size - k)) (0 : Int)).length = 2 * s.size := by
          rw [List.length_append, packZ_length, List.length_take, List.length_replicate, bytesZ_length]; omega
        by_cases hlt : k < s.size
        · have c1 : wr.cell? ⟨w.heap.size, 2 * k + 1, none⟩ = some (.int .u8 ((packZ ((bytesZ s).take k) ++ List.replicate (2 * (s.size - k)) (0 : Int)).getD (2 * k + 1) 0)) := by
            rw [hB.cell]; exact cellsU_get _ _ _ (by omega)
          obtain ⟨z, hz⟩ : ∃ z, (packZ ((bytesZ s).take k) ++ List.replicate (2 * (s.size - k)) (0 : Int)).getD (2 * k + 1) 0 = z := ⟨_, rfl⟩
          rw [hz] at c1
          have f1 : wr.frozen? ⟨w.heap.size, 2 * k + 1, none⟩ = false := hB.frozen _
          have hg := bytesZ_getD s k hlt
          obtain ⟨x, hx⟩ : ∃ x, s[k]'hlt = x := ⟨_, rfl⟩
          rw [hx] at hg
          have hset := hB.set_ (2 * k + 1) (.int .u8 (x.toNat : Int))
          rw [cellsU_set, ← hg, set_odd (bytesZ s) k s.size (bytesZ_length s) hlt (by rw [hg]; omega) (by rw [hg]; have := x.toNat_lt; omega), hg] at hset
          have HS := Lib.hid hset
          have hbl2 := hbl.setCell (p := ⟨w.heap.size, 2 * k + 1, none⟩) (Nat.le_refl _) (.int .u8 (x.toNat : Int))
          clear hset hg hz hlen hB
          go_wp2
          go_roundw
          case rel => exact ⟨k + 1, by omega, by go_num, HS.out, hbl2⟩
          case measure => simp [intOf]; omega
        · have hk' : k = s.size := by omega
          subst hk'
          rw [Nat.sub_self, List.take_of_length_le (by rw [bytesZ_length]; omega)] at hB hlen
          have e : packZ (bytesZ s) ++ List.replicate (2 * 0) (0 : Int) = packZ (bytesZ s) := by simp
          rw [e] at hB hlen
          have hown := cells_own hB (Nat.le_refl _) hlen (by unfold maxLen; omega)
          have hcv := conv_own (P := Tryd.prog) 32 39 5 Tryd.underlying32 Tryd.underlying5 Tryd.underlying39 hown
          clear hown e hB hlen
          go_wp2
          go_ret
          exact ⟨by rw [HE.out]; rfl, hbl⟩

set_option maxHeartbeats 800000 in
/-- String: the text of a packed text. -/
theorem string_any (s : ByteArray) (us : List Int) (w : World) (h : Packed s us) :
    Calls Tryd.prog 26 #[.string s] w fun e w' => e = .returned (.string (strOfNums (textZ us))) ∧ Below w.heap.size w w' := by
  have cL := list_any s us w h
  have hl := h.2.2
  have HR := Lib.hid h.2.1
  clear h
  go_enter Tryd.func26, Tryd.ntmps26
  go_wp2_with (first | (go_at_call 35; refine cL.mono ?_; rintro e w1 ⟨A, c, rfl, hrd, hb1⟩) | (go_at_call 5; refine (text_any _ _ _ us _ hl hrd HR.out).mono ?_; rintro e w2 ⟨rfl, hb2⟩))
  go_ret
  exact ⟨rfl, hb1.trans (hb2.mono hb1.size)⟩
end Go.Proofs.YtmhbkilidpbenaaDoor
