/- Contracts of White and Ends, the program's and the reference's; of a packed text's Len, At and Sub. Contracts of a packed text's List and String, of Pack and Of. -/
import Derived.Test.YtbcolebomgcphaaGreatFmtDC
import Derived.Test.YtbcolebomgcphaaGreatFmtDU
import Derived.Test.YtbcolebomgcphaaGreatFmtShelg
import Derived.IntWalk
namespace Go.Proofs.YtbcolebomgcphaaGreatFmt.Dr
open Go.RowKit

def endsZ (u : Int) : Bool := u == 10 || u == 13 || u == 8232 || u == 8233
set_option maxHeartbeats 800000 in
theorem ends_any (u : Int) (w : World) :
    Calls Tryz.prog 98 #[.int .u16 u] w fun e w' => e = .returned (.bool (endsZ u)) ∧ w = w' := by
  go_enter Tryz.func98, Tryz.ntmps98
  go_wp2
  all_goals go_ret
  all_goals exact ⟨ret_bool (by simp_all [endsZ]), rfl⟩
theorem at_eq (x y : UInt8) (z : Int) (h0 : 0 ≤ z) (h1 : z ≤ 65535) (hx : (x.toNat : Int) = z / 256) (hy : (y.toNat : Int) = z % 256) :
    bits .or .u16 (IntKind.u16.wrap (IntKind.u16.wrap (x.toNat : Int) * 256)) (IntKind.u16.wrap (y.toNat : Int)) = z := by
  have e1 : IntKind.u16.wrap (IntKind.u16.wrap (x.toNat : Int) * 256) = ((x.toNat * 256 : Nat) : Int) := by
    rw [IntKind.wrap_u16, IntKind.wrap_u16]; omega
  have e2 : IntKind.u16.wrap (y.toNat : Int) = ((y.toNat : Nat) : Int) := by rw [IntKind.wrap_u16]; omega
  rw [e1, e2, u16_or_nat _ _ (by omega) (by omega), nat_join 8 _ _ (by omega) (by omega)]
  omega
theorem ret_i64 {k : IntKind} {a b : Int} (h : a = b) : Ending.returned (.int k a) = .returned (.int k b) := by rw [h]

/-! ### packed texts -/
/-- The string s holds these units, two bytes each. -/
def Packed (s : ByteArray) (us : List Int) : Prop := bytesZ s = packZ us ∧ (∀ u ∈ us, 0 ≤ u ∧ u ≤ 65535) ∧ us.length ≤ 1099511627776
theorem Packed.size {s : ByteArray} {us : List Int} (h : Packed s us) : s.size = 2 * us.length := by rw [← bytesZ_length, h.1, packZ_length]

set_option maxHeartbeats 800000 in
theorem len_any (s : ByteArray) (us : List Int) (w : World) (h : Packed s us) :
    Calls Tryz.prog 59 #[.string s] w fun e w' => e = .returned (.int .i64 us.length) ∧ w = w' := by
  have hs := h.size
  have hl := h.2.2
  have e1 : (s.size : Int) / 2 = (us.length : Int) := by omega
  have HE := Lib.hid e1
  have h2 : (s.size : Int) ≤ 4611686018427387904 := by omega
  clear e1 hs h
  go_enter Tryz.func59, Tryz.ntmps59
  go_wp2
  go_ret
  exact ⟨ret_i64 HE.out, rfl⟩

set_option maxHeartbeats 800000 in
theorem at_any (s : ByteArray) (us : List Int) (k : Nat) (w : World) (h : Packed s us) (hk : k < us.length) :
    Calls Tryz.prog 61 #[.string s, .int .i64 k] w fun e w' => e = .returned (.int .u16 (us.getD k 0)) ∧ ∃ q, w' = w.drewN q := by
  have hs := h.size
  have hl := h.2.2
  have hr := h.2.1 (us.getD k 0) (by
    rw [List.getD, List.getElem?_eq_getElem hk]
    exact List.getElem_mem _)
  have hp := packZ_getD us k hk
  rw [← h.1] at hp
  have k1 : 2 * k < s.size := by omega
  have k2 : 2 * k + 1 < s.size := by omega
  rw [bytesZ_getD s (2 * k) k1, bytesZ_getD s (2 * k + 1) k2] at hp
  obtain ⟨x, hx⟩ : ∃ x, s[2 * k]'k1 = x := ⟨_, rfl⟩
  obtain ⟨y, hy⟩ : ∃ y, s[2 * k + 1]'k2 = y := ⟨_, rfl⟩
  rw [hx, hy] at hp
  obtain ⟨z, hz⟩ : ∃ z, us.getD k 0 = z := ⟨_, rfl⟩
  rw [hz] at hp hr ⊢
  have HP := Lib.hid hp
  obtain ⟨hr0, hr1⟩ := hr
  clear hp hs h hz
  have m1 : 2 * (k : Int) < (s.size : Int) := by omega
  have m2 : 2 * (k : Int) + 1 < (s.size : Int) := by omega
  have q1 : (2 * (k : Int)).toNat = 2 * k := by omega
  have q2 : (2 * (k : Int) + 1).toNat = 2 * k + 1 := by omega
  have w1e : IntKind.i64.wrap (2 * (k : Int)) = 2 * (k : Int) := IntWalk.i64_in _ (by omega)
  have w2e : IntKind.i64.wrap (2 * (k : Int) + 1) = 2 * (k : Int) + 1 := IntWalk.i64_in _ (by omega)
  go_enter Tryz.func61, Tryz.ntmps61
  go_wp2
  go_quiet (fail)
  go_wp2
  go_ret
  exact ⟨ret_i64 (at_eq x y z hr0 hr1 HP.out.1 HP.out.2), _, rfl⟩

set_option maxHeartbeats 800000 in
theorem sub_any (s : ByteArray) (us : List Int) (i k : Nat) (w : World) (h : Packed s us) (hi : i ≤ k) (hk : k ≤ us.length) :
    Calls Tryz.prog 62 #[.string s, .int .i64 i, .int .i64 k] w fun e w' => e = .returned (.string (s.extract (2 * i) (2 * k))) ∧ w = w' := by
  have hs := h.size
  have hl := h.2.2
  have b1 : 2 * i ≤ 2 * k := by omega
  have b2 : 2 * k ≤ s.size := by omega
  have b3 : 2 * (k : Int) ≤ 4611686018427387904 := by omega
  have hsl := fun wx => run_slice_of_slice (P := Tryz.prog) 63 Tryz.underlying63 s 0 s.size (2 * i) (2 * k) (by omega) (by omega) wx
  clear hs h
  go_enter Tryz.func62, Tryz.ntmps62
  go_wp2
  go_ret
  exact ⟨rfl, rfl⟩
theorem Packed.sub {s : ByteArray} {us : List Int} (h : Packed s us) {i k : Nat} (hk : k ≤ us.length) : Packed (s.extract (2 * i) (2 * k)) ((us.take k).drop i) := by
  refine ⟨?_, fun u hu => h.2.1 u (List.mem_of_mem_take (List.mem_of_mem_drop hu)), ?_⟩
  · have e : bytesZ (s.extract (2 * i) (2 * k)) = ((bytesZ s).take (2 * k)).drop (2 * i) := by
      obtain ⟨d⟩ := s
      unfold bytesZ
      rw [← List.map_take, ← List.map_drop]
      congr 1
      rw [ByteArray.data_extract, Array.toList_extract, List.extract, List.drop_take]
    rw [e, h.1, packZ_take, packZ_drop]
  · have := h.2.2
    rw [List.length_drop, List.length_take]
    omega
end Go.Proofs.YtbcolebomgcphaaGreatFmt.Dr

namespace Go.Proofs.YtbcolebomgcphaaGreatFmt.Dr
open Go.RowKit

def cellsU (k : IntKind) (l : List Int) : Array Value := (l.map (Value.int k)).toArray
theorem made_zero (k : IntKind) (n : Nat) : madeCells #[.int k 0] n = cellsU k (List.replicate n 0) := by
  apply Array.ext
  · simp [madeCells, cellsU]
  · intro i h1 h2
    simp [madeCells, cellsU, Nat.mod_one]
theorem run_make16 (n : Nat) (hn : n ≤ 1099511627776) (W : World) :
    (Instr.makeSlice 98 (.int .i64 (n : Int)) (.int .i64 (n : Int))).run Tryz.prog W = .ok (.slice (some ⟨W.heap.size, 0, none⟩) n n) (W.alloc (.cells (cellsU .u16 (List.replicate n 0)) 101)) := by
  obtain ⟨i0, hi0, hz0, hz1, hz2⟩ := info_parts u16_info
  have h := run_make (P := Tryz.prog) W 98 101 i0 (.int .u16 0) Tryz.underlying98 hi0 hz0 .i64 .i64 n n (by omega) (by omega) (by rw [hz2]; omega) (by omega)
  rw [hz1, Nat.mul_one, Int.toNat_natCast] at h
  rw [h, ← made_zero]
  rfl
theorem run_make8 (l c : Nat) (hl : l ≤ c) (hn : c ≤ 4398046511104) (W : World) :
    (Instr.makeSlice 43 (.int .i64 (l : Int)) (.int .i64 (c : Int))).run Tryz.prog W = .ok (.slice (some ⟨W.heap.size, 0, none⟩) l c) (W.alloc (.cells (cellsU .u8 (List.replicate c 0)) 5)) := by
  obtain ⟨i0, hi0, hz0, hz1, hz2⟩ := info_parts byte_info
  have h := run_make (P := Tryz.prog) W 43 5 i0 (.int .u8 0) Tryz.underlying43 hi0 hz0 .i64 .i64 l c (by omega) (by omega) (by rw [hz2]; omega) (by omega)
  rw [hz1, Nat.mul_one, Int.toNat_natCast, Int.toNat_natCast] at h
  rw [h, ← made_zero]
  rfl
theorem cellsU_get (k : IntKind) (l : List Int) (i : Nat) (h : i < l.length) : (cellsU k l)[i]? = some (.int k (l.getD i 0)) := by
  simp [cellsU, List.getD, h]
theorem cellsU_set (k : IntKind) (l : List Int) (i : Nat) (x : Int) : (cellsU k l).setIfInBounds i (.int k x) = cellsU k (l.set i x) := by
  apply Array.toList_inj.1
  simp [cellsU]
theorem set_zero (us : List Int) (k n : Nat) (hn : us.length = n) (hk : k < n) : (us.take k ++ List.replicate (n - k) 0).set k (us.getD k 0) = us.take (k + 1) ++ List.replicate (n - (k + 1)) 0 := by
  have e1 : (us.take k).length = k := by rw [List.length_take]; omega
  have e2 : List.replicate (n - k) (0 : Int) = 0 :: List.replicate (n - (k + 1)) 0 := by
    rw [show n - k = (n - (k + 1)) + 1 by omega, List.replicate_succ]
  rw [e2, List.set_append_right _ _ (by omega), e1, Nat.sub_self, List.set_cons_zero, List.take_succ_eq_append_getElem (by omega), List.append_assoc]
  simp [List.getD, List.getElem?_eq_getElem (show k < us.length by omega)]
theorem Blk.rdU {w : World} {g n : Nat} {us : List Int} (h : Blk w g 101 (cellsU .u16 us)) (hl : us.length = n) : RdU w w.heap.size (some ⟨g, 0, none⟩) n us :=
  ⟨hl, fun _ => ⟨g, 0, rfl, h.lt, fun k hk => by rw [h.cell, Nat.zero_add]; exact cellsU_get _ _ _ (by omega)⟩⟩

set_option maxHeartbeats 1600000 in
set_option maxRecDepth 100000 in
theorem list_any (s : ByteArray) (us : List Int) (w : World) (h : Packed s us) :
    Calls Tryz.prog 64 #[.string s] w fun e w' => ∃ A c, e = .returned (.slice A us.length c) ∧ RdU w' w'.heap.size A us.length us ∧ Below w.heap.size w w' := by
  obtain ⟨n, hn⟩ : ∃ n, us.length = n := ⟨_, rfl⟩
  have hb := h.2.2
  rw [hn] at hb ⊢
  have hmk := run_make16 n hb
  have HP := Lib.hid h
  have HN := Lib.hid hn
  have cL := len_any s us w h
  rw [hn] at cL
  clear h hn
  go_enter Tryz.func64, Tryz.ntmps64
  go_wp2_with (go_at_call 59; refine cL.mono ?_; rintro e w' ⟨rfl, rfl⟩)
  clear hmk
  go_loopw [4, 10] (fun _ i wr => ∃ k : Nat, k ≤ n ∧ i = .int .i64 k ∧ Blk wr w.heap.size 101 (cellsU .u16 (us.take k ++ List.replicate (n - k) 0)) ∧ Below w.heap.size w wr) (fun _ i _ => n - (intOf i).toNat)
  case atStart => exact ⟨0, Nat.zero_le _, rfl, by simpa using Blk.new w 101 (cellsU .u16 (List.replicate n 0)), (Below.refl _ _).alloc (Nat.le_refl _) _⟩
  case round =>
    obtain ⟨k, hk, rfl, hB, hbl⟩ := hrel
    have HB := Lib.hid hB
    by_cases hlt : k < n
    · have hlen : (us.take k ++ List.replicate (n - k) (0 : Int)).length = n := by
        have := HN.out
        rw [List.length_append, List.length_take, List.length_replicate]; omega
      have c1 : wr.cell? ⟨w.heap.size, k, none⟩ = some (.int .u16 ((us.take k ++ List.replicate (n - k) (0 : Int)).getD k 0)) := by
        rw [hB.cell]; exact cellsU_get _ _ _ (by omega)
      obtain ⟨x, hx⟩ : ∃ x, (us.take k ++ List.replicate (n - k) (0 : Int)).getD k 0 = x := ⟨_, rfl⟩
      rw [hx] at c1
      have f1 : wr.frozen? ⟨w.heap.size, k, none⟩ = false := hB.frozen k
      have cA := at_any s us k wr HP.out (by rw [HN.out]; exact hlt)
      obtain ⟨y, hy⟩ : ∃ y, us.getD k 0 = y := ⟨_, rfl⟩
      rw [hy] at cA
      have hset := hB.set_ k (.int .u16 y)
      rw [cellsU_set, ← hy, set_zero us k n HN.out hlt, hy] at hset
      have HS := Lib.hid hset
      have hbl2 := hbl.setCell (p := ⟨w.heap.size, k, none⟩) (Nat.le_refl _) (.int .u16 y)
      clear hset hx hy hlen hB
      go_wp2_with (go_at_call 61; refine cA.mono ?_; rintro e w' ⟨rfl, q, rfl⟩)
      go_roundw
      case rel => exact ⟨k + 1, by omega, by go_num, HS.out, below_drewN hbl2 q⟩
      case measure => simp [intOf]; omega
    · have hk' : k = n := by omega
      subst hk'
      have e : us.take k ++ List.replicate (k - k) (0 : Int) = us := by
        have := HN.out
        rw [List.take_of_length_le (by omega), Nat.sub_self]
        simp
      rw [e] at hB
      have hr := hB.rdU HN.out
      clear e hB
      go_wp2
      go_ret
      exact ⟨_, _, rfl, hr, hbl⟩

set_option maxHeartbeats 1600000 in
set_option maxRecDepth 100000 in
theorem pack_any (A : Option Addr) (n c : Nat) (us : List Int) (w : World) (hn : n ≤ 1099511627776) (ha : RdU w w.heap.size A n us) (hr : ∀ u ∈ us, 0 ≤ u ∧ u ≤ 65535) :
    Calls Tryz.prog 57 #[.slice A n c] w fun e w' => e = .returned (.string (strOfNums (packZ us))) ∧ Below w.heap.size w w' := by
  have hmk := run_make8 0 (2 * n) (by omega) (by omega)
  rw [show ((2 * n : Nat) : Int) = 2 * (n : Int) by omega, show ((0 : Nat) : Int) = 0 by rfl] at hmk
  obtain ⟨i0, hi0, hz0, hz1, hz2⟩ := info_parts byte_info
  have HA := Lib.hid ha
  have HR := Lib.hid hr
  clear ha hr
  go_enter Tryz.func57, Tryz.ntmps57
  go_wp2
  clear hmk
  go_loopw [3, 5, 12] (fun v _ i wr => ∃ k m : Nat, k ≤ n ∧ i = .int .i64 k ∧ m = 2 * k ∧ wr.ownsRow w.heap.size 5 1 v m ((packZ (us.take k)).map (Value.int .u8)) ∧ Below w.heap.size w wr) (fun _ _ i _ => n - (intOf i).toNat)
  case atStart => exact ⟨0, 0, Nat.zero_le _, rfl, rfl, World.ownsRow_made w _ (2 * n) (Nat.le_refl _) (by unfold maxLen; omega) (by simp [cellsU]), (Below.refl _ _).alloc (Nat.le_refl _) _⟩
  case round =>
    obtain ⟨k, m, hk, rfl, hm, hown, hbl⟩ := hrel
    have HM := Lib.hid hm
    have hm2 : m ≤ 2 * n := by omega
    clear hm
    have hbs := hbl.size
    by_cases hlt : k < n
    · obtain ⟨b, off, rfl, hb, hc⟩ := HA.out.2 (by omega)
      have c1 : wr.cell? ⟨b, off + k, none⟩ = some (.int .u16 (us.getD k 0)) := by rw [hbl.cell (p := ⟨b, off + k, none⟩) hb]; exact hc k hlt
      clear hc
      have hkl : k < us.length := by rw [HA.out.1]; exact hlt
      have hu := HR.out (us.getD k 0) (by
        rw [List.getD, List.getElem?_eq_getElem hkl]
        exact List.getElem_mem _)
      have hstep : packZ (us.take (k + 1)) = packZ (us.take k) ++ [us.getD k 0 / 256, us.getD k 0 % 256] := by
        rw [List.take_succ_eq_append_getElem hkl, packZ_append]
        simp [packZ_cons, packZ_nil, List.getD, List.getElem?_eq_getElem hkl]
      obtain ⟨x, hx⟩ : ∃ x, us.getD k 0 = x := ⟨_, rfl⟩
      rw [hx] at c1 hu hstep
      have HS := Lib.hid hstep
      clear hx hstep
      obtain ⟨hu0, hu1⟩ := hu
      go_wp2_with (at_builtin; refine wpList_append_own _ rfl (.tmp 16) (.tmp 22) 43 rfl w.heap.size 5 i0 (.int .u8 0) 1 1 Tryz.underlying43 hi0 hz0 hz1 hz2 rfl (by decide) _ m _ rfl (hown.alloc _) ⟨wr.heap.size, 0, none⟩ 2 2 [.int .u8 (x / 256), .int .u8 (x % 256)] rfl rfl ?c1 ?c2 ?c3 ?c4 ?c5 ?_)
      case c1 =>
        intro j u hj
        match j, hj with
        | 0, hj => simp at hj; subst hj; simp [Addr.add]
        | 1, hj => simp at hj; subst hj; simp [Addr.add]
        | (j + 2), hj => simp at hj
      case c2 => intro u hu; simp at hu; rcases hu with rfl | rfl <;> rfl
      case c3 => unfold maxLen; omega
      case c4 => omega
      case c5 => simp; omega
      intro v' w2 hown1 hgrow hnn
      have hbl2 := below_step hown hbl hbs hgrow
      clear hnn
      go_wp2
      go_roundw
      case rel => exact ⟨k + 1, m + 2, by omega, by go_num, by have := HM.out; omega, by rw [HS.out, List.map_append]; exact hown1, hbl2⟩
      case measure => simp [intOf]; omega
    · have hk' : k = n := by omega
      subst hk'
      rw [List.take_of_length_le (by have := HA.out.1; omega)] at hown
      have hcv := conv_own (P := Tryz.prog) 43 63 5 Tryz.underlying43 Tryz.underlying5 Tryz.underlying63 hown
      go_wp2
      go_ret
      exact ⟨rfl, hbl⟩

/-! ### Of -/
theorem Packed.mk {us : List Int} (hr : ∀ u ∈ us, 0 ≤ u ∧ u ≤ 65535) (hl : us.length ≤ 1099511627776) : Packed (strOfNums (packZ us)) us :=
  ⟨bytesZ_str (packZ_byte hr), hr, hl⟩
theorem units_small {s : ByteArray} (hn : s.size ≤ 274877906944) : (unitsZ (bytesZ s)).length ≤ 1099511627776 := by
  have h1 := unitsZ_length _ (bytesZ s) rfl
  rw [bytesZ_length] at h1
  omega
theorem units_rng (s : ByteArray) : ∀ u ∈ unitsZ (bytesZ s), 0 ≤ u ∧ u ≤ 65535 := unitsZ_range _ _ rfl
theorem cells_own {w : World} {B g : Nat} {l : List Int} {n : Nat} (h : Blk w g 5 (cellsU .u8 l)) (hB : B ≤ g) (hl : l.length = n) (hm : n ≤ maxLen) : w.ownsRow B 5 1 (.slice (some ⟨g, 0, none⟩) n n) n (l.map (Value.int .u8)) :=
  ⟨by simp [hl], .inr ⟨g, n, cellsU .u8 l, rfl, hB, h, Nat.le_refl _, hm, by simp [cellsU, hl], by simp [cellsU, ← hl]; exact List.take_of_length_le (by simp)⟩⟩
theorem set_odd (bs : List Int) (k n : Nat) (hn : bs.length = n) (hk : k < n) (h0 : 0 ≤ bs.getD k 0) (h1 : bs.getD k 0 < 256) :
    (packZ (bs.take k) ++ List.replicate (2 * (n - k)) 0).set (2 * k + 1) (bs.getD k 0) = packZ (bs.take (k + 1)) ++ List.replicate (2 * (n - (k + 1))) 0 := by
  have e1 : (packZ (bs.take k)).length = 2 * k := by rw [packZ_length, List.length_take]; omega
  have e2 : List.replicate (2 * (n - k)) (0 : Int) = 0 :: 0 :: List.replicate (2 * (n - (k + 1))) 0 := by
    rw [show 2 * (n - k) = (2 * (n - (k + 1)) + 1) + 1 by omega, List.replicate_succ, List.replicate_succ]
  have e3 : bs[k]'(by omega) = bs.getD k 0 := by simp [List.getD, List.getElem?_eq_getElem (show k < bs.length by omega)]
  rw [e2, List.set_append_right _ _ (by omega), e1, show 2 * k + 1 - 2 * k = 1 by omega, List.take_succ_eq_append_getElem (by omega), packZ_append, List.append_assoc, e3, packZ_cons, packZ_nil]
  rw [show bs.getD k 0 / 256 = 0 by omega, show bs.getD k 0 % 256 = bs.getD k 0 by omega]
  rfl

set_option maxHeartbeats 1600000 in
set_option maxRecDepth 100000 in
/-- Of: any text, packed. -/
theorem of_any (s : ByteArray) (w : World) (hT : Lib.Utf8Tabs 7 8 w) (hn : s.size ≤ 274877906944) :
    Calls Tryz.prog 34 #[.string s] w fun e w' => e = .returned (.string (strOfNums (packZ (unitsZ (bytesZ s))))) ∧ Below w.heap.size w w' := by
  have hmk := run_make8 (2 * s.size) (2 * s.size) (by omega) (by omega)
  rw [show ((2 * s.size : Nat) : Int) = 2 * (s.size : Int) by omega] at hmk
  have HMK := Lib.hid hmk
  clear hmk
  have cU := units_any s w hT (by omega)
  go_enter Tryz.func34, Tryz.ntmps34
  go_wp2
  go_loop [3] (fun i => ∃ k : Nat, k ≤ s.size ∧ i = .int .i64 k ∧ ∀ j, j < k → (bytesZ s).getD j 0 < 128) (fun i => s.size - (intOf i).toNat)
  case atStart => exact ⟨0, Nat.zero_le _, rfl, fun j hj => absurd hj (by omega)⟩
  case round =>
    obtain ⟨k, hk, rfl, hall⟩ := hrel
    have HALL := Lib.hid hall
    clear hall
    by_cases hlt : k < s.size
    · have hg := bytesZ_getD s k hlt
      obtain ⟨x, hx⟩ : ∃ x, s[k]'hlt = x := ⟨_, rfl⟩
      rw [hx] at hg
      have HG := Lib.hid hg
      clear hg
      by_cases hbig : 128 ≤ (x.toNat : Int)
      · go_wp2_with (first | (go_at_call 58; refine cU.mono ?_; rintro e w1 ⟨v1, rfl, hown1, hb1, _⟩; obtain ⟨A1, c1, hv1, hrd1⟩ := own_slice hown1; rw [hv1]; clear hv1 hown1) | (go_at_call 57; refine (pack_any _ _ _ _ _ (units_small hn) hrd1 (units_rng s)).mono ?_; rintro e w2 ⟨rfl, hb2⟩))
        go_ret
        exact ⟨rfl, hb1.trans (hb2.mono hb1.size)⟩
      · go_wp2
        go_round
        case rel => exact ⟨k + 1, by omega, by go_num, fun j hj => by
          rcases Nat.lt_or_ge j k with h | h
          · exact HALL.out j h
          · obtain rfl : j = k := by omega
            rw [HG.out]; omega⟩
        case measure => simp [intOf]; omega
    · have hk' : k = s.size := by omega
      subst hk'
      have hasc : unitsZ (bytesZ s) = bytesZ s := unitsZ_ascii _ (fun x hx => by
        obtain ⟨j, hj, rfl⟩ := List.getElem_of_mem hx
        have h1 := HALL.out j (by rw [← bytesZ_length]; exact hj)
        rw [List.getD, List.getElem?_eq_getElem hj] at h1
        exact ⟨(bytesZ_byte s _ (List.getElem_mem _)).1, h1⟩)
      have HE := Lib.hid hasc
      clear hasc
      have hmk := HMK.out
      go_wp2
      clear hmk
      go_loopw [5, 25] (fun _ i wr => ∃ k : Nat, k ≤ s.size ∧ i = .int .i64 k ∧ Blk wr w.heap.size 5 (cellsU .u8 (packZ ((bytesZ s).take k) ++ List.replicate (2 * (s.size - k)) 0)) ∧ Below w.heap.size w wr) (fun _ i _ => s.size - (intOf i).toNat)
      case atStart => exact ⟨0, Nat.zero_le _, rfl, by simpa [packZ_nil] using Blk.new w 5 (cellsU .u8 (List.replicate (2 * s.size) 0)), (Below.refl _ _).alloc (Nat.le_refl _) _⟩
      case round =>
        obtain ⟨k, hk, rfl, hB, hbl⟩ := hrel
        have hlen : (packZ ((bytesZ s).take k) ++ List.replicate (2 * (s.size - k)) (0 : Int)).length = 2 * s.size := by
          rw [List.length_append, packZ_length, List.length_take, List.length_replicate, bytesZ_length]; omega
        by_cases hlt : k < s.size
        · have c1 : wr.cell? ⟨w.heap.size, 2 * k + 1, none⟩ = some (.int .u8 ((packZ ((bytesZ s).take k) ++ List.replicate (2 * (s.size - k)) (0 : Int)).getD (2 * k + 1) 0)) := by
            rw [hB.cell]; exact cellsU_get _ _ _ (by omega)
          obtain ⟨z, hz⟩ : ∃ z, (packZ ((bytesZ s).take k) ++ List.replicate (2 * (s.size - k)) (0 : Int)).getD (2 * k + 1) 0 = z := ⟨_, rfl⟩
          rw [hz] at c1
          have f1 : wr.frozen? ⟨w.heap.size, 2 * k + 1, none⟩ = false := hB.frozen _
          have hg := bytesZ_getD s k hlt
          obtain ⟨x, hx⟩ : ∃ x, s[k]'hlt = x := ⟨_, rfl⟩
          rw [hx] at hg
          have hset := hB.set_ (2 * k + 1) (.int .u8 (x.toNat : Int))
          rw [cellsU_set, ← hg, set_odd (bytesZ s) k s.size (bytesZ_length s) hlt (by rw [hg]; omega) (by rw [hg]; have := x.toNat_lt; omega), hg] at hset
          have HS := Lib.hid hset
          have hbl2 := hbl.setCell (p := ⟨w.heap.size, 2 * k + 1, none⟩) (Nat.le_refl _) (.int .u8 (x.toNat : Int))
          clear hset hg hz hlen hB
          go_wp2
          go_roundw
          case rel => exact ⟨k + 1, by omega, by go_num, HS.out, hbl2⟩
          case measure => simp [intOf]; omega
        · have hk' : k = s.size := by omega
          subst hk'
          rw [Nat.sub_self, List.take_of_length_le (by rw [bytesZ_length]; omega)] at hB hlen
          have e : packZ (bytesZ s) ++ List.replicate (2 * 0) (0 : Int) = packZ (bytesZ s) := by simp
          rw [e] at hB hlen
          have hown := cells_own hB (Nat.le_refl _) hlen (by unfold maxLen; omega)
          have hcv := conv_own (P := Tryz.prog) 43 63 5 Tryz.underlying43 Tryz.underlying5 Tryz.underlying63 hown
          clear hown e hB hlen
          go_wp2
          go_ret
          exact ⟨by rw [HE.out]; rfl, hbl⟩

set_option maxHeartbeats 800000 in
/-- String: the text of a packed text. -/
theorem string_any (s : ByteArray) (us : List Int) (w : World) (h : Packed s us) :
    Calls Tryz.prog 36 #[.string s] w fun e w' => e = .returned (.string (strOfNums (textZ us))) ∧ Below w.heap.size w w' := by
  have cL := list_any s us w h
  have hl := h.2.2
  have HR := Lib.hid h.2.1
  clear h
  go_enter Tryz.func36, Tryz.ntmps36
  go_wp2_with (first | (go_at_call 64; refine cL.mono ?_; rintro e w1 ⟨A, c, rfl, hrd, hb1⟩) | (go_at_call 63; refine (text_any _ _ _ us _ hl hrd HR.out).mono ?_; rintro e w2 ⟨rfl, hb2⟩))
  go_ret
  exact ⟨rfl, hb1.trans (hb2.mono hb1.size)⟩
end Go.Proofs.YtbcolebomgcphaaGreatFmt.Dr
