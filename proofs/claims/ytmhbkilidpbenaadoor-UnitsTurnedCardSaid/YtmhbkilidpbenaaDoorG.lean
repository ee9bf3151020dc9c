/- Contracts of White and Ends, the program's and the reference's; of a packed text's Len, At and Sub. -/
import Derived.Test.YtmhbkilidpbenaaDoorC
import Derived.Test.YtmhbkilidpbenaaDoorV
import Derived.Test.YtmhbkilidpbenaaDoorShelh
import Derived.IntWalk
namespace Go.Proofs.YtmhbkilidpbenaaDoor
open Go.RowKit

def zsT : Lib.RTab where
  off := 1
  r16 := #[(32, 160, 128), (5760, 8192, 2432), (8193, 8202, 1), (8239, 8287, 48), (12288, 12288, 1)]
  r32 := #[]
theorem zsOk : Lib.RTabOk zsT := Lib.RTabOk_of_B (by kernel_rfl)
def zsB (u : Int) : Bool := Lib.isGo zsT u
def endsZ (u : Int) : Bool := u == 10 || u == 13 || u == 8232 || u == 8233
def whiteZ (u : Int) : Bool := (u == 9 || u == 11 || u == 12 || u == 32 || u == 160 || u == 65279) || (endsZ u || (decide (128 ≤ u) && zsB u))

set_option maxHeartbeats 800000 in
theorem ends_any (u : Int) (w : World) :
    Calls Tryd.prog 45 #[.int .u16 u] w fun e w' => e = .returned (.bool (endsZ u)) ∧ w = w' := by
  go_enter Tryd.func45, Tryd.ntmps45
  go_wp2
  all_goals go_ret
  all_goals exact ⟨ret_bool (by simp_all [endsZ]), rfl⟩
set_option maxHeartbeats 800000 in
theorem rends_any (u : Int) (w : World) :
    Calls Tryd.prog 36 #[.int .u16 u] w fun e w' => e = .returned (.bool (endsZ u)) ∧ w = w' := by
  go_enter Tryd.func36, Tryd.ntmps36
  go_wp2
  all_goals go_ret
  all_goals exact ⟨ret_bool (by simp_all [endsZ]), rfl⟩

set_option maxHeartbeats 1600000 in
theorem white_any (u : Int) (w : World) (h0 : 0 ≤ u) (h1 : u ≤ 65535) (hZ : Lib.RVar 0 zsT w) :
    Calls Tryd.prog 39 #[.int .u16 u] w fun e w' => e = .returned (.bool (whiteZ u)) ∧ Below w.heap.size w w' := by
  obtain ⟨Tb, oT, hc, hA⟩ := hZ
  have cI := Tryd.unicode_Is_any Tb oT zsT u w (by omega) (by omega) hA zsOk
  have hzs : Lib.isGo zsT u = zsB u := rfl
  rw [hzs] at cI
  clear hzs hA
  go_enter Tryd.func39, Tryd.ntmps39
  go_wp2_with (first | (go_at_call 45; refine (ends_any _ _).mono ?_; rintro e w' ⟨rfl, rfl⟩) | (go_at_call 37; refine cI.mono ?_; rintro e w1 ⟨rfl, hb⟩))
  all_goals go_ret
  all_goals exact ⟨ret_bool (by first | (simp_all [whiteZ]; done) | (simp_all [whiteZ]; intro h; omega)), by first | exact hb | exact Below.refl _ _⟩

set_option maxHeartbeats 1600000 in
theorem rwhite_any (u : Int) (w : World) (h0 : 0 ≤ u) (h1 : u ≤ 65535) (hZ : Lib.RVar 0 zsT w) :
    Calls Tryd.prog 28 #[.int .u16 u] w fun e w' => e = .returned (.bool (whiteZ u)) ∧ Below w.heap.size w w' := by
  obtain ⟨Tb, oT, hc, hA⟩ := hZ
  have cI := Tryd.unicode_Is_any Tb oT zsT u w (by omega) (by omega) hA zsOk
  have hzs : Lib.isGo zsT u = zsB u := rfl
  rw [hzs] at cI
  clear hzs hA
  by_cases hs : u = 9 ∨ u = 11 ∨ u = 12 ∨ u = 32 ∨ u = 160 ∨ u = 65279
  · have hw : whiteZ u = true := by
      unfold whiteZ
      rcases hs with rfl | rfl | rfl | rfl | rfl | rfl <;> rfl
    rw [hw]
    clear hw
    cases he : endsZ u
    · rcases hs with rfl | rfl | rfl | rfl | rfl | rfl
      all_goals
        go_enter Tryd.func28, Tryd.ntmps28
        go_wp2_with (go_at_call 36; refine (rends_any _ _).mono ?_; rintro e w' ⟨rfl, rfl⟩)
        go_ret
        exact ⟨rfl, Below.refl _ _⟩
    · clear hs
      go_enter Tryd.func28, Tryd.ntmps28
      go_wp2_with (go_at_call 36; refine (rends_any _ _).mono ?_; rintro e w' ⟨rfl, rfl⟩)
      go_ret
      exact ⟨rfl, Below.refl _ _⟩
  · have a1 : (u == 9) = false := by simp; omega
    have a2 : (u == 11) = false := by simp; omega
    have a3 : (u == 12) = false := by simp; omega
    have a4 : (u == 32) = false := by simp; omega
    have a5 : (u == 160) = false := by simp; omega
    have a6 : (u == 65279) = false := by simp; omega
    have hw : whiteZ u = (endsZ u || (decide (128 ≤ u) && zsB u)) := by unfold whiteZ; rw [a1, a2, a3, a4, a5, a6]; rfl
    rw [hw]
    clear hw hs
    cases he : endsZ u
    · by_cases hg : 127 < u
      · have HW : Hid ((false || (decide (128 ≤ u) && zsB u)) = zsB u) := by
          show (false || (decide (128 ≤ u) && zsB u)) = zsB u
          have : decide (128 ≤ u) = true := by simp; omega
          simp [this]
        go_enter Tryd.func28, Tryd.ntmps28
        go_wp2_with (first | (go_at_call 36; refine (rends_any _ _).mono ?_; rintro e w' ⟨rfl, rfl⟩) | (go_at_call 37; refine cI.mono ?_; rintro e w1 ⟨rfl, hb⟩))
        go_ret
        exact ⟨ret_bool HW.out.symm, hb⟩
      · have HW : Hid ((false || (decide (128 ≤ u) && zsB u)) = false) := by
          show (false || (decide (128 ≤ u) && zsB u)) = false
          have : decide (128 ≤ u) = false := by simp; omega
          simp [this]
        go_enter Tryd.func28, Tryd.ntmps28
        go_wp2_with (first | (go_at_call 36; refine (rends_any _ _).mono ?_; rintro e w' ⟨rfl, rfl⟩) | (go_at_call 37; refine cI.mono ?_; rintro e w1 ⟨rfl, hb⟩))
        go_ret
        exact ⟨ret_bool HW.out.symm, Below.refl _ _⟩
    · go_enter Tryd.func28, Tryd.ntmps28
      go_wp2_with (first | (go_at_call 36; refine (rends_any _ _).mono ?_; rintro e w' ⟨rfl, rfl⟩) | (go_at_call 37; refine cI.mono ?_; rintro e w1 ⟨rfl, hb⟩))
      go_ret
      exact ⟨rfl, Below.refl _ _⟩

theorem at_eq (x y : UInt8) (z : Int) (h0 : 0 ≤ z) (h1 : z ≤ 65535) (hx : (x.toNat : Int) = z / 256) (hy : (y.toNat : Int) = z % 256) :
    bits .or .u16 (IntKind.u16.wrap (IntKind.u16.wrap (x.toNat : Int) * 256)) (IntKind.u16.wrap (y.toNat : Int)) = z := by
  have e1 : IntKind.u16.wrap (IntKind.u16.wrap (x.toNat : Int) * 256) = ((x.toNat * 256 : Nat) : Int) := by
    rw [IntKind.wrap_u16, IntKind.wrap_u16]; omega
  have e2 : IntKind.u16.wrap (y.toNat : Int) = ((y.toNat : Nat) : Int) := by rw [IntKind.wrap_u16]; omega
  rw [e1, e2, u16_or_nat _ _ (by omega) (by omega), nat_join 8 _ _ (by omega) (by omega)]
  omega
theorem ret_i64 {k : IntKind} {a b : Int} (h : a = b) : Ending.returned (.int k a) = .returned (.int k b) := by rw [h]

/-! ### packed texts -/
/-- The string s holds these units, two bytes each. -/
def Packed (s : ByteArray) (us : List Int) : Prop := bytesZ s = packZ us ∧ (∀ u ∈ us, 0 ≤ u ∧ u ≤ 65535) ∧ us.length ≤ 1099511627776
theorem Packed.size {s : ByteArray} {us : List Int} (h : Packed s us) : s.size = 2 * us.length := by rw [← bytesZ_length, h.1, packZ_length]

set_option maxHeartbeats 800000 in
theorem len_any (s : ByteArray) (us : List Int) (w : World) (h : Packed s us) :
    Calls Tryd.prog 38 #[.string s] w fun e w' => e = .returned (.int .i64 us.length) ∧ w = w' := by
  have hs := h.size
  have hl := h.2.2
  have e1 : (s.size : Int) / 2 = (us.length : Int) := by omega
  have HE := Lib.hid e1
  have h2 : (s.size : Int) ≤ 4611686018427387904 := by omega
  clear e1 hs h
  go_enter Tryd.func38, Tryd.ntmps38
  go_wp2
  go_ret
  exact ⟨ret_i64 HE.out, rfl⟩

set_option maxHeartbeats 800000 in
theorem at_any (s : ByteArray) (us : List Int) (k : Nat) (w : World) (h : Packed s us) (hk : k < us.length) :
    Calls Tryd.prog 40 #[.string s, .int .i64 k] w fun e w' => e = .returned (.int .u16 (us.getD k 0)) ∧ ∃ q, w' = w.drewN q := by
  have hs := h.size
  have hl := h.2.2
  have hr := h.2.1 (us.getD k 0) (by
    rw [List.getD, List.getElem?_eq_getElem hk]
    exact List.getElem_mem _)
  have hp := packZ_getD us k hk
  rw [← h.1] at hp
  have k1 : 2 * k < s.size := by omega
  have k2 : 2 * k + 1 < s.size := by omega
  rw [bytesZ_getD s (2 * k) k1, bytesZ_getD s (2 * k + 1) k2] at hp
  obtain ⟨x, hx⟩ : ∃ x, s[2 * k]'k1 = x := ⟨_, rfl⟩
  obtain ⟨y, hy⟩ : ∃ y, s[2 * k + 1]'k2 = y := ⟨_, rfl⟩
  rw [hx, hy] at hp
  obtain ⟨z, hz⟩ : ∃ z, us.getD k 0 = z := ⟨_, rfl⟩
  rw [hz] at hp hr ⊢
  have HP := Lib.hid hp
  obtain ⟨hr0, hr1⟩ := hr
  clear hp hs h hz
  have m1 : 2 * (k : Int) < (s.size : Int) := by omega
  have m2 : 2 * (k : Int) + 1 < (s.size : Int) := by omega
  have q1 : (2 * (k : Int)).toNat = 2 * k := by omega
  have q2 : (2 * (k : Int) + 1).toNat = 2 * k + 1 := by omega
  have w1e : IntKind.i64.wrap (2 * (k : Int)) = 2 * (k : Int) := IntWalk.i64_in _ (by omega)
  have w2e : IntKind.i64.wrap (2 * (k : Int) + 1) = 2 * (k : Int) + 1 := IntWalk.i64_in _ (by omega)
  go_enter Tryd.func40, Tryd.ntmps40
  go_wp2
  go_quiet (fail)
  go_wp2
  go_ret
  exact ⟨ret_i64 (at_eq x y z hr0 hr1 HP.out.1 HP.out.2), _, rfl⟩

set_option maxHeartbeats 800000 in
theorem sub_any (s : ByteArray) (us : List Int) (i k : Nat) (w : World) (h : Packed s us) (hi : i ≤ k) (hk : k ≤ us.length) :
    Calls Tryd.prog 41 #[.string s, .int .i64 i, .int .i64 k] w fun e w' => e = .returned (.string (s.extract (2 * i) (2 * k))) ∧ w = w' := by
  have hs := h.size
  have hl := h.2.2
  have b1 : 2 * i ≤ 2 * k := by omega
  have b2 : 2 * k ≤ s.size := by omega
  have b3 : 2 * (k : Int) ≤ 4611686018427387904 := by omega
  have hsl := fun wx => run_slice_of_slice (P := Tryd.prog) 39 Tryd.underlying39 s 0 s.size (2 * i) (2 * k) (by omega) (by omega) wx
  clear hs h
  go_enter Tryd.func41, Tryd.ntmps41
  go_wp2
  go_ret
  exact ⟨rfl, rfl⟩
theorem Packed.sub {s : ByteArray} {us : List Int} (h : Packed s us) {i k : Nat} (hk : k ≤ us.length) : Packed (s.extract (2 * i) (2 * k)) ((us.take k).drop i) := by
  refine ⟨?_, fun u hu => h.2.1 u (List.mem_of_mem_take (List.mem_of_mem_drop hu)), ?_⟩
  · have e : bytesZ (s.extract (2 * i) (2 * k)) = ((bytesZ s).take (2 * k)).drop (2 * i) := by
      obtain ⟨d⟩ := s
      unfold bytesZ
      rw [← List.map_take, ← List.map_drop]
      congr 1
      rw [ByteArray.data_extract, Array.toList_extract, List.extract, List.drop_take]
    rw [e, h.1, packZ_take, packZ_drop]
  · have := h.2.2
    rw [List.length_drop, List.length_take]
    omega
end Go.Proofs.YtmhbkilidpbenaaDoor
