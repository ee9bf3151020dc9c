/- The contracts of hex (at a text that is none) and of signed. Each lemma's conditions stand in its own statement. The contract of Trim at a text that neither begins nor ends with white space, of bytes below 128. Each lemma's conditions stand in its own statement. -/
import Derived.Test.YtbcolebomgcphaaGreatFmtTb
import Derived.Test.YtbcolebomgcphaaGreatFmtShelf
import Derived.Test.YtbcolebomgcphaaGreatFmtDG
namespace Go.Proofs.YtbcolebomgcphaaGreatFmt
open Go.RowKit Dr

def HxNo (w : World) (e : Ending) (w' : World) : Prop := e = .returned (.tuple #[.string ⟨#[]⟩, .bool false]) ∧ w' = w
set_option maxRecDepth 100000 in
theorem hex_short (s : ByteArray) (w : World) (h : s.size < 3) : Calls Tryz.prog 15 #[.string s] w (HxNo w) := by
  go_enter Tryz.func15, Tryz.ntmps15
  go_wp2
  go_ret2
  exact ⟨rfl, rfl⟩
set_option maxRecDepth 100000 in
theorem hex_first (s : ByteArray) (w : World) (h : 3 ≤ s.size) (hn : s.size ≤ 1000) (c : Nat) (hc : ByteAt s 0 c) (hc0 : c ≠ 48) : Calls Tryz.prog 15 #[.string s] w (HxNo w) := by
  obtain ⟨x0h, x0e⟩ := hc
  obtain ⟨x0, x0x⟩ : ∃ x, s[0]'x0h = x := ⟨_, rfl⟩
  rw [x0x] at x0e
  have t0 : ((c : Int) != 48) = true := by simp; omega
  have t1 : decide ((s.size : Int) < 3) = false := decide_eq_false (by omega)
  go_enter Tryz.func15, Tryz.ntmps15
  go_wp2
  go_ret2
  exact ⟨rfl, rfl⟩
set_option maxRecDepth 100000 in
theorem hex_point (s : ByteArray) (w : World) (h : 3 ≤ s.size) (hn : s.size ≤ 1000) (hc : ByteAt s 0 48) (hd : ByteAt s 1 46) : Calls Tryz.prog 15 #[.string s] w (HxNo w) := by
  obtain ⟨x0h, x0e⟩ := hc
  obtain ⟨x0, x0x⟩ : ∃ x, s[0]'x0h = x := ⟨_, rfl⟩
  rw [x0x] at x0e
  obtain ⟨x1h, x1e⟩ := hd
  obtain ⟨x1, x1x⟩ : ∃ x, s[1]'x1h = x := ⟨_, rfl⟩
  rw [x1x] at x1e
  have t1 : decide ((s.size : Int) < 3) = false := decide_eq_false (by omega)
  have o46 : bits .or .u8 46 32 = 46 := by decide
  go_enter Tryz.func15, Tryz.ntmps15
  go_wp2
  go_ret2
  exact ⟨rfl, rfl⟩
def SgIs (w : World) (f : Nat) (t : ByteArray) (e : Ending) (w' : World) : Prop := e = .returned (.tuple #[.float .f64 f, .string t]) ∧ ∃ q, w' = w.drewN q
theorem prefix_is (s p : ByteArray) (b : Bool) (w : World) (h : Lib.hasPrefix s.data.toList p.data.toList = b) : Calls Tryz.prog 28 #[.string s, .string p] w fun e w' => e = .returned (.bool b) ∧ w' = w := by
  rw [← h]; exact Tryz.strings_HasPrefix s p w
set_option maxRecDepth 100000 in
theorem signed_plain (s : ByteArray) (w : World) (h1 : Lib.hasPrefix s.data.toList (⟨#[45]⟩ : ByteArray).data.toList = false) (h2 : Lib.hasPrefix s.data.toList (⟨#[43]⟩ : ByteArray).data.toList = false) :
    Calls Tryz.prog 17 #[.string s] w (SgIs w 4607182418800017408 s) := by
  have c1 := prefix_is s ⟨#[45]⟩ false w h1
  have c2 := prefix_is s ⟨#[43]⟩ false w h2
  clear h1 h2
  go_enter Tryz.func17, Tryz.ntmps17
  go_wp2_with fail
  refine c1.mono ?_
  rintro e w1 ⟨rfl, rfl⟩
  go_wp2_with fail
  refine c2.mono ?_
  rintro e w1 ⟨rfl, rfl⟩
  go_wp2
  go_ret2
  exact ⟨rfl, 0, rfl⟩
set_option maxRecDepth 100000 in
theorem signed_minus (s t : ByteArray) (w : World) (h1 : Lib.hasPrefix s.data.toList (⟨#[45]⟩ : ByteArray).data.toList = true) (hs : 1 ≤ s.size) (hn : s.size ≤ 1000) (ht : s.extract 1 s.size = t) :
    Calls Tryz.prog 17 #[.string s] w (SgIs w 13830554455654793216 t) := by
  have c1 := prefix_is s ⟨#[45]⟩ true w h1
  have HT := Lib.hid ht
  clear h1 ht
  go_enter Tryz.func17, Tryz.ntmps17
  go_wp2_with fail
  refine c1.mono ?_
  rintro e w1 ⟨rfl, rfl⟩
  clear c1
  go_wp2
  go_quiet (fail)
  go_wp2
  go_ret2
  exact ⟨by rw [HT.out]; rfl, _, rfl⟩
end Go.Proofs.YtbcolebomgcphaaGreatFmt

namespace Go.Proofs.YtbcolebomgcphaaGreatFmt.Dr
open Go.RowKit

def PlainU (u : Int) : Prop := 33 ≤ u ∧ u ≤ 127
set_option maxRecDepth 100000 in
theorem white_not (u : Int) (w : World) (h : PlainU u) : Calls Tryz.prog 60 #[.int .u16 u] w fun e w' => e = .returned (.bool false) ∧ w = w' := by
  obtain ⟨h0, h1⟩ := h
  have hE := ends_any u w
  have he : endsZ u = false := by
    unfold endsZ
    simp
    omega
  rw [he] at hE
  have t1 : (u == 9) = false := by simp; omega
  have t2 : (u == 11) = false := by simp; omega
  have t3 : (u == 12) = false := by simp; omega
  have t4 : (u == 32) = false := by simp; omega
  have t5 : (u == 160) = false := by simp; omega
  have t6 : (u == 65279) = false := by simp; omega
  have t7 : decide ((128 : Int) ≤ u) = false := decide_eq_false (by omega)
  clear he
  go_enter Tryz.func60, Tryz.ntmps60
  go_wp2_with (go_at_call 98; refine hE.mono ?_; rintro e w' ⟨rfl, rfl⟩)
  go_ret
  exact ⟨rfl, rfl⟩
set_option maxHeartbeats 3200000 in
set_option maxRecDepth 100000 in
theorem strim_same (s : ByteArray) (us : List Int) (w : World) (h : Packed s us) (h0 : 0 < us.length) (hf : PlainU (us.getD 0 0)) (hl : PlainU (us.getD (us.length - 1) 0)) :
    Calls Tryz.prog 35 #[.string s] w fun e w' => e = .returned (.string s) ∧ Below w.heap.size w w' := by
  have hul := h.2.2
  obtain ⟨n, hn⟩ : ∃ n, us.length = n := ⟨_, rfl⟩
  have cL := len_any s us
  have c0 := at_any s us 0
  have cl := at_any s us (n - 1)
  have cS := sub_any s us 0 n
  rw [hn] at cL c0 cl cS h0 hl hul
  obtain ⟨x, hx⟩ : ∃ x, us.getD 0 0 = x := ⟨_, rfl⟩
  obtain ⟨y, hy⟩ : ∃ y, us.getD (n - 1) 0 = y := ⟨_, rfl⟩
  rw [hx] at hf c0
  rw [hy] at hl cl
  rw [show ((n - 1 : Nat) : Int) = (n : Int) - 1 by omega] at cl
  have hsz : s.extract (2 * 0) (2 * n) = s := by
    have := h.size
    rw [hn] at this
    rw [← this]
    exact ByteArray.extract_zero_size
  rw [hsz] at cS
  have CL := Lib.hid cL
  have C0 := Lib.hid c0
  have Cl := Lib.hid cl
  have CS := Lib.hid cS
  have HP := Lib.hid h
  clear h hx hy hn cL c0 cl cS hsz
  go_enter Tryz.func35, Tryz.ntmps35
  go_wp2_with (go_at_call 59; refine (CL.out w HP.out).mono ?_; rintro e w' ⟨rfl, rfl⟩)
  refine wp_loop_rounds 1 ?_
  rw [rounds_succ]
  go_wp2_with (first | (go_at_call 61; refine (C0.out _ HP.out h0).mono ?_; rintro e w1 ⟨rfl, q, rfl⟩) | (go_at_call 60; refine (white_not x _ hf).mono ?_; rintro e w2 ⟨rfl, rfl⟩))
  refine wp_loop_rounds 1 ?_
  rw [rounds_succ]
  go_wp2_with (first | (go_at_call 61; refine (Cl.out _ HP.out (by omega)).mono ?_; rintro e w1 ⟨rfl, q, rfl⟩) | (go_at_call 60; refine (white_not y _ hl).mono ?_; rintro e w2 ⟨rfl, rfl⟩))
  refine (CS.out _ HP.out (by omega) (Nat.le_refl _)).mono ?_
  rintro e w5 ⟨rfl, rfl⟩
  go_wp2
  go_ret
  exact ⟨rfl, below_drewN (Below.refl _ _) _⟩
theorem textZ_ascii (us : List Int) (h : ∀ x ∈ us, 0 ≤ x ∧ x < 128) : textZ us = us := by
  have key : ∀ u : Int, 0 ≤ u → u < 128 → encU u = [u] ∧ isHi u = false := fun u h0 h1 => by
    have a : isHi u = false := by simp [isHi]; omega
    have b : isLo u = false := by simp [isLo]; omega
    exact ⟨by unfold encU; rw [a, b]; exact Lib.encodeRuneZ_one h0 (by omega), a⟩
  induction us with
  | nil => rfl
  | cons u r ih =>
    have hu := h u (by simp)
    obtain ⟨k1, k2⟩ := key u hu.1 hu.2
    have hr := ih (fun x hx => h x (by simp [hx]))
    cases r with
    | nil => rw [textZ, k1]
    | cons v r => rw [textZ, k2, Bool.false_and, if_neg (by decide), k1, hr]; rfl
set_option maxHeartbeats 800000 in
/-- Trim: a text of plain bytes stays as it is. -/
theorem trim_same (l : List Int) (w : World) (hT : Lib.Utf8Tabs 7 8 w) (h : ∀ x ∈ l, PlainU x) (h0 : 0 < l.length) (hn : l.length ≤ 4000) :
    Calls Tryz.prog 14 #[.string (strOfNums l)] w fun e w' => e = .returned (.string (strOfNums l)) ∧ Below w.heap.size w w' := by
  have hb : bytesZ (strOfNums l) = l := bytesZ_str (fun x hx => by have := h x hx; unfold PlainU at this; omega)
  have hs : (strOfNums l).size = l.length := by rw [← bytesZ_length, hb]
  have hu : unitsZ l = l := unitsZ_ascii l (fun x hx => by have := h x hx; unfold PlainU at this; omega)
  have cO := of_any (strOfNums l) w hT (by omega)
  rw [hb, hu] at cO
  have hP : Packed (strOfNums (packZ l)) l := Packed.mk (fun x hx => by have := h x hx; unfold PlainU at this; omega) (by omega)
  have g1 : PlainU (l.getD 0 0) := h _ (by rw [List.getD, List.getElem?_eq_getElem h0]; exact List.getElem_mem _)
  have g2 : PlainU (l.getD (l.length - 1) 0) := h _ (by rw [List.getD, List.getElem?_eq_getElem (show l.length - 1 < l.length by omega)]; exact List.getElem_mem _)
  have cT := fun W => strim_same (strOfNums (packZ l)) l W hP h0 g1 g2
  have cS := fun W => string_any (strOfNums (packZ l)) l W hP
  rw [textZ_ascii l (fun x hx => by have := h x hx; unfold PlainU at this; omega)] at cS
  clear h hb hs hu hP g1 g2
  go_enter Tryz.func14, Tryz.ntmps14
  go_wp2_with (first | (go_at_call 34; refine cO.mono ?_; rintro e w1 ⟨rfl, hb1⟩) | (go_at_call 35; refine (cT _).mono ?_; rintro e w2 ⟨rfl, hb2⟩) | (go_at_call 36; refine (cS _).mono ?_; rintro e w3 ⟨rfl, hb3⟩))
  go_ret
  exact ⟨rfl, (hb1.trans (hb2.mono hb1.size)).trans (hb3.mono (Nat.le_trans hb1.size hb2.size))⟩
end Go.Proofs.YtbcolebomgcphaaGreatFmt.Dr
