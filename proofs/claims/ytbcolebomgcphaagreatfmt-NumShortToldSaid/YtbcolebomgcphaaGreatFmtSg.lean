/- The contracts of parseFloatPrefix, both ParseFloat and value, from that of atof64. Each lemma's conditions stand in its own statement. The contract of special at a text that begins with a digit. Each lemma's conditions stand in its own statement. The contract of readFloat. Each lemma's conditions stand in its own statement. -/
import Derived.Test.YtbcolebomgcphaaGreatFmtSf
import Derived.Test.YtbcolebomgcphaaGreatFmtShelg
import Derived.Test.YtbcolebomgcphaaGreatFmtRl
import Derived.Test.YtbcolebomgcphaaGreatFmtTb
import Derived.WalkMore
import Derived.Deep.Cut
import Derived.Deep.CutRange
namespace Go.Proofs.YtbcolebomgcphaaGreatFmt
open Go.RowKit

/-- An answer whose word is as Q says. -/
def AvIs (Q : Nat → Prop) (w : World) (n : Nat) (e : Ending) (w' : World) : Prop :=
  ∃ (x : Nat) (er : Value), e = .returned (.tuple #[.float .f64 x, .int .i64 n, er]) ∧ (er = .nilIface ∨ er = .iface 119 (.int .i64 1)) ∧ Q x ∧ Below w.heap.size w w'
def ApIs (Q : Nat → Prop) (w : World) (e : Ending) (w' : World) : Prop :=
  ∃ (x : Nat) (er : Value), e = .returned (.tuple #[.float .f64 x, er]) ∧ (er = .nilIface ∨ er = .iface 119 (.int .i64 1)) ∧ Q x ∧ Below w.heap.size w w'
def AqIs (Q : Nat → Prop) (w : World) (e : Ending) (w' : World) : Prop :=
  ∃ (x : Nat) (er : Value), e = .returned (.tuple #[.float .f64 x, er]) ∧ Q x ∧ Below w.heap.size w w'
def VlIs (Q : Nat → Prop) (w : World) (e : Ending) (w' : World) : Prop := ∃ x : Nat, e = .returned (.float .f64 x) ∧ Q x ∧ Below w.heap.size w w'
def ErTab (w : World) : Prop := 6 < w.heap.size ∧ ∃ te pe, w.cell? ⟨6, 0, none⟩ = some (.iface te pe)
theorem ErTab.below {w w' : World} {B : Nat} (h : ErTab w) (hb : Below B w w') (hB : w.heap.size ≤ B) : ErTab w' := by
  obtain ⟨h1, te, pe, h2⟩ := h
  have hs := hb.size
  exact ⟨by omega, te, pe, (hb.cell (p := ⟨6, 0, none⟩) (by show 6 < B; omega)).trans h2⟩
set_option maxRecDepth 100000 in
theorem prefix_any (Q : Nat → Prop) (s : ByteArray) (n : Nat) (w : World) (c : Calls Tryz.prog 150 #[.string s] w (AvIs Q w n)) : Calls Tryz.prog 111 #[.string s, .int .i64 64] w (AvIs Q w n) := by
  go_enter Tryz.func111, Tryz.ntmps111
  go_wp2_with fail
  refine c.mono ?_
  rintro e w1 ⟨x, er, rfl, her, hq, b1⟩
  have HR := Lib.hid (show AvIs Q w n (.returned (.tuple #[.float .f64 x, .int .i64 n, er])) w1 from ⟨x, er, rfl, her, hq, b1⟩)
  clear her hq b1 c
  go_wp2
  exact bodyPost_ret (v := .tuple #[.float .f64 x, .int .i64 n, er]) (by simp [results, Tryz.results111, go_sem]) rfl HR.out
set_option maxRecDepth 100000 in
theorem inner_any (Q : Nat → Prop) (s : ByteArray) (n : Nat) (w : World) (hn : s.size = n) (c : Calls Tryz.prog 150 #[.string s] w (AvIs Q w n)) : Calls Tryz.prog 81 #[.string s, .int .i64 64] w (ApIs Q w) := by
  have c1 := prefix_any Q s n w c
  have hne : ((n : Int) != (n : Int)) = false := by simp
  clear c
  go_enter Tryz.func81, Tryz.ntmps81
  go_wp2_with fail
  refine c1.mono ?_
  rintro e w1 ⟨x, er, rfl, her, hq, b1⟩
  have HR := Lib.hid (show ApIs Q w (.returned (.tuple #[.float .f64 x, er])) w1 from ⟨x, er, rfl, her, hq, b1⟩)
  clear her hq b1 c1
  go_wp2
  go_ret2
  exact HR.out
set_option maxRecDepth 100000 in
theorem outer_any (Q : Nat → Prop) (s : ByteArray) (n : Nat) (w : World) (hn : s.size = n) (hn2 : n ≤ 1000000) (hE : ErTab w) (c : Calls Tryz.prog 150 #[.string s] w (AvIs Q w n)) : Calls Tryz.prog 42 #[.string s, .int .i64 64] w (AqIs Q w) := by
  have c1 := inner_any Q s n w hn c
  have HS := Lib.hid hn
  have HE := Lib.hid hE
  clear c hn hE
  go_enter Tryz.func42, Tryz.ntmps42
  go_wp2_with fail
  refine c1.mono ?_
  rintro e w1 ⟨x, er, rfl, her, hq, b1⟩
  have HE1 := Lib.hid (HE.out.below b1 (Nat.le_refl _))
  rcases her with rfl | rfl
  · have HR := Lib.hid (show AqIs Q w (.returned (.tuple #[.float .f64 x, .nilIface])) w1 from ⟨x, _, rfl, hq, b1⟩)
    clear hq b1 c1
    go_wp2
    go_ret2
    exact HR.out
  · obtain ⟨_, te, pe, hv⟩ := HE1.out
    have ct := Tryz.strconv_toError_range ⟨#[80, 97, 114, 115, 101, 70, 108, 111, 97, 116]⟩ s 0 64 (.iface te pe) w1 (by rw [HS.out]; omega) hv (.inr ⟨te, pe, rfl⟩)
    have HQ := Lib.hid (And.intro hq b1)
    clear hq b1 c1 hv
    go_wp2_with fail
    refine ct.mono ?_
    rintro e w2 ⟨N, rfl, hN, hN2, b2⟩
    have HR := Lib.hid (show AqIs Q w (.returned (.tuple #[.float .f64 x, .iface 122 (.pointer (some ⟨N, 0, none⟩))])) w2 from ⟨x, _, rfl, HQ.out.1, HQ.out.2.trans (b2.mono HQ.out.2.size)⟩)
    clear hN hN2 b2 ct
    go_wp2
    go_ret2
    exact HR.out
set_option maxRecDepth 100000 in
theorem value_any (Q : Nat → Prop) (s : ByteArray) (n : Nat) (w : World) (hn : s.size = n) (hn2 : n ≤ 1000000) (hE : ErTab w) (c : Calls Tryz.prog 150 #[.string s] w (AvIs Q w n)) : Calls Tryz.prog 20 #[.string s] w (VlIs Q w) := by
  have c1 := outer_any Q s n w hn hn2 hE c
  clear c hn hE
  go_enter Tryz.func20, Tryz.ntmps20
  go_wp2_with fail
  refine c1.mono ?_
  rintro e w1 ⟨x, er, rfl, hq, b1⟩
  have HR := Lib.hid (show VlIs Q w (.returned (.float .f64 x)) w1 from ⟨x, rfl, hq, b1⟩)
  clear hq b1 c1
  go_wp2
  go_ret
  exact HR.out
end Go.Proofs.YtbcolebomgcphaaGreatFmt

namespace Go.Proofs.YtbcolebomgcphaaGreatFmt
open Go.RowKit

set_option maxRecDepth 100000 in
set_option maxHeartbeats 1600000 in
theorem special_digit (s : ByteArray) (w : World) (h : 0 < s.size) (hs : s.size ≤ 1000000) (h0 : 48 ≤ (s[0]'h).toNat) (h1 : (s[0]'h).toNat ≤ 57) : Calls Tryz.prog 185 #[.string s] w (SpNo w) := by
  obtain ⟨x, hx⟩ : ∃ x, s[0]'h = x := ⟨_, rfl⟩
  rw [hx] at h0 h1
  obtain ⟨c, hc⟩ : ∃ c, x.toNat = c := ⟨_, rfl⟩
  rw [hc] at h0 h1
  have t0 : ((s.size : Int) == 0) = false := beq_false_of_ne (by omega)
  have t1 : ((c : Int) == 43) = false := by simp; omega
  have t2 : ((c : Int) == 45) = false := by simp; omega
  have t3 : ((c : Int) == 105) = false := by simp; omega
  have t4 : ((c : Int) == 73) = false := by simp; omega
  have t5 : ((c : Int) == 110) = false := by simp; omega
  have t6 : ((c : Int) == 78) = false := by simp; omega
  go_enter Tryz.func185, Tryz.ntmps185
  go_wp2
  exact bodyPost_ret (v := .tuple #[.float .f64 0, .int .i64 0, .bool false]) (by simp [results, Tryz.results185, go_sem]) rfl ⟨rfl, Below.refl _ _⟩
end Go.Proofs.YtbcolebomgcphaaGreatFmt

namespace Go.Proofs.YtbcolebomgcphaaGreatFmt
open Go.RowKit Go.Sort

/-- What stands of the reader's numbers, whatever it has read. -/
def RdInv (s : RdSt) (n : Nat) : Prop := s.m < 10 ^ s.ndm ∧ s.ndm ≤ 19 ∧ s.ndm ≤ s.nd ∧ s.nd ≤ n ∧ -(n : Int) ≤ s.dp ∧ s.dp ≤ n
theorem rd_step_inv {s : RdSt} {n : Nat} {c : Int} (h : RdInv s n) (hc : (48 ≤ c ∧ c ≤ 57) ∨ c = 46) : RdInv (rdStep s c) (n + 1) := by
  obtain ⟨h1, h2, h3, h4, h5, h6⟩ := h
  unfold rdStep RdInv
  split
  · exact ⟨h1, h2, h3, by show s.nd ≤ n + 1; omega, by show -((n + 1 : Nat) : Int) ≤ (s.nd : Int); omega, by show (s.nd : Int) ≤ ((n + 1 : Nat) : Int); omega⟩
  · split
    · exact ⟨h1, h2, h3, by show s.nd ≤ n + 1; omega, by show -((n + 1 : Nat) : Int) ≤ s.dp - 1; omega, by show s.dp - 1 ≤ ((n + 1 : Nat) : Int); omega⟩
    · split
      · refine ⟨?_, by show s.ndm + 1 ≤ 19; omega, by show s.ndm + 1 ≤ s.nd + 1; omega, by show s.nd + 1 ≤ n + 1; omega, by show -((n + 1 : Nat) : Int) ≤ s.dp; omega, by show s.dp ≤ ((n + 1 : Nat) : Int); omega⟩
        show s.m * 10 + (c - 48).toNat < 10 ^ (s.ndm + 1)
        rw [Nat.pow_succ]
        omega
      · exact ⟨h1, h2, by show s.ndm ≤ s.nd + 1; omega, by show s.nd + 1 ≤ n + 1; omega, by show -((n + 1 : Nat) : Int) ≤ s.dp; omega, by show s.dp ≤ ((n + 1 : Nat) : Int); omega⟩
theorem take_succ_getD (l : List Int) (k : Nat) (h : k < l.length) : l.take (k + 1) = l.take k ++ [l.getD k 0] := by
  rw [List.take_succ_eq_append_getElem h, List.getD, List.getElem?_eq_getElem h]
  rfl
theorem rd_inv (l : List Int) (hl : IsMp l) : ∀ k, k ≤ l.length → RdInv (rdFold rdStart (l.take k)) k := by
  intro k
  induction k with
  | zero => intro _; rw [List.take_zero]; exact ⟨by decide, by decide, by decide, by decide, by decide, by decide⟩
  | succ k ih =>
    intro hk
    rw [take_succ_getD l k (by omega), rdFold_snoc]
    exact rd_step_inv (ih (by omega)) (hl _ (by rw [List.getD, List.getElem?_eq_getElem (show k < l.length by omega)]; exact List.getElem_mem _))
theorem rd_step_zero (s : RdSt) (z : Int) (h : z = 48) (h0 : s.nd = 0) : rdStep s z = ⟨s.dot, true, s.nd, s.ndm, s.dp - 1, s.m, s.tr⟩ := by
  unfold rdStep
  rw [if_neg (by omega), if_pos ⟨h, h0⟩]
theorem rd_step_dig (s : RdSt) (z : Int) (h : z ≠ 46) (h0 : ¬(z = 48 ∧ (s.nd : Int) = 0)) (h1 : s.ndm < 19) : rdStep s z = ⟨s.dot, true, s.nd + 1, s.ndm + 1, s.dp, s.m * 10 + (z - 48).toNat, s.tr⟩ := by
  unfold rdStep
  rw [if_neg h, if_neg (by omega), if_pos h1]
theorem rd_step_more (s : RdSt) (z : Int) (h : z ≠ 46) (h0 : ¬(z = 48 ∧ (s.nd : Int) = 0)) (h1 : ¬s.ndm < 19) : rdStep s z = ⟨s.dot, true, s.nd + 1, s.ndm, s.dp, s.m, s.tr || z != 48⟩ := by
  unfold rdStep
  rw [if_neg h, if_neg (by omega), if_neg h1]
theorem valZ_take (G : List Int) (k : Nat) : valZ (G.take k) ≤ valZ G := by
  have h := valZ_app (G.take k) (G.drop k)
  rw [List.take_append_drop] at h
  have h1 : valZ (G.take k) ≤ valZ (G.take k) * 10 ^ (G.drop k).length := Nat.le_mul_of_pos_right _ (Nat.pow_pos (by decide))
  omega
/-- What stands behind the digits: nothing, or an exponent x. -/
def TailNo (s : ByteArray) (p : Nat) (x : Int) : Prop := p = s.size ∧ x = 0
def TailEx (s : ByteArray) (p q : Nat) (G : List Int) : Prop := ByteAt s p 101 ∧ q + G.length = s.size ∧ 0 < G.length ∧ IsDig G ∧ (∀ j (h : q + j < s.size), (((s[q + j]'h).toNat : Nat) : Int) = G.getD j 0) ∧ valZ G ≤ 9999
def TailIs (s : ByteArray) (p : Nat) (x : Int) : Prop := TailNo s p x ∨ ∃ q G, TailEx s p q G ∧ ((q = p + 1 ∧ x = valZ G) ∨ (q = p + 1 + 1 ∧ ByteAt s (p + 1) 43 ∧ x = valZ G) ∨ (q = p + 1 + 1 ∧ ByteAt s (p + 1) 45 ∧ x = -(valZ G : Int)))
/-- It doesn't begin with 0x. -/
def HexNo (s : ByteArray) : Prop := s.size ≤ 2 ∨ ∃ c, ByteAt s 0 c ∧ (c ≠ 48 ∨ ∃ d, ByteAt s 1 d ∧ (bits .or .u8 (d : Int) 32 == 120) = false)
end Go.Proofs.YtbcolebomgcphaaGreatFmt
