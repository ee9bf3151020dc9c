/- The walk of UnitsBack: it returns true. -/
import Derived.Test.YtmhbkilidpbenaaDoorC
namespace Go.Proofs.YtmhbkilidpbenaaDoor
open Go.RowKit

theorem own_slice {w : World} {B : Nat} {e : TypeId} {v : Value} {n : Nat} {us : List Int} (h : w.ownsRow B e 1 v n (us.map (Value.int .u16))) :
    ∃ A c, v = .slice A n c ∧ RdU w w.heap.size A n us := by
  have hl : us.length = n := by have := h.1; simpa using this
  rcases h.2 with ⟨rfl, rfl⟩ | ⟨g, cap, cur, rfl, _, hh, _⟩
  · exact ⟨none, 0, rfl, hl, fun h0 => absurd h0 (by omega)⟩
  · refine ⟨_, _, rfl, hl, fun _ => ⟨g, 0, rfl, (Array.getElem?_eq_some_iff.1 hh).1, fun k hk => ?_⟩⟩
    have hc := h.cells (g := g) rfl k (.int .u16 (us.getD k 0)) (by simp [List.getElem?_eq_getElem (show k < us.length by omega)])
    have hadd : (⟨g, 0, none⟩ : Addr).add k = ⟨g, 0 + k, none⟩ := by unfold Addr.add; split <;> simp_all
    rwa [hadd] at hc
theorem RdU.below {w w' : World} {B : Nat} {A : Option Addr} {n : Nat} {us : List Int} (h : RdU w B A n us) (hb : Below B w w') : RdU w' B A n us :=
  ⟨h.1, fun h0 => by
    obtain ⟨b, off, e, hlt, hc⟩ := h.2 h0
    exact ⟨b, off, e, hlt, fun k hk => by rw [hb.cell (p := ⟨b, off + k, none⟩) hlt]; exact hc k hk⟩⟩
theorem RdU.more {w : World} {B B' : Nat} {A : Option Addr} {n : Nat} {us : List Int} (h : RdU w B A n us) (hB : B ≤ B') : RdU w B' A n us :=
  ⟨h.1, fun h0 => by
    obtain ⟨b, off, e, hlt, hc⟩ := h.2 h0
    exact ⟨b, off, e, by omega, hc⟩⟩
theorem RdU.reads {w : World} {B : Nat} {A : Option Addr} {n : Nat} {us : List Int} (h : RdU w B A n us) : Reads w B 1 A n (us.map (Value.int .u16)) := by
  refine ⟨by simp [h.1], fun h0 => ?_⟩
  obtain ⟨b, off, rfl, hlt, hc⟩ := h.2 h0
  refine ⟨_, rfl, hlt, fun j u hj => ?_⟩
  have hjl : j < us.length := by
    rcases Nat.lt_or_ge j us.length with h1 | h1
    · exact h1
    · rw [List.getElem?_eq_none (by simpa using h1)] at hj
      cases hj
  have hadd : (⟨b, off, none⟩ : Addr).add j = ⟨b, off + j, none⟩ := by unfold Addr.add; split <;> simp_all
  have hn := h.1
  rw [hadd, hc j (by omega)]
  simpa [List.getElem?_eq_getElem hjl] using hj
theorem sameB_self (a : List Int) : sameB a a = true := by simp [sameB]

set_option maxHeartbeats 1600000 in
theorem back_any (A : Option Addr) (n c : Nat) (us : List Int) (w : World) (hT : Lib.Utf8Tabs 1 2 w) (ha : RdU w w.heap.size A n us) (hr : ∀ u ∈ us, 0 ≤ u ∧ u ≤ 65535) (hn : n ≤ 9223372036854775807) :
    Calls Tryd.prog 3 #[.slice A n c] w fun e w' => e = .returned (.bool true) ∧ Below w.heap.size w w' := by
  by_cases hbig : (4000 : Int) < (n : Int)
  · go_enter Tryd.func3, Tryd.ntmps3
    go_wp2
    go_ret
    exact ⟨rfl, Below.refl _ _⟩
  · have hnn : n ≤ 4000 := by omega
    have HA := Lib.hid ha
    have HR := Lib.hid hr
    have HT := Lib.hid hT
    clear ha hr hT
    obtain ⟨i0, hi0, hz0, hz1, hz2⟩ := info_parts u16_info
    go_enter Tryd.func3, Tryd.ntmps3
    go_wp2_with (at_builtin; refine wpList_append_any _ rfl (.const (.slice none 0 0)) (.tmp 11) _ rfl w.heap.size 27 i0 _ 1 2 Tryd.underlying22 hi0 hz0 hz1 hz2 rfl (by omega) (.slice none 0 0) 0 [] rfl ⟨by simp, .inl ⟨rfl, rfl⟩⟩ w.heap.size A n c (us.map (Value.int .u16)) rfl HA.out.reads ?c1 ?c2 ?c3 (Nat.le_refl _) ?_)
    case c1 => intro u _; rfl
    case c2 => simp only [maxLen]; omega
    case c3 => omega
    intro v1 w1 hown1 hg1 _
    have hb1 : Below w.heap.size w w1 := (Below.refl _ _).grown hg1 (Nat.le_refl _) (by simp [Value.ownBlock])
    obtain ⟨A1, c1, hv1, hrd1⟩ := own_slice hown1
    have HR1 := Lib.hid hrd1
    clear hrd1
    rw [hv1]
    clear hv1 hg1 hown1
    have hz1' := hb1.size
    go_wp2_with fail
    refine (text_any A1 n c1 us _ (by omega) HR1.out HR.out).mono ?_
    rintro e w2 ⟨rfl, hb2⟩
    have hbb : bytesZ (strOfNums (textZ us)) = textZ us := bytesZ_str (textZ_byte us)
    have hll : (strOfNums (textZ us)).size ≤ 1099511627776 := by
      have h1 := textZ_length us
      have h2 := HA.out.1
      rw [strOfNums_size]
      omega
    have hT2 : Lib.Utf8Tabs 1 2 w2 := Tabs.below (Tabs.below HT.out hb1 (Tabs.lt HT.out)) hb2 (by have := Tabs.lt HT.out; omega)
    have cU := units_any (strOfNums (textZ us)) w2 hT2 hll
    rw [hbb, units_text us HR.out] at cU
    have HC := Lib.hid cU
    clear cU hbb hll hT2
    go_wp2_with fail
    refine HC.out.mono ?_
    rintro e w3 ⟨v3, rfl, hown3, hb3, _⟩
    obtain ⟨A3, c3, hv3, hrd3⟩ := own_slice hown3
    have HR3 := Lib.hid hrd3
    rw [hv3]
    clear hrd3 hv3 hown3
    have hz2' := hb2.size
    have hz3' := hb3.size
    have HA3 : Hid (RdU w3 w3.heap.size A n us) := ((((HA.out.below hb1).more hz1').below hb2).more hz2' |>.below hb3).more hz3'
    have HR13 : Hid (RdU w3 w3.heap.size A1 n us) := (((HR1.out.below hb2).more hz2').below hb3).more hz3'
    have hlen := HA.out.1
    have HL := Lib.hid hlen
    clear hlen
    go_wp2_with fail
    refine (same_any A A1 n n c c1 us us w3 HA3.out HR13.out (by omega)).mono ?_
    rintro e w4 ⟨rfl, q4, rfl⟩
    go_wp2_with fail
    refine (same_any A A3 n us.length c c3 us us (w3.drewN q4) HA3.out HR3.out (by omega)).mono ?_
    rintro e w5 ⟨rfl, q5, rfl⟩
    have hself := sameB_self us
    go_wp2
    go_ret
    exact ⟨rfl, below_drewN (hb1.trans ((hb2.mono hz1').trans (hb3.mono (by omega)))) _⟩
end Go.Proofs.YtmhbkilidpbenaaDoor
