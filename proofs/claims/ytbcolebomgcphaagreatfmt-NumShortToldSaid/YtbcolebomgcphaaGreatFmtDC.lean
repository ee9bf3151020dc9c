/- The contracts of next and Units: the units of a text. The walk of UnitsBack: it returns true. -/
import Derived.Test.YtbcolebomgcphaaGreatFmtDA
namespace Go.Proofs.YtbcolebomgcphaaGreatFmt.Dr
open Go.RowKit

theorem ret_pair {k k' : IntKind} {a b c d : Int} (h : a = c) (h' : b = d) : Ending.returned (.tuple #[.int k a, .int k' b]) = .returned (.tuple #[.int k c, .int k' d]) := by rw [h, h']

set_option maxHeartbeats 800000 in
theorem next_sur (s : ByteArray) (w : World) (hT : Lib.Utf8Tabs 7 8 w) (hs : surZ (bytesZ s) = true) :
    Calls Tryz.prog 97 #[.string s] w fun e w' => e = .returned (.tuple #[.int .i32 (nextZ (bytesZ s)).1, .int .i64 (nextZ (bytesZ s)).2]) ∧ Below w.heap.size w w' := by
  have cD := Tryz.utf8_DecodeRuneInString s w hT
  have hd := decodeGo_eq s
  have hs' := hs
  simp only [surZ, decide_eq_true_eq] at hs'
  obtain ⟨hl, h0, h1, h2, h3, h4⟩ := hs'
  have hN : decZ (bytesZ s) = (65533, 1) := by
    unfold decZ
    rw [if_neg (by omega), decodeN_sur _ _ _ _ _ (by omega) (by omega) (by omega) (by omega) (by omega)]
    rfl
  rw [hN] at hd
  have hR : ((Lib.decodeGo s).1 : Int) = 65533 := congrArg Prod.fst hd
  have hK : ((Lib.decodeGo s).2 : Int) = 1 := congrArg Prod.snd hd
  rw [hR, hK] at cD
  rw [bytesZ_length] at hl
  rw [bytesZ_getD s 0 (by omega)] at h0
  rw [bytesZ_getD s 1 (by omega)] at h1 h2
  rw [bytesZ_getD s 2 (by omega)] at h3 h4
  have e1 : (nextZ (bytesZ s)).1 = 53248 + (s[1].toNat : Int) % 64 * 64 + (s[2].toNat : Int) % 64 := by
    unfold nextZ
    rw [if_pos hs, bytesZ_getD s 1 (by omega), bytesZ_getD s 2 (by omega)]
    rfl
  have e2 : (nextZ (bytesZ s)).2 = 3 := by
    unfold nextZ
    rw [if_pos hs]
  rw [e1, e2]
  clear e1 e2 hR hK hN hd hs
  obtain ⟨x0, hx0⟩ : ∃ x0, s[0] = x0 := ⟨_, rfl⟩
  obtain ⟨x1, hx1⟩ : ∃ x1, s[1] = x1 := ⟨_, rfl⟩
  obtain ⟨x2, hx2⟩ : ∃ x2, s[2] = x2 := ⟨_, rfl⟩
  rw [hx0] at h0
  rw [hx1] at h1 h2 ⊢
  rw [hx2] at h3 h4 ⊢
  have hsz : (2 : Int) < (s.size : Int) := by omega
  have hb0 : ((x0.toNat : Int) == 237) = true := by simp [h0]
  clear h0
  go_enter Tryz.func97, Tryz.ntmps97
  go_wp2_with (go_at_call 50; refine cD.mono ?_; rintro e w1 ⟨rfl, hb⟩)
  go_quiet (fail)
  go_wp2
  go_ret2
  exact ⟨ret_pair rfl rfl, below_drewN hb _⟩

set_option maxHeartbeats 800000 in
theorem next_dec (s : ByteArray) (w : World) (hT : Lib.Utf8Tabs 7 8 w) (hs : surZ (bytesZ s) = false) :
    Calls Tryz.prog 97 #[.string s] w fun e w' => e = .returned (.tuple #[.int .i32 (nextZ (bytesZ s)).1, .int .i64 (nextZ (bytesZ s)).2]) ∧ Below w.heap.size w w' := by
  have cD := Tryz.utf8_DecodeRuneInString s w hT
  have hd := decodeGo_eq s
  have hN : nextZ (bytesZ s) = decZ (bytesZ s) := by unfold nextZ; rw [hs]; rfl
  rw [hN, ← hd]
  clear hN hd
  obtain ⟨R, hR⟩ : ∃ R : Int, ((Lib.decodeGo s).1 : Int) = R := ⟨_, rfl⟩
  obtain ⟨K, hK⟩ : ∃ K : Int, ((Lib.decodeGo s).2 : Int) = K := ⟨_, rfl⟩
  simp only [hR, hK] at cD ⊢
  clear hR hK
  have HS := Lib.hid hs
  clear hs
  by_cases hsz : 2 < s.size
  · have hsz' : (2 : Int) < (s.size : Int) := by omega
    have hs := HS.out
    simp only [surZ, decide_eq_false_iff_not, bytesZ_length, bytesZ_getD s 0 (show 0 < s.size by omega), bytesZ_getD s 1 (show 1 < s.size by omega), bytesZ_getD s 2 (show 2 < s.size by omega)] at hs
    obtain ⟨x0, hx0⟩ : ∃ x0, s[0] = x0 := ⟨_, rfl⟩
    obtain ⟨x1, hx1⟩ : ∃ x1, s[1] = x1 := ⟨_, rfl⟩
    obtain ⟨x2, hx2⟩ : ∃ x2, s[2] = x2 := ⟨_, rfl⟩
    rw [hx0, hx1, hx2] at hs
    have HS2 := Lib.hid hs
    clear hs HS
    go_enter Tryz.func97, Tryz.ntmps97
    go_wp2_with (go_at_call 50; refine cD.mono ?_; rintro e w1 ⟨rfl, hb⟩)
    all_goals first | (go_ret2; exact ⟨ret_pair (by first | rfl | omega) (by first | rfl | omega), hb⟩) | (exfalso; exact HS2.out ⟨hsz, by assumption, by assumption, by assumption, by assumption, by assumption⟩)
  · have hsz' : ¬ (2 : Int) < (s.size : Int) := by omega
    go_enter Tryz.func97, Tryz.ntmps97
    go_wp2_with (go_at_call 50; refine cD.mono ?_; rintro e w1 ⟨rfl, hb⟩)
    all_goals (go_ret2; exact ⟨ret_pair (by first | rfl | omega) (by first | rfl | omega), hb⟩)

/-- next: the code point at the front of any text. -/
theorem next_any (s : ByteArray) (w : World) (hT : Lib.Utf8Tabs 7 8 w) :
    Calls Tryz.prog 97 #[.string s] w fun e w' => e = .returned (.tuple #[.int .i32 (nextZ (bytesZ s)).1, .int .i64 (nextZ (bytesZ s)).2]) ∧ Below w.heap.size w w' := by
  cases hs : surZ (bytesZ s)
  · exact next_dec s w hT hs
  · exact next_sur s w hT hs

theorem u16_info : (Tryz.prog.info? 101).map (fun i => (i.zero, i.size, i.bytes)) = some (some (.int .u16 0), 1, 2) := by kernel_rfl
theorem Tabs.below {B : Nat} {w w' : World} (h : Lib.Utf8Tabs 7 8 w) (hb : Below B w w') (hB : 8 < B) : Lib.Utf8Tabs 7 8 w' :=
  ⟨fun c hc => by rw [hb.cell (p := ⟨7, c, none⟩) (show 7 < B by omega)]; exact h.1 c hc,
    fun i hi => ⟨by rw [hb.cell (p := ⟨8, 2 * i, none⟩) hB]; exact (h.2 i hi).1, by rw [hb.cell (p := ⟨8, 2 * i + 1, none⟩) hB]; exact (h.2 i hi).2⟩⟩
theorem Tabs.lt {w : World} (h : Lib.Utf8Tabs 7 8 w) : 8 < w.heap.size := World.block_lt_of_cell? w ⟨8, 0, none⟩ (h.2 0 (by omega)).1

theorem own_below {B : Nat} {e : TypeId} {size n : Nat} {v : Value} {xs : List Value} {w w1 : World} (h : w.ownsRow B e size v n xs) (hb : Below w.heap.size w w1) : w1.ownsRow B e size v n xs :=
  h.kept (only_of_below hb none) (by cases v.ownBlock <;> simp)
theorem lo_eq (R : Int) (h0 : 65536 ≤ R) (h1 : R ≤ 1114111) : IntKind.u16.wrap (wrap32 (56320 + bits .and .i32 (R - 65536) 1023)) = 56320 + (R - 65536) % 1024 := by
  have e : bits .and .i32 (R - 65536) 1023 = (R - 65536) % 1024 := bits_mask .i32 31 (by decide) wraps_i32 10 (by decide) (R - 65536) (by omega) (by omega)
  rw [e, IntKind.wrap_u16]
  unfold wrap32
  omega
def strLen : Value → Nat | .string x => x.size | _ => 0

set_option maxHeartbeats 1600000 in
set_option maxRecDepth 100000 in
/-- Units: of any text. -/
theorem units_any (s : ByteArray) (w : World) (hT : Lib.Utf8Tabs 7 8 w) (hn : s.size ≤ 1099511627776) :
    Calls Tryz.prog 58 #[.string s] w fun e w' => ∃ v, e = .returned v ∧ w'.ownsRow w.heap.size 101 1 v (unitsZ (bytesZ s)).length ((unitsZ (bytesZ s)).map (Value.int .u16)) ∧ Below w.heap.size w w' ∧ (unitsZ (bytesZ s) = [] → v = .slice none 0 0) := by
  obtain ⟨i0, hi0, hz0, hz1, hz2⟩ := info_parts u16_info
  have h2 := Tabs.lt hT
  go_enter Tryz.func58, Tryz.ntmps58
  go_wp2
  go_loopw [0, 3, 4, 5] (fun sv v _ _ wr => ∃ (t : ByteArray) (m : Nat) (P : List Int), sv = .string t ∧ m = P.length ∧ wr.ownsRow w.heap.size 101 1 v m (P.map (Value.int .u16)) ∧ Below w.heap.size w wr ∧ m + 2 * t.size ≤ 2 * s.size ∧ unitsZ (bytesZ s) = P ++ unitsZ (bytesZ t) ∧ (P = [] → v = .slice none 0 0)) (fun sv _ _ _ _ => strLen sv)
  case atStart => exact ⟨s, 0, [], rfl, rfl, World.ownsRow_nil _ _ _ _, Below.refl _ _, by omega, by simp, fun _ => rfl⟩
  case round =>
    obtain ⟨t, m, P, rfl, hmp, hown, hbl, hm, ht, hnil⟩ := hrel
    have HT := Lib.hid ht
    have HM := Lib.hid hmp
    have HN := Lib.hid hnil
    clear ht hmp hnil
    have hTr : Lib.Utf8Tabs 7 8 wr := Tabs.below hT hbl h2
    have hbs := hbl.size
    by_cases h0 : t.size = 0
    · have h0' : ¬ (0 : Int) < (t.size : Int) := by omega
      have HE : Hid (unitsZ (bytesZ s) = P) := by
        show unitsZ (bytesZ s) = P
        have e : bytesZ t = [] := List.eq_nil_of_length_eq_zero (by rw [bytesZ_length]; exact h0)
        rw [HT.out, e, unitsZ_nil, List.append_nil]
      clear h0
      go_wp2
      go_ret
      exact ⟨_, rfl, by rw [HE.out, ← HM.out]; exact hown, hbl, by rw [HE.out]; exact HN.out⟩
    · have h0' : (0 : Int) < (t.size : Int) := by omega
      have hne : bytesZ t ≠ [] := by
        intro e
        have := bytesZ_length t
        rw [e] at this
        simp at this
        omega
      have cN := next_any t wr hTr
      have hp := nextZ_pos hne
      have hstep := unitsZ_step hne
      obtain ⟨R, hR⟩ : ∃ R : Int, (nextZ (bytesZ t)).1 = R := ⟨_, rfl⟩
      obtain ⟨K, hK⟩ : ∃ K : Nat, (nextZ (bytesZ t)).2 = (K : Int) := ⟨(nextZ (bytesZ t)).2.toNat, by omega⟩
      rw [hR, hK] at cN hp hstep
      rw [bytesZ_length] at hp
      rw [Int.toNat_natCast, ← bytesZ_drop] at hstep
      have HS := Lib.hid hstep
      clear hstep hR hK hne h0
      obtain ⟨hp1, hp2, hp3, hp4⟩ := hp
      by_cases hbig : 65536 ≤ R
      · go_wp2_with (first | (go_at_call 97; refine cN.mono ?_; rintro e w1 ⟨rfl, hb1⟩; have hown0 := own_below hown hb1; have hbl1 := hbl.trans (hb1.mono hbs)) | (at_builtin; refine wpList_append_own _ rfl (.tmp 21) (.tmp 30) 98 rfl w.heap.size 101 i0 (.int .u16 0) 1 2 Tryz.underlying98 hi0 hz0 hz1 hz2 rfl (by decide) _ m _ rfl (hown0.alloc _) ⟨w1.heap.size, 0, none⟩ 2 2 [.int .u16 (55296 + (R - 65536) / 1024), .int .u16 (IntKind.u16.wrap (wrap32 (56320 + bits .and .i32 (R - 65536) 1023)))] rfl rfl ?c1 ?c2 ?c3 ?c4 ?c5 ?_))
        case c1 =>
          intro j u hj
          match j, hj with
          | 0, hj => simp at hj; subst hj; simp [Addr.add]
          | 1, hj => simp at hj; subst hj; simp [Addr.add]
          | (j + 2), hj => simp at hj
        case c2 => intro u hu; simp at hu; rcases hu with rfl | rfl <;> rfl
        case c3 => unfold maxLen; omega
        case c4 => omega
        case c5 => have := hbl1.size; simp; omega
        intro v' w2 hown1 hgrow hnn
        rw [lo_eq R hbig hp4] at hown1
        have hsz : (t.extract K t.size).size = t.size - K := by rw [ByteArray.size_extract]; omega
        have hbl2 := below_step hown0 hbl1 hbl1.size hgrow
        have HU : Hid (unitsZ (bytesZ s) = (P ++ cuZ R) ++ unitsZ (bytesZ (t.extract K t.size))) := by
          show unitsZ (bytesZ s) = _
          rw [HT.out, HS.out, List.append_assoc]
        have hcu : cuZ R = [55296 + (R - 65536) / 1024, 56320 + (R - 65536) % 1024] := by unfold cuZ; rw [if_pos hbig]
        have HC := Lib.hid hcu
        clear hcu hnn
        go_wp2
        go_roundw
        case rel => exact ⟨t.extract K t.size, m + 2, P ++ cuZ R, rfl, by rw [HC.out, HM.out]; simp, by rw [HC.out, List.map_append]; exact hown1, hbl2, by omega, HU.out, by rw [HC.out]; simp⟩
        case measure => simp [strLen]; omega
      · go_wp2_with (first | (go_at_call 97; refine cN.mono ?_; rintro e w1 ⟨rfl, hb1⟩; have hown0 := own_below hown hb1; have hbl1 := hbl.trans (hb1.mono hbs)) | (at_builtin; refine wpList_append_own _ rfl (.tmp 32) (.tmp 35) 98 rfl w.heap.size 101 i0 (.int .u16 0) 1 2 Tryz.underlying98 hi0 hz0 hz1 hz2 rfl (by decide) _ m _ rfl (hown0.alloc _) ⟨w1.heap.size, 0, none⟩ 1 1 [.int .u16 R] rfl rfl ?c1 ?c2 ?c3 ?c4 ?c5 ?_))
        case c1 =>
          intro j u hj
          match j, hj with
          | 0, hj => simp at hj; subst hj; simp [Addr.add]
          | (j + 1), hj => simp at hj
        case c2 => intro u hu; simp at hu; subst hu; rfl
        case c3 => unfold maxLen; omega
        case c4 => omega
        case c5 => have := hbl1.size; simp; omega
        intro v' w2 hown1 hgrow hnn
        have hsz : (t.extract K t.size).size = t.size - K := by rw [ByteArray.size_extract]; omega
        have hbl2 := below_step hown0 hbl1 hbl1.size hgrow
        have HU : Hid (unitsZ (bytesZ s) = (P ++ cuZ R) ++ unitsZ (bytesZ (t.extract K t.size))) := by
          show unitsZ (bytesZ s) = _
          rw [HT.out, HS.out, List.append_assoc]
        have hcu : cuZ R = [R] := by unfold cuZ; rw [if_neg (by omega)]
        have HC := Lib.hid hcu
        clear hcu hnn
        go_wp2
        go_roundw
        case rel => exact ⟨t.extract K t.size, m + 1, P ++ cuZ R, rfl, by rw [HC.out, HM.out]; simp, by rw [HC.out, List.map_append]; exact hown1, hbl2, by omega, HU.out, by rw [HC.out]; simp⟩
        case measure => simp [strLen]; omega
end Go.Proofs.YtbcolebomgcphaaGreatFmt.Dr

namespace Go.Proofs.YtbcolebomgcphaaGreatFmt.Dr
open Go.RowKit

theorem own_slice {w : World} {B : Nat} {e : TypeId} {v : Value} {n : Nat} {us : List Int} (h : w.ownsRow B e 1 v n (us.map (Value.int .u16))) :
    ∃ A c, v = .slice A n c ∧ RdU w w.heap.size A n us := by
  have hl : us.length = n := by have := h.1; simpa using this
  rcases h.2 with ⟨rfl, rfl⟩ | ⟨g, cap, cur, rfl, _, hh, _⟩
  · exact ⟨none, 0, rfl, hl, fun h0 => absurd h0 (by omega)⟩
  · refine ⟨_, _, rfl, hl, fun _ => ⟨g, 0, rfl, (Array.getElem?_eq_some_iff.1 hh).1, fun k hk => ?_⟩⟩
    have hc := h.cells (g := g) rfl k (.int .u16 (us.getD k 0)) (by simp [List.getElem?_eq_getElem (show k < us.length by omega)])
    have hadd : (⟨g, 0, none⟩ : Addr).add k = ⟨g, 0 + k, none⟩ := by unfold Addr.add; split <;> simp_all
    rwa [hadd] at hc
end Go.Proofs.YtbcolebomgcphaaGreatFmt.Dr
