/- Contracts of Map, Upper and Lower of a packed text. -/
import Derived.Test.YtmhbkilidpbenaaDoorH
import Derived.Lib.AppendStr
import Derived.Shelf.Strings.CaseAny
namespace Go.Proofs.YtmhbkilidpbenaaDoor
open Go.RowKit

theorem bytesZ_pre (s : ByteArray) (k : Nat) : bytesZ (s.extract 0 k) = (bytesZ s).take k := by
  obtain ⟨d⟩ := s
  unfold bytesZ
  rw [← List.map_take]
  congr 1
  rw [ByteArray.data_extract, Array.toList_extract, List.extract, List.drop_zero, Nat.sub_zero]
theorem strCells_eq (s : ByteArray) : Lib.strCells s = (bytesZ s).map (Value.int .u8) := by
  unfold Lib.strCells bytesZ
  rw [List.map_map]
  rfl
theorem toUpper_range (r : Int) (h0 : 0 ≤ r) (h1 : r ≤ 1114111) : 0 ≤ Lib.toUpperU r ∧ Lib.toUpperU r ≤ 2147483647 := by
  have h := Lib.toUpperU_range r.toNat (by omega)
  rwa [show ((r.toNat : Nat) : Int) = r by omega] at h
theorem toLower_range (r : Int) (h0 : 0 ≤ r) (h1 : r ≤ 1114111) : 0 ≤ Lib.toLowerU r ∧ Lib.toLowerU r ≤ 2147483647 := by
  have h := Lib.toLowerU_range r.toNat (by omega)
  rwa [show ((r.toNat : Nat) : Int) = r by omega] at h
/-- The table of cases lies below the heap's end, and stays. -/
theorem keep_cell {w w' : World} (hb : Below w.heap.size w w') {a : Addr} {v : Value} (h : w.cell? a = some v) : w'.cell? a = some v := (hb.cell (World.block_lt_of_cell? w a h)).trans h
theorem Case.below {w w' : World} (h : Lib.CaseVar 3 Lib.caseA w) (hb : Below w.heap.size w w') : Lib.CaseVar 3 Lib.caseA w' := by
  obtain ⟨R, oR, cap, hc, ht⟩ := h
  refine ⟨R, oR, cap, keep_cell hb hc, fun i hi => ?_⟩
  obtain ⟨h1, h2, h3, h4, h5⟩ := ht i hi
  exact ⟨keep_cell hb h1, keep_cell hb h2, keep_cell hb h3, keep_cell hb h4, keep_cell hb h5⟩

set_option maxHeartbeats 3200000 in
set_option maxRecDepth 100000 in
/-- Map by unicode.Upper: of a packed text. -/
theorem mapUpper_any (s : ByteArray) (us : List Int) (w : World) (h : Packed s us) (hT : Lib.Utf8Tabs 1 2 w) (hV : Lib.CaseVar 3 Lib.caseA w) (hl : us.length ≤ 16777216) :
    Calls Tryd.prog 34 #[.string s, .func (.func 22) #[] #[]] w fun e w' => e = .returned (.string (strOfNums (packZ (casedZ Lib.toUpperU us)))) ∧ Below w.heap.size w w' := by
  obtain ⟨i0, hi0, hz0, hz1, hz2⟩ := info_parts byte_info
  have h2 := Tabs.lt hT
  have cS := string_any s us w h
  have HR := Lib.hid h.2.1
  have HM := Lib.hid (mapZ_byte Lib.toUpperU _ (textZ us) rfl (textZ_byte us))
  have hbz : bytesZ (strOfNums (textZ us)) = textZ us := bytesZ_str (textZ_byte us)
  have hts : (strOfNums (textZ us)).size ≤ 67108864 := by
    have h1 := textZ_length us
    rw [strOfNums_size]
    omega
  obtain ⟨tx, htx⟩ : ∃ tx, strOfNums (textZ us) = tx := ⟨_, rfl⟩
  rw [htx] at cS hbz hts
  have HBZ := Lib.hid hbz
  clear h hbz htx
  go_enter Tryd.func34, Tryd.ntmps34
  go_wp2_with (go_at_call 26; refine cS.mono ?_; rintro e w0 ⟨rfl, hb0⟩)
  have hz0' := hb0.size
  go_loopw [5, 6, 7, 8] (fun v tv _ _ wr => ∃ (t : ByteArray) (m : Nat) (P : List Int), tv = .string t ∧ m = P.length ∧ wr.ownsRow w.heap.size 5 1 v m (P.map (Value.int .u8)) ∧ Below w.heap.size w wr ∧ m + 4 * t.size ≤ 4 * tx.size ∧ mapZ Lib.toUpperU (textZ us) = P ++ mapZ Lib.toUpperU (bytesZ t)) (fun _ tv _ _ _ => strLen tv)
  case atStart => exact ⟨tx, 0, [], rfl, rfl, World.ownsRow_nil _ _ _ _, hb0, by omega, by rw [HBZ.out]; rfl⟩
  case round =>
    obtain ⟨t, m, P, rfl, hmp, hown, hbl, hm, ht⟩ := hrel
    have HT := Lib.hid ht
    have HMP := Lib.hid hmp
    clear ht hmp
    have hTr : Lib.Utf8Tabs 1 2 wr := Tabs.below hT hbl h2
    have hbs := hbl.size
    by_cases h0 : t.size = 0
    · have h0' : ¬ (0 : Int) < (t.size : Int) := by omega
      have e : bytesZ t = [] := List.eq_nil_of_length_eq_zero (by rw [bytesZ_length]; exact h0)
      have hE : mapZ Lib.toUpperU (textZ us) = P := by rw [HT.out, e, mapZ_nil, List.append_nil]
      have hcv := conv_own (P := Tryd.prog) 32 9 5 Tryd.underlying32 Tryd.underlying5 Tryd.underlying9 hown
      have hPb : bytesZ (strOfNums P) = P := bytesZ_str (by rw [← hE]; exact HM.out)
      have hPl : P.length ≤ 268435456 := by have := HMP.out; omega
      have hun : unitsZ P = casedZ Lib.toUpperU us := by rw [← hE]; exact cased_map _ us HR.out
      have cO := of_any (strOfNums P) wr hTr (by rw [strOfNums_size]; omega)
      rw [hPb, hun] at cO
      clear h0 e hE hPb hPl hun hown
      go_wp2_with (go_at_call 24; refine cO.mono ?_; rintro e w3 ⟨rfl, hb3⟩)
      go_ret
      exact ⟨rfl, hbl.trans (hb3.mono hbs)⟩
    · have h0' : (0 : Int) < (t.size : Int) := by omega
      have hne : bytesZ t ≠ [] := by
        intro e
        have := bytesZ_length t
        rw [e] at this
        simp at this
        omega
      have cN := next_any t wr hTr
      have hp := nextZ_pos hne
      have hstep := mapZ_step Lib.toUpperU hne
      obtain ⟨R, hR⟩ : ∃ R : Int, (nextZ (bytesZ t)).1 = R := ⟨_, rfl⟩
      obtain ⟨K, hK⟩ : ∃ K : Nat, (nextZ (bytesZ t)).2 = (K : Int) := ⟨(nextZ (bytesZ t)).2.toNat, by omega⟩
      rw [hR, hK] at cN hp hstep
      rw [bytesZ_length] at hp
      rw [Int.toNat_natCast, ← bytesZ_drop] at hstep
      have hsz : (t.extract K t.size).size = t.size - K := by rw [ByteArray.size_extract]; omega
      have HSZ := Lib.hid hsz
      clear hR hK hne h0 hsz
      obtain ⟨hp1, hp2, hp3, hp4⟩ := hp
      by_cases hsr : 55296 ≤ R ∧ R < 57344
      · obtain ⟨hs1, hs2⟩ := hsr
        have hsur : isSur R = true := by simp [isSur]; omega
        rw [hsur, if_pos rfl] at hstep
        have hpre : bytesZ (t.extract 0 K) = (bytesZ t).take K := bytesZ_pre t K
        have hcl : Lib.strCells (t.extract 0 K) = ((bytesZ t).take K).map (Value.int .u8) := by rw [← hpre]; exact strCells_eq _
        have hpz : (t.extract 0 K).size = K := by rw [ByteArray.size_extract]; omega
        have HCL := Lib.hid hcl
        have HPZ := Lib.hid hpz
        have HS := Lib.hid hstep
        clear hsur hstep hcl hpz hpre
        go_wp2_with (first | (go_at_call 18; refine cN.mono ?_; rintro e w1 ⟨rfl, hb1⟩; have hown0 := own_below hown hb1; have hbl1 := hbl.trans (hb1.mono hbs)) | (at_builtin; refine Lib.wpList_append_own_string _ rfl (.tmp 25) (.tmp 28) 32 9 rfl w.heap.size 5 i0 Tryd.underlying32 Tryd.underlying9 hi0 hz0 hz1 hz2 _ m _ rfl hown0 (t.extract 0 K) rfl ?c1 ?c2 ?c3 ?_))
        case c1 => have := HPZ.out; unfold maxLen; omega
        case c2 => have := HPZ.out; omega
        case c3 => exact hbl1.size
        intro v' w2 hown1 hgrow hnn
        have hbl2 := hbl1.grown hgrow hbl1.size (fun j hj => (hown0.lt j hj).1)
        rw [HCL.out, show min K t.size = K by omega] at hown1
        clear hnn
        go_wp2
        go_roundw
        case rel => exact ⟨t.extract K t.size, m + K, P ++ (bytesZ t).take K, rfl, by rw [HMP.out, List.length_append, List.length_take, bytesZ_length]; omega, by rw [List.map_append]; exact hown1, hbl2, by have := HSZ.out; omega, by rw [HT.out, HS.out, List.append_assoc]⟩
        case measure => have := HSZ.out; simp [strLen]; omega
      · have hsur : isSur R = false := by simp [isSur]; omega
        rw [hsur, if_neg (by simp)] at hstep
        have HS := Lib.hid hstep
        have hVr : Lib.CaseVar 3 Lib.caseA wr := Case.below hV hbl
        have hfr := toUpper_range R hp3 hp4
        have hle := Lib.encodeRuneZ_length (Lib.toUpperU R)
        obtain ⟨Y, hY⟩ : ∃ Y, Lib.toUpperU R = Y := ⟨_, rfl⟩
        rw [hY] at hfr hle
        obtain ⟨hf1, hf2⟩ := hfr
        have HY := Lib.hid hY
        clear hsur hstep hY
        by_cases hlo : 55296 ≤ R
        · have hhi : ¬ R < 57344 := by omega
          clear hsr
          go_wp2_with (first | (go_at_call 18; refine cN.mono ?_; rintro e w1 ⟨rfl, hb1⟩; have hown0 := own_below hown hb1; have hbl1 := hbl.trans (hb1.mono hbs); have hV1 := Case.below hV hbl1) | (go_at_call 22; refine (Tryd.unicode_ToUpper_laid R _ hV1).mono ?_; rw [HY.out]; rintro e w2 ⟨rfl, q, rfl⟩) | (go_at_call 17; refine (Tryd.utf8_AppendRune_plain w.heap.size _ m (P.map (Value.int .u8)) Y (by omega) (by omega) (w1.drewN q) hown0 (by omega) hbl1.size).mono ?_; rintro e w3 ⟨v', rfl, hown1, o, hg1⟩))
          have hbl2 := below_step (wr := w1.drewN q) hown0 (below_drewN hbl1 q) hbl1.size hg1
          go_roundw
          case rel => exact ⟨t.extract K t.size, m + (Lib.encodeRuneZ Y).length, P ++ Lib.encodeRuneZ Y, rfl, by rw [HMP.out, List.length_append], own_enc hown1, hbl2, by have := HSZ.out; omega, by rw [HT.out, HS.out, HY.out, List.append_assoc]⟩
          case measure => have := HSZ.out; simp [strLen]; omega
        · clear hsr
          go_wp2_with (first | (go_at_call 18; refine cN.mono ?_; rintro e w1 ⟨rfl, hb1⟩; have hown0 := own_below hown hb1; have hbl1 := hbl.trans (hb1.mono hbs); have hV1 := Case.below hV hbl1) | (go_at_call 22; refine (Tryd.unicode_ToUpper_laid R _ hV1).mono ?_; rw [HY.out]; rintro e w2 ⟨rfl, q, rfl⟩) | (go_at_call 17; refine (Tryd.utf8_AppendRune_plain w.heap.size _ m (P.map (Value.int .u8)) Y (by omega) (by omega) (w1.drewN q) hown0 (by omega) hbl1.size).mono ?_; rintro e w3 ⟨v', rfl, hown1, o, hg1⟩))
          have hbl2 := below_step (wr := w1.drewN q) hown0 (below_drewN hbl1 q) hbl1.size hg1
          go_roundw
          case rel => exact ⟨t.extract K t.size, m + (Lib.encodeRuneZ Y).length, P ++ Lib.encodeRuneZ Y, rfl, by rw [HMP.out, List.length_append], own_enc hown1, hbl2, by have := HSZ.out; omega, by rw [HT.out, HS.out, HY.out, List.append_assoc]⟩
          case measure => have := HSZ.out; simp [strLen]; omega

set_option maxHeartbeats 3200000 in
set_option maxRecDepth 100000 in
/-- Map by unicode.Lower: of a packed text. -/
theorem mapLower_any (s : ByteArray) (us : List Int) (w : World) (h : Packed s us) (hT : Lib.Utf8Tabs 1 2 w) (hV : Lib.CaseVar 3 Lib.caseA w) (hl : us.length ≤ 16777216) :
    Calls Tryd.prog 34 #[.string s, .func (.func 23) #[] #[]] w fun e w' => e = .returned (.string (strOfNums (packZ (casedZ Lib.toLowerU us)))) ∧ Below w.heap.size w w' := by
  obtain ⟨i0, hi0, hz0, hz1, hz2⟩ := info_parts byte_info
  have h2 := Tabs.lt hT
  have cS := string_any s us w h
  have HR := Lib.hid h.2.1
  have HM := Lib.hid (mapZ_byte Lib.toLowerU _ (textZ us) rfl (textZ_byte us))
  have hbz : bytesZ (strOfNums (textZ us)) = textZ us := bytesZ_str (textZ_byte us)
  have hts : (strOfNums (textZ us)).size ≤ 67108864 := by
    have h1 := textZ_length us
    rw [strOfNums_size]
    omega
  obtain ⟨tx, htx⟩ : ∃ tx, strOfNums (textZ us) = tx := ⟨_, rfl⟩
  rw [htx] at cS hbz hts
  have HBZ := Lib.hid hbz
  clear h hbz htx
  go_enter Tryd.func34, Tryd.ntmps34
  go_wp2_with (go_at_call 26; refine cS.mono ?_; rintro e w0 ⟨rfl, hb0⟩)
  have hz0' := hb0.size
  go_loopw [5, 6, 7, 8] (fun v tv _ _ wr => ∃ (t : ByteArray) (m : Nat) (P : List Int), tv = .string t ∧ m = P.length ∧ wr.ownsRow w.heap.size 5 1 v m (P.map (Value.int .u8)) ∧ Below w.heap.size w wr ∧ m + 4 * t.size ≤ 4 * tx.size ∧ mapZ Lib.toLowerU (textZ us) = P ++ mapZ Lib.toLowerU (bytesZ t)) (fun _ tv _ _ _ => strLen tv)
  case atStart => exact ⟨tx, 0, [], rfl, rfl, World.ownsRow_nil _ _ _ _, hb0, by omega, by rw [HBZ.out]; rfl⟩
  case round =>
    obtain ⟨t, m, P, rfl, hmp, hown, hbl, hm, ht⟩ := hrel
    have HT := Lib.hid ht
    have HMP := Lib.hid hmp
    clear ht hmp
    have hTr : Lib.Utf8Tabs 1 2 wr := Tabs.below hT hbl h2
    have hbs := hbl.size
    by_cases h0 : t.size = 0
    · have h0' : ¬ (0 : Int) < (t.size : Int) := by omega
      have e : bytesZ t = [] := List.eq_nil_of_length_eq_zero (by rw [bytesZ_length]; exact h0)
      have hE : mapZ Lib.toLowerU (textZ us) = P := by rw [HT.out, e, mapZ_nil, List.append_nil]
      have hcv := conv_own (P := Tryd.prog) 32 9 5 Tryd.underlying32 Tryd.underlying5 Tryd.underlying9 hown
      have hPb : bytesZ (strOfNums P) = P := bytesZ_str (by rw [← hE]; exact HM.out)
      have hPl : P.length ≤ 268435456 := by have := HMP.out; omega
      have hun : unitsZ P = casedZ Lib.toLowerU us := by rw [← hE]; exact cased_map _ us HR.out
      have cO := of_any (strOfNums P) wr hTr (by rw [strOfNums_size]; omega)
      rw [hPb, hun] at cO
      clear h0 e hE hPb hPl hun hown
      go_wp2_with (go_at_call 24; refine cO.mono ?_; rintro e w3 ⟨rfl, hb3⟩)
      go_ret
      exact ⟨rfl, hbl.trans (hb3.mono hbs)⟩
    · have h0' : (0 : Int) < (t.size : Int) := by omega
      have hne : bytesZ t ≠ [] := by
        intro e
        have := bytesZ_length t
        rw [e] at this
        simp at this
        omega
      have cN := next_any t wr hTr
      have hp := nextZ_pos hne
      have hstep := mapZ_step Lib.toLowerU hne
      obtain ⟨R, hR⟩ : ∃ R : Int, (nextZ (bytesZ t)).1 = R := ⟨_, rfl⟩
      obtain ⟨K, hK⟩ : ∃ K : Nat, (nextZ (bytesZ t)).2 = (K : Int) := ⟨(nextZ (bytesZ t)).2.toNat, by omega⟩
      rw [hR, hK] at cN hp hstep
      rw [bytesZ_length] at hp
      rw [Int.toNat_natCast, ← bytesZ_drop] at hstep
      have hsz : (t.extract K t.size).size = t.size - K := by rw [ByteArray.size_extract]; omega
      have HSZ := Lib.hid hsz
      clear hR hK hne h0 hsz
      obtain ⟨hp1, hp2, hp3, hp4⟩ := hp
      by_cases hsr : 55296 ≤ R ∧ R < 57344
      · obtain ⟨hs1, hs2⟩ := hsr
        have hsur : isSur R = true := by simp [isSur]; omega
        rw [hsur, if_pos rfl] at hstep
        have hpre : bytesZ (t.extract 0 K) = (bytesZ t).take K := bytesZ_pre t K
        have hcl : Lib.strCells (t.extract 0 K) = ((bytesZ t).take K).map (Value.int .u8) := by rw [← hpre]; exact strCells_eq _
        have hpz : (t.extract 0 K).size = K := by rw [ByteArray.size_extract]; omega
        have HCL := Lib.hid hcl
        have HPZ := Lib.hid hpz
        have HS := Lib.hid hstep
        clear hsur hstep hcl hpz hpre
        go_wp2_with (first | (go_at_call 18; refine cN.mono ?_; rintro e w1 ⟨rfl, hb1⟩; have hown0 := own_below hown hb1; have hbl1 := hbl.trans (hb1.mono hbs)) | (at_builtin; refine Lib.wpList_append_own_string _ rfl (.tmp 25) (.tmp 28) 32 9 rfl w.heap.size 5 i0 Tryd.underlying32 Tryd.underlying9 hi0 hz0 hz1 hz2 _ m _ rfl hown0 (t.extract 0 K) rfl ?c1 ?c2 ?c3 ?_))
        case c1 => have := HPZ.out; unfold maxLen; omega
        case c2 => have := HPZ.out; omega
        case c3 => exact hbl1.size
        intro v' w2 hown1 hgrow hnn
        have hbl2 := hbl1.grown hgrow hbl1.size (fun j hj => (hown0.lt j hj).1)
        rw [HCL.out, show min K t.size = K by omega] at hown1
        clear hnn
        go_wp2
        go_roundw
        case rel => exact ⟨t.extract K t.size, m + K, P ++ (bytesZ t).take K, rfl, by rw [HMP.out, List.length_append, List.length_take, bytesZ_length]; omega, by rw [List.map_append]; exact hown1, hbl2, by have := HSZ.out; omega, by rw [HT.out, HS.out, List.append_assoc]⟩
        case measure => have := HSZ.out; simp [strLen]; omega
      · have hsur : isSur R = false := by simp [isSur]; omega
        rw [hsur, if_neg (by simp)] at hstep
        have HS := Lib.hid hstep
        have hVr : Lib.CaseVar 3 Lib.caseA wr := Case.below hV hbl
        have hfr := toLower_range R hp3 hp4
        have hle := Lib.encodeRuneZ_length (Lib.toLowerU R)
        obtain ⟨Y, hY⟩ : ∃ Y, Lib.toLowerU R = Y := ⟨_, rfl⟩
        rw [hY] at hfr hle
        obtain ⟨hf1, hf2⟩ := hfr
        have HY := Lib.hid hY
        clear hsur hstep hY
        by_cases hlo : 55296 ≤ R
        · have hhi : ¬ R < 57344 := by omega
          clear hsr
          go_wp2_with (first | (go_at_call 18; refine cN.mono ?_; rintro e w1 ⟨rfl, hb1⟩; have hown0 := own_below hown hb1; have hbl1 := hbl.trans (hb1.mono hbs); have hV1 := Case.below hV hbl1) | (go_at_call 23; refine (Tryd.unicode_ToLower_laid R _ hV1).mono ?_; rw [HY.out]; rintro e w2 ⟨rfl, q, rfl⟩) | (go_at_call 17; refine (Tryd.utf8_AppendRune_plain w.heap.size _ m (P.map (Value.int .u8)) Y (by omega) (by omega) (w1.drewN q) hown0 (by omega) hbl1.size).mono ?_; rintro e w3 ⟨v', rfl, hown1, o, hg1⟩))
          have hbl2 := below_step (wr := w1.drewN q) hown0 (below_drewN hbl1 q) hbl1.size hg1
          go_roundw
          case rel => exact ⟨t.extract K t.size, m + (Lib.encodeRuneZ Y).length, P ++ Lib.encodeRuneZ Y, rfl, by rw [HMP.out, List.length_append], own_enc hown1, hbl2, by have := HSZ.out; omega, by rw [HT.out, HS.out, HY.out, List.append_assoc]⟩
          case measure => have := HSZ.out; simp [strLen]; omega
        · clear hsr
          go_wp2_with (first | (go_at_call 18; refine cN.mono ?_; rintro e w1 ⟨rfl, hb1⟩; have hown0 := own_below hown hb1; have hbl1 := hbl.trans (hb1.mono hbs); have hV1 := Case.below hV hbl1) | (go_at_call 23; refine (Tryd.unicode_ToLower_laid R _ hV1).mono ?_; rw [HY.out]; rintro e w2 ⟨rfl, q, rfl⟩) | (go_at_call 17; refine (Tryd.utf8_AppendRune_plain w.heap.size _ m (P.map (Value.int .u8)) Y (by omega) (by omega) (w1.drewN q) hown0 (by omega) hbl1.size).mono ?_; rintro e w3 ⟨v', rfl, hown1, o, hg1⟩))
          have hbl2 := below_step (wr := w1.drewN q) hown0 (below_drewN hbl1 q) hbl1.size hg1
          go_roundw
          case rel => exact ⟨t.extract K t.size, m + (Lib.encodeRuneZ Y).length, P ++ Lib.encodeRuneZ Y, rfl, by rw [HMP.out, List.length_append], own_enc hown1, hbl2, by have := HSZ.out; omega, by rw [HT.out, HS.out, HY.out, List.append_assoc]⟩
          case measure => have := HSZ.out; simp [strLen]; omega

theorem casedZ_range (f : Int → Int) : ∀ us : List Int, (∀ u ∈ us, 0 ≤ u ∧ u ≤ 65535) → ∀ u ∈ casedZ f us, 0 ≤ u ∧ u ≤ 65535
  | [], _ => by intro u hu; rw [casedZ] at hu; cases hu
  | [x], h => by
    intro u hu
    rw [casedZ] at hu
    split at hu
    · simp at hu; subst hu; exact h _ (by simp)
    · exact caseU_range f x u hu
  | x :: y :: r, h => by
    intro u hu
    rw [casedZ] at hu
    split at hu
    · rcases List.mem_append.1 hu with h1 | h1
      · exact caseU_range f _ u h1
      · exact casedZ_range f r (fun z hz => h z (by simp [hz])) u h1
    · rcases List.mem_append.1 hu with h1 | h1
      · split at h1
        · simp at h1; subst h1; exact h _ (by simp)
        · exact caseU_range f x u h1
      · exact casedZ_range f (y :: r) (fun z hz => h z (List.mem_cons_of_mem _ hz)) u h1
termination_by us => us.length
theorem casedZ_length (f : Int → Int) : ∀ us : List Int, (casedZ f us).length ≤ 8 * us.length
  | [] => by rw [casedZ]; simp
  | [x] => by
    rw [casedZ]
    split
    · simp
    · have := caseU_length f x; simp; omega
  | x :: y :: r => by
    rw [casedZ]
    split
    · have h1 := caseU_length f (pairZ x y)
      have h2 := casedZ_length f r
      simp only [List.length_append, List.length_cons]
      omega
    · have h2 := casedZ_length f (y :: r)
      rw [List.length_append]
      simp only [List.length_cons] at *
      split
      · simp; omega
      · have h1 := caseU_length f x; omega
termination_by us => us.length

set_option maxHeartbeats 800000 in
theorem strUpper_any (s : ByteArray) (us : List Int) (w : World) (h : Packed s us) (hT : Lib.Utf8Tabs 1 2 w) (hV : Lib.CaseVar 3 Lib.caseA w) (hl : us.length ≤ 16777216) :
    Calls Tryd.prog 25 #[.string s] w fun e w' => e = .returned (.string (strOfNums (packZ (casedZ Lib.toUpperU us)))) ∧ Below w.heap.size w w' := by
  have cM := mapUpper_any s us w h hT hV hl
  clear h hT hV
  go_enter Tryd.func25, Tryd.ntmps25
  go_wp2_with (go_at_call 34; refine cM.mono ?_; rintro e w1 ⟨rfl, hb1⟩)
  go_ret
  exact ⟨rfl, hb1⟩
set_option maxHeartbeats 800000 in
/-- Upper: of a text. -/
theorem upper_any (s : ByteArray) (w : World) (hT : Lib.Utf8Tabs 1 2 w) (hV : Lib.CaseVar 3 Lib.caseA w) (hn : s.size ≤ 4000) :
    Calls Tryd.prog 11 #[.string s] w fun e w' => e = .returned (.string (strOfNums (textZ (casedZ Lib.toUpperU (unitsZ (bytesZ s)))))) ∧ Below w.heap.size w w' := by
  have cO := of_any s w hT (by omega)
  have hul := unitsZ_length _ (bytesZ s) rfl
  rw [bytesZ_length] at hul
  have hP1 : Packed (strOfNums (packZ (unitsZ (bytesZ s)))) (unitsZ (bytesZ s)) := Packed.mk (units_rng s) (by omega)
  have hcl := casedZ_length Lib.toUpperU (unitsZ (bytesZ s))
  have hP2 : Packed (strOfNums (packZ (casedZ Lib.toUpperU (unitsZ (bytesZ s))))) (casedZ Lib.toUpperU (unitsZ (bytesZ s))) := Packed.mk (casedZ_range _ _ (units_rng s)) (by omega)
  have h2 := Tabs.lt hT
  go_enter Tryd.func11, Tryd.ntmps11
  go_wp2_with (first | (go_at_call 24; refine cO.mono ?_; rintro e w1 ⟨rfl, hb1⟩; have hT1 := Tabs.below hT hb1 h2; have hV1 := Case.below hV hb1) | (go_at_call 25; refine (strUpper_any _ _ _ hP1 hT1 hV1 (by omega)).mono ?_; rintro e w2 ⟨rfl, hb2⟩) | (go_at_call 26; refine (string_any _ _ _ hP2).mono ?_; rintro e w3 ⟨rfl, hb3⟩))
  go_ret
  exact ⟨rfl, (hb1.trans (hb2.mono hb1.size)).trans (hb3.mono (Nat.le_trans hb1.size hb2.size))⟩

set_option maxHeartbeats 800000 in
theorem strLower_any (s : ByteArray) (us : List Int) (w : World) (h : Packed s us) (hT : Lib.Utf8Tabs 1 2 w) (hV : Lib.CaseVar 3 Lib.caseA w) (hl : us.length ≤ 16777216) :
    Calls Tryd.prog 27 #[.string s] w fun e w' => e = .returned (.string (strOfNums (packZ (casedZ Lib.toLowerU us)))) ∧ Below w.heap.size w w' := by
  have cM := mapLower_any s us w h hT hV hl
  clear h hT hV
  go_enter Tryd.func27, Tryd.ntmps27
  go_wp2_with (go_at_call 34; refine cM.mono ?_; rintro e w1 ⟨rfl, hb1⟩)
  go_ret
  exact ⟨rfl, hb1⟩
set_option maxHeartbeats 800000 in
/-- Lower: of a text. -/
theorem lower_any (s : ByteArray) (w : World) (hT : Lib.Utf8Tabs 1 2 w) (hV : Lib.CaseVar 3 Lib.caseA w) (hn : s.size ≤ 4000) :
    Calls Tryd.prog 12 #[.string s] w fun e w' => e = .returned (.string (strOfNums (textZ (casedZ Lib.toLowerU (unitsZ (bytesZ s)))))) ∧ Below w.heap.size w w' := by
  have cO := of_any s w hT (by omega)
  have hul := unitsZ_length _ (bytesZ s) rfl
  rw [bytesZ_length] at hul
  have hP1 : Packed (strOfNums (packZ (unitsZ (bytesZ s)))) (unitsZ (bytesZ s)) := Packed.mk (units_rng s) (by omega)
  have hcl := casedZ_length Lib.toLowerU (unitsZ (bytesZ s))
  have hP2 : Packed (strOfNums (packZ (casedZ Lib.toLowerU (unitsZ (bytesZ s))))) (casedZ Lib.toLowerU (unitsZ (bytesZ s))) := Packed.mk (casedZ_range _ _ (units_rng s)) (by omega)
  have h2 := Tabs.lt hT
  go_enter Tryd.func12, Tryd.ntmps12
  go_wp2_with (first | (go_at_call 24; refine cO.mono ?_; rintro e w1 ⟨rfl, hb1⟩; have hT1 := Tabs.below hT hb1 h2; have hV1 := Case.below hV hb1) | (go_at_call 27; refine (strLower_any _ _ _ hP1 hT1 hV1 (by omega)).mono ?_; rintro e w2 ⟨rfl, hb2⟩) | (go_at_call 26; refine (string_any _ _ _ hP2).mono ?_; rintro e w3 ⟨rfl, hb3⟩))
  go_ret
  exact ⟨rfl, (hb1.trans (hb2.mono hb1.size)).trans (hb3.mono (Nat.le_trans hb1.size hb2.size))⟩
end Go.Proofs.YtmhbkilidpbenaaDoor
