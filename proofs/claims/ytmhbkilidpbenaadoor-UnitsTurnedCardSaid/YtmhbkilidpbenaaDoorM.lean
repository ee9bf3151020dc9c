/- The walk of UnitsTurned: it returns true. -/
import Derived.Test.YtmhbkilidpbenaaDoorL
namespace Go.Proofs.YtmhbkilidpbenaaDoor
open Go.RowKit

theorem own_slice' {w : World} {B : Nat} {e : TypeId} {v : Value} {n : Nat} {us : List Int} (h : w.ownsRow B e 1 v n (us.map (Value.int .u16))) :
    ∃ A c, v = .slice A n c ∧ n ≤ c ∧ RdU w w.heap.size A n us := by
  obtain ⟨A, c, hv, hr⟩ := own_slice h
  refine ⟨A, c, hv, ?_, hr⟩
  rcases h.2 with ⟨h1, h2⟩ | ⟨g, cap, cur, h1, _, _, h2, _⟩
  · omega
  · rw [h1] at hv
    injection hv with _ _ h3
    omega

/-- What stands while the law runs. -/
structure Inv (w0 w : World) (A1 A2 : Option Addr) (n : Nat) (us : List Int) : Prop where
  bl : Below w0.heap.size w0 w
  a : RdU w w.heap.size A1 n us
  b : RdU w w.heap.size A2 n us
  t : Lib.Utf8Tabs 1 2 w
  v : Lib.CaseVar 3 Lib.caseA w
  z : Lib.RVar 0 zsT w
theorem Inv.step {w0 w w' : World} {A1 A2 : Option Addr} {n : Nat} {us : List Int} (h : Inv w0 w A1 A2 n us) (hb : Below w.heap.size w w') : Inv w0 w' A1 A2 n us :=
  ⟨h.bl.trans (hb.mono h.bl.size), (h.a.below hb).more hb.size, (h.b.below hb).more hb.size, Tabs.below h.t hb (Tabs.lt h.t), Case.below h.v hb, Zs.below h.z hb⟩
theorem Inv.drewN {w0 w : World} {A1 A2 : Option Addr} {n : Nat} {us : List Int} (h : Inv w0 w A1 A2 n us) (q : Nat) : Inv w0 (w.drewN q) A1 A2 n us := h.step (below_drewN (Below.refl _ _) q)

theorem own_blk {w : World} {B : Nat} {e : TypeId} {v : Value} {n : Nat} {us : List Int} (h : w.ownsRow B e 1 v n (us.map (Value.int .u16))) (hn : 0 < n) :
    ∃ g cap cur, v = .slice (some ⟨g, 0, none⟩) n cap ∧ B ≤ g ∧ Blk w g e cur ∧ n ≤ cur.size := by
  rcases h.2 with ⟨_, h2⟩ | ⟨g, cap, cur, h1, h2, h3, h4, _, h5, _⟩
  · omega
  · exact ⟨g, cap, cur, h1, h2, h3, by omega⟩
theorem unitsZ_pos {b : List Int} (h : b ≠ []) : 0 < (unitsZ b).length := by
  rw [unitsZ_step h, List.length_append]
  have := cuZ_length (nextZ b).1
  omega
theorem size_plus (s : ByteArray) : (s ++ (⟨#[33]⟩ : ByteArray)).size = s.size + 1 := by rw [ByteArray.size_append]; rfl
theorem bytesZ_plus (s : ByteArray) : bytesZ (s ++ ⟨#[33]⟩) ≠ [] := by
  intro e
  have h := congrArg List.length e
  rw [bytesZ_length, size_plus] at h
  exact absurd h (Nat.succ_ne_zero _)

set_option maxHeartbeats 1600000 in
set_option maxRecDepth 100000 in
theorem turned_some (s : ByteArray) (w : World) (hs : s.size ≤ 4000) (hne : unitsZ (bytesZ s) ≠ []) (hT : Lib.Utf8Tabs 1 2 w) (hV : Lib.CaseVar 3 Lib.caseA w) (hZ : Lib.RVar 0 zsT w) :
    Calls Tryd.prog 4 #[.string s] w fun e w' => e = .returned (.bool true) ∧ Below w.heap.size w w' := by
  obtain ⟨us, hus⟩ : ∃ us, unitsZ (bytesZ s) = us := ⟨_, rfl⟩
  have hul := unitsZ_length _ (bytesZ s) rfl
  have hR := units_rng s
  have cU1 := units_any s w hT (by omega)
  rw [bytesZ_length, hus] at hul
  rw [hus] at hR cU1 hne
  have HR := Lib.hid hR
  have HUS := Lib.hid hus
  have hsz : ¬ (4000 : Int) < (s.size : Int) := by omega
  have hlen : us.length ≠ 0 := fun h => hne (List.eq_nil_of_length_eq_zero h)
  have hl0 : (((us.length : Nat) : Int) == 0) = false := by simp; omega
  obtain ⟨F, B, hTA⟩ := trim_exists whiteZ us
  have HTA := Lib.hid hTA
  have hself := sameB_self us
  clear hne hR hus hTA
  go_enter Tryd.func4, Tryd.ntmps4
  go_wp2_with fail
  refine cU1.mono ?_
  rintro e w1 ⟨v1, rfl, hown1, hb1, -⟩
  obtain ⟨A1, c1, hv1, hc1, hrd1⟩ := own_slice' hown1
  rw [hv1]
  clear hv1 hown1 cU1
  have cU2 := runits_any s w1 (Tabs.below hT hb1 (Tabs.lt hT)) (by omega)
  rw [HUS.out] at cU2
  go_wp2_with fail
  refine cU2.mono ?_
  rintro e w2 ⟨v2, rfl, hown2, hb2⟩
  obtain ⟨A2, c2, hv2, hc2, hrd2⟩ := own_slice' hown2
  rw [hv2]
  clear hv2 hown2 cU2
  have hI2 : Inv w w2 A1 A2 us.length us :=
    ⟨hb1.trans (hb2.mono hb1.size), (hrd1.below hb2).more hb2.size, hrd2, Tabs.below (Tabs.below hT hb1 (Tabs.lt hT)) hb2 (Tabs.lt (Tabs.below hT hb1 (Tabs.lt hT))), Case.below (Case.below hV hb1) hb2, Zs.below (Zs.below hZ hb1) hb2⟩
  have HI2 := Lib.hid hI2
  clear hI2 hrd1 hrd2 hT hV hZ hb1 hb2
  have cU3 := units_any (s ++ ⟨#[33]⟩) w2 HI2.out.t (by rw [size_plus]; omega)
  have hmp := unitsZ_pos (bytesZ_plus s)
  obtain ⟨ms, hms⟩ : ∃ ms, unitsZ (bytesZ (s ++ ⟨#[33]⟩)) = ms := ⟨_, rfl⟩
  rw [hms] at cU3 hmp
  have hml : ms.length ≤ 8002 := by
    have h := unitsZ_length _ (bytesZ (s ++ ⟨#[33]⟩)) rfl
    rw [bytesZ_length, size_plus, hms] at h
    omega
  obtain ⟨m, hm⟩ : ∃ m, ms.length = m := ⟨_, rfl⟩
  rw [hm] at cU3 hmp hml
  clear hms hm
  go_wp2_with fail
  refine cU3.mono ?_
  rintro e w3 ⟨v3, rfl, hown3, hb3, -⟩
  obtain ⟨g, cap, cur, hv3, hg, hB, hcs⟩ := own_blk hown3 hmp
  rw [hv3]
  clear hv3 hown3 cU3
  go_wp2_with fail
  go_loopw [6] (fun i wr => ∃ (k : Nat) (cur : Array Value), k ≤ m ∧ i = .int .i64 k ∧ Blk wr g 27 cur ∧ m ≤ cur.size ∧ Below w2.heap.size w2 wr) (fun i _ => m - (intOf i).toNat)
  case atStart => exact ⟨0, cur, Nat.zero_le _, rfl, hB, hcs, hb3⟩
  case round =>
    obtain ⟨k, cur1, hk, rfl, hB1, hcs1, hbl⟩ := hrel
    by_cases hlt : k < m
    · have hx : cur1[k]? = some (cur1[k]'(by omega)) := Array.getElem?_eq_getElem (by omega)
      obtain ⟨z, hz⟩ : ∃ z, cur1[k]'(show k < cur1.size by omega) = z := ⟨_, rfl⟩
      have cx : wr.cell? ⟨g, k, none⟩ = some z := by rw [hB1.cell, hx, hz]
      have fx : wr.frozen? ⟨g, k, none⟩ = false := hB1.frozen k
      have hset := hB1.set_ k (.int .u16 33)
      have HS := Lib.hid hset
      have hbl2 := hbl.setCell (p := ⟨g, k, none⟩) hg (.int .u16 33)
      clear hset hx hz hB1
      go_wp2
      go_roundw
      case rel => exact ⟨k + 1, _, by omega, by go_num, HS.out, by simpa using hcs1, hbl2⟩
      case measure => simp [intOf]; omega
    · have HI4 := Lib.hid (HI2.out.step hbl)
      clear hB1 hbl hB hb3 hcs hcs1
      obtain ⟨w4, hw4⟩ : ∃ w4 : World, w4 = wr := ⟨_, rfl⟩
      subst hw4
      have cT := fun (W : World) (h : Inv w W A1 A2 us.length us) => text_any A1 us.length c1 us W (by omega) h.a HR.out
      have cR := fun (W : World) (h : Inv w W A1 A2 us.length us) => rtext_any A2 us.length c2 us W (by omega) h.b HR.out
      obtain ⟨tx, htx⟩ : ∃ tx, strOfNums (textZ us) = tx := ⟨_, rfl⟩
      rw [htx] at cT cR
      clear htx
      go_wp2_with fail
      refine (same_any A1 A2 us.length us.length c1 c2 us us w4 HI4.out.a HI4.out.b (by omega)).mono ?_
      rintro e w5 ⟨rfl, q5, rfl⟩
      go_wp2_with fail
      refine (cT _ (HI4.out.drewN q5)).mono ?_
      rintro e w6 ⟨rfl, hb6⟩
      have HI6 := Lib.hid ((HI4.out.drewN q5).step hb6)
      clear hb6
      go_wp2_with fail
      refine (cR _ HI6.out).mono ?_
      rintro e w7 ⟨rfl, hb7⟩
      have HI7 := Lib.hid (HI6.out.step hb7)
      clear hb7 cT cR
      go_wp2_with fail
      refine (same_any A1 A2 us.length us.length c1 c2 us us w7 HI7.out.a HI7.out.b (by omega)).mono ?_
      rintro e w8 ⟨rfl, q8, rfl⟩
      have HI8 := Lib.hid (HI7.out.drewN q8)
      have cC := casedUpper_any A2 us.length c2 us (w7.drewN q8) (by omega) HI8.out.b HR.out HI8.out.t HI8.out.v
      go_wp2_with fail
      refine cC.mono ?_
      rintro e w9 ⟨v9, rfl, hown9, hb9⟩
      obtain ⟨A9, d9, hv9, -, hrd9⟩ := own_slice' hown9
      rw [hv9]
      have HI9 := Lib.hid (HI8.out.step hb9)
      have HD9 := Lib.hid hrd9
      clear hv9 hown9 hb9 hrd9 cC
      have hcl9 := casedZ_length Lib.toUpperU us
      have cX := rtext_any A9 _ d9 _ w9 (by omega) HD9.out (casedZ_range Lib.toUpperU us HR.out)
      go_wp2_with fail
      refine cX.mono ?_
      rintro e w10 ⟨rfl, hb10⟩
      have HI10 := Lib.hid (HI9.out.step hb10)
      clear hb10 cX
      have cY := upper_any s w10 HI10.out.t HI10.out.v hs
      rw [HUS.out] at cY
      go_wp2_with fail
      refine cY.mono ?_
      rintro e w11 ⟨rfl, hb11⟩
      have HI11 := Lib.hid (HI10.out.step hb11)
      clear hb11 cY
      have cC := casedLower_any A2 us.length c2 us w11 (by omega) HI11.out.b HR.out HI11.out.t HI11.out.v
      go_wp2_with fail
      refine cC.mono ?_
      rintro e w14 ⟨v14, rfl, hown14, hb14⟩
      obtain ⟨A14, d14, hv14, -, hrd14⟩ := own_slice' hown14
      rw [hv14]
      have HI14 := Lib.hid (HI11.out.step hb14)
      have HD14 := Lib.hid hrd14
      clear hv14 hown14 hb14 hrd14 cC
      have hcl14 := casedZ_length Lib.toLowerU us
      have cX := rtext_any A14 _ d14 _ w14 (by omega) HD14.out (casedZ_range Lib.toLowerU us HR.out)
      go_wp2_with fail
      refine cX.mono ?_
      rintro e w15 ⟨rfl, hb15⟩
      have HI15 := Lib.hid (HI14.out.step hb15)
      clear hb15 cX
      have cY := lower_any s w15 HI15.out.t HI15.out.v hs
      rw [HUS.out] at cY
      go_wp2_with fail
      refine cY.mono ?_
      rintro e w16 ⟨rfl, hb16⟩
      have HI16 := Lib.hid (HI15.out.step hb16)
      clear hb16 cY
      have cTr := rtrim_any A2 us.length c2 us F B w16 (by omega) hc2 HI16.out.b HR.out HI16.out.z HTA.out
      go_wp2_with fail
      refine cTr.mono ?_
      rintro e w17 ⟨A5, c5, rfl, hrd5, hb17⟩
      have HI17 := Lib.hid (HI16.out.step hb17)
      have HD5 := Lib.hid hrd5
      clear hrd5 hb17 cTr
      have hds : B - F ≤ 1099511627776 := by have := HTA.out.top; omega
      have hdr : ∀ u ∈ (us.take B).drop F, 0 ≤ u ∧ u ≤ 65535 := fun u hu => HR.out u (List.mem_of_mem_take (List.mem_of_mem_drop hu))
      have cX := rtext_any A5 (B - F) c5 ((us.take B).drop F) w17 hds HD5.out hdr
      clear hdr
      go_wp2_with fail
      refine cX.mono ?_
      rintro e w18 ⟨rfl, hb18⟩
      have HI18 := Lib.hid (HI17.out.step hb18)
      clear hb18 cX
      have cY := trim_any s F B w18 HI18.out.t HI18.out.z hs (by rw [HUS.out]; exact HTA.out)
      rw [HUS.out] at cY
      go_wp2_with fail
      refine cY.mono ?_
      rintro e w19 ⟨rfl, hb19⟩
      have HI19 := Lib.hid (HI18.out.step hb19)
      clear hb19 cY
      go_wp2_with fail
      go_ret
      exact ⟨ret_bool (by simp), HI19.out.bl⟩
set_option maxHeartbeats 1600000 in
set_option maxRecDepth 100000 in
theorem turned_none (s : ByteArray) (w : World) (hs : s.size ≤ 4000) (hne : unitsZ (bytesZ s) = []) (hT : Lib.Utf8Tabs 1 2 w) (hV : Lib.CaseVar 3 Lib.caseA w) (hZ : Lib.RVar 0 zsT w) :
    Calls Tryd.prog 4 #[.string s] w fun e w' => e = .returned (.bool true) ∧ Below w.heap.size w w' := by
  have hus := hne
  have hR := units_rng s
  have cU1 := units_any s w hT (by omega)
  rw [hus] at hR cU1
  have HR := Lib.hid hR
  have HUS := Lib.hid hus
  have hsz : ¬ (4000 : Int) < (s.size : Int) := by omega
  have hnn := fun W => Go.run_neq_slice_nil_any (P := Tryd.prog) W 22 27 none 0 0 0 0 Tryd.underlying22
  obtain ⟨F, B, hTA⟩ := trim_exists whiteZ []
  have HTA := Lib.hid hTA
  have hself := sameB_self ([] : List Int)
  clear hne hR hus hTA
  go_enter Tryd.func4, Tryd.ntmps4
  go_wp2_with fail
  refine cU1.mono ?_
  rintro e w1 ⟨v1, rfl, hown1, hb1, hnil⟩
  have hv1 : v1 = .slice none 0 0 := hnil trivial
  have hrd1 : RdU w1 w1.heap.size none 0 [] := ⟨rfl, fun h => absurd h (by omega)⟩
  rw [hv1]
  clear hv1 hown1 cU1 hnil
  have cU2 := runits_any s w1 (Tabs.below hT hb1 (Tabs.lt hT)) (by omega)
  rw [HUS.out] at cU2
  go_wp2_with fail
  refine cU2.mono ?_
  rintro e w2 ⟨v2, rfl, hown2, hb2⟩
  obtain ⟨A2, c2, hv2, hc2, hrd2⟩ := own_slice' hown2
  rw [hv2]
  clear hv2 hown2 cU2
  have hI2 : Inv w w2 none A2 0 [] :=
    ⟨hb1.trans (hb2.mono hb1.size), (hrd1.below hb2).more hb2.size, hrd2, Tabs.below (Tabs.below hT hb1 (Tabs.lt hT)) hb2 (Tabs.lt (Tabs.below hT hb1 (Tabs.lt hT))), Case.below (Case.below hV hb1) hb2, Zs.below (Zs.below hZ hb1) hb2⟩
  have HI2 := Lib.hid hI2
  clear hI2 hrd1 hrd2 hT hV hZ hb1 hb2
  have cU3 := units_any (s ++ ⟨#[33]⟩) w2 HI2.out.t (by rw [size_plus]; omega)
  have hmp := unitsZ_pos (bytesZ_plus s)
  obtain ⟨ms, hms⟩ : ∃ ms, unitsZ (bytesZ (s ++ ⟨#[33]⟩)) = ms := ⟨_, rfl⟩
  rw [hms] at cU3 hmp
  have hml : ms.length ≤ 8002 := by
    have h := unitsZ_length _ (bytesZ (s ++ ⟨#[33]⟩)) rfl
    rw [bytesZ_length, size_plus, hms] at h
    omega
  obtain ⟨m, hm⟩ : ∃ m, ms.length = m := ⟨_, rfl⟩
  rw [hm] at cU3 hmp hml
  clear hms hm
  go_wp2_with fail
  refine cU3.mono ?_
  rintro e w3 ⟨v3, rfl, hown3, hb3, -⟩
  obtain ⟨g, cap, cur, hv3, hg, hB, hcs⟩ := own_blk hown3 hmp
  rw [hv3]
  clear hv3 hown3 cU3
  go_wp2_with fail
  go_loopw [6] (fun i wr => ∃ (k : Nat) (cur : Array Value), k ≤ m ∧ i = .int .i64 k ∧ Blk wr g 27 cur ∧ m ≤ cur.size ∧ Below w2.heap.size w2 wr) (fun i _ => m - (intOf i).toNat)
  case atStart => exact ⟨0, cur, Nat.zero_le _, rfl, hB, hcs, hb3⟩
  case round =>
    obtain ⟨k, cur1, hk, rfl, hB1, hcs1, hbl⟩ := hrel
    by_cases hlt : k < m
    · have hx : cur1[k]? = some (cur1[k]'(by omega)) := Array.getElem?_eq_getElem (by omega)
      obtain ⟨z, hz⟩ : ∃ z, cur1[k]'(show k < cur1.size by omega) = z := ⟨_, rfl⟩
      have cx : wr.cell? ⟨g, k, none⟩ = some z := by rw [hB1.cell, hx, hz]
      have fx : wr.frozen? ⟨g, k, none⟩ = false := hB1.frozen k
      have hset := hB1.set_ k (.int .u16 33)
      have HS := Lib.hid hset
      have hbl2 := hbl.setCell (p := ⟨g, k, none⟩) hg (.int .u16 33)
      clear hset hx hz hB1
      go_wp2
      go_roundw
      case rel => exact ⟨k + 1, _, by omega, by go_num, HS.out, by simpa using hcs1, hbl2⟩
      case measure => simp [intOf]; omega
    · have HI4 := Lib.hid (HI2.out.step hbl)
      clear hB1 hbl hB hb3 hcs hcs1
      obtain ⟨w4, hw4⟩ : ∃ w4 : World, w4 = wr := ⟨_, rfl⟩
      subst hw4
      have cT := fun (W : World) (h : Inv w W none A2 0 []) => text_any none 0 0 [] W (by omega) h.a HR.out
      have cR := fun (W : World) (h : Inv w W none A2 0 []) => rtext_any A2 0 c2 [] W (by omega) h.b HR.out
      obtain ⟨tx, htx⟩ : ∃ tx, strOfNums (textZ ([] : List Int)) = tx := ⟨_, rfl⟩
      rw [htx] at cT cR
      clear htx
      go_wp2_with fail
      refine (same_any none A2 0 0 0 c2 [] [] w4 HI4.out.a HI4.out.b (by omega)).mono ?_
      rintro e w5 ⟨rfl, q5, rfl⟩
      go_wp2_with fail
      refine (cT _ (HI4.out.drewN q5)).mono ?_
      rintro e w6 ⟨rfl, hb6⟩
      have HI6 := Lib.hid ((HI4.out.drewN q5).step hb6)
      clear hb6
      go_wp2_with fail
      refine (cR _ HI6.out).mono ?_
      rintro e w7 ⟨rfl, hb7⟩
      have HI7 := Lib.hid (HI6.out.step hb7)
      clear hb7 cT cR
      go_wp2_with fail
      refine (same_any none A2 0 0 0 c2 [] [] w7 HI7.out.a HI7.out.b (by omega)).mono ?_
      rintro e w8 ⟨rfl, q8, rfl⟩
      have HI8 := Lib.hid (HI7.out.drewN q8)
      have cC := casedUpper_any A2 0 c2 [] (w7.drewN q8) (by omega) HI8.out.b HR.out HI8.out.t HI8.out.v
      go_wp2_with fail
      refine cC.mono ?_
      rintro e w9 ⟨v9, rfl, hown9, hb9⟩
      obtain ⟨A9, d9, hv9, -, hrd9⟩ := own_slice' hown9
      rw [hv9]
      have HI9 := Lib.hid (HI8.out.step hb9)
      have HD9 := Lib.hid hrd9
      clear hv9 hown9 hb9 hrd9 cC
      have hcl9 := casedZ_length Lib.toUpperU ([] : List Int)
      rw [List.length_nil] at hcl9
      have cX := rtext_any A9 _ d9 _ w9 (by omega) HD9.out (casedZ_range Lib.toUpperU [] HR.out)
      go_wp2_with fail
      refine cX.mono ?_
      rintro e w10 ⟨rfl, hb10⟩
      have HI10 := Lib.hid (HI9.out.step hb10)
      clear hb10 cX
      have cY := upper_any s w10 HI10.out.t HI10.out.v hs
      rw [HUS.out] at cY
      go_wp2_with fail
      refine cY.mono ?_
      rintro e w11 ⟨rfl, hb11⟩
      have HI11 := Lib.hid (HI10.out.step hb11)
      clear hb11 cY
      have cC := casedLower_any A2 0 c2 [] w11 (by omega) HI11.out.b HR.out HI11.out.t HI11.out.v
      go_wp2_with fail
      refine cC.mono ?_
      rintro e w14 ⟨v14, rfl, hown14, hb14⟩
      obtain ⟨A14, d14, hv14, -, hrd14⟩ := own_slice' hown14
      rw [hv14]
      have HI14 := Lib.hid (HI11.out.step hb14)
      have HD14 := Lib.hid hrd14
      clear hv14 hown14 hb14 hrd14 cC
      have hcl14 := casedZ_length Lib.toLowerU ([] : List Int)
      rw [List.length_nil] at hcl14
      have cX := rtext_any A14 _ d14 _ w14 (by omega) HD14.out (casedZ_range Lib.toLowerU [] HR.out)
      go_wp2_with fail
      refine cX.mono ?_
      rintro e w15 ⟨rfl, hb15⟩
      have HI15 := Lib.hid (HI14.out.step hb15)
      clear hb15 cX
      have cY := lower_any s w15 HI15.out.t HI15.out.v hs
      rw [HUS.out] at cY
      go_wp2_with fail
      refine cY.mono ?_
      rintro e w16 ⟨rfl, hb16⟩
      have HI16 := Lib.hid (HI15.out.step hb16)
      clear hb16 cY
      have cTr := rtrim_any A2 0 c2 [] F B w16 (by omega) hc2 HI16.out.b HR.out HI16.out.z HTA.out
      go_wp2_with fail
      refine cTr.mono ?_
      rintro e w17 ⟨A5, c5, rfl, hrd5, hb17⟩
      have HI17 := Lib.hid (HI16.out.step hb17)
      have HD5 := Lib.hid hrd5
      clear hrd5 hb17 cTr
      have hds : B - F ≤ 1099511627776 := by have := HTA.out.top; rw [List.length_nil] at this; omega
      have hdr : ∀ u ∈ (([] : List Int).take B).drop F, 0 ≤ u ∧ u ≤ 65535 := fun u hu => HR.out u (List.mem_of_mem_take (List.mem_of_mem_drop hu))
      have cX := rtext_any A5 (B - F) c5 ((([] : List Int).take B).drop F) w17 hds HD5.out hdr
      clear hdr
      go_wp2_with fail
      refine cX.mono ?_
      rintro e w18 ⟨rfl, hb18⟩
      have HI18 := Lib.hid (HI17.out.step hb18)
      clear hb18 cX
      have cY := trim_any s F B w18 HI18.out.t HI18.out.z hs (by rw [HUS.out]; exact HTA.out)
      rw [HUS.out] at cY
      go_wp2_with fail
      refine cY.mono ?_
      rintro e w19 ⟨rfl, hb19⟩
      have HI19 := Lib.hid (HI18.out.step hb19)
      clear hb19 cY
      go_wp2_with fail
      go_ret
      exact ⟨ret_bool (by simp), HI19.out.bl⟩

theorem turned_any (s : ByteArray) (w : World) (hT : Lib.Utf8Tabs 1 2 w) (hV : Lib.CaseVar 3 Lib.caseA w) (hZ : Lib.RVar 0 zsT w) (hm : s.size ≤ 9223372036854775807) :
    Calls Tryd.prog 4 #[.string s] w fun e w' => e = .returned (.bool true) ∧ Below w.heap.size w w' := by
  by_cases hbig : (4000 : Int) < (s.size : Int)
  · go_enter Tryd.func4, Tryd.ntmps4
    go_wp2
    go_ret
    exact ⟨rfl, Below.refl _ _⟩
  · by_cases hne : unitsZ (bytesZ s) = []
    · exact turned_none s w (by omega) hne hT hV hZ
    · exact turned_some s w (by omega) hne hT hV hZ
end Go.Proofs.YtmhbkilidpbenaaDoor
