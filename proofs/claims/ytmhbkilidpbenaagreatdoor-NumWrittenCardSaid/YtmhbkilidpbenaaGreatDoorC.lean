/- Contracts of the reference's Add, Sub. -/
import Derived.Test.YtmhbkilidpbenaaGreatDoorB
namespace Go.Proofs.YtmhbkilidpbenaaGreatDoor
open Go.RowKit

theorem add_law (s p q x y z c d u v : Int) (hq : q = 65536 * p) (h : s + p * c = x + y) (hz : z = c + u + v) (hd : d = z / 65536) :
    s + p * (z % 65536) + q * d = (x + p * u) + (y + p * v) := by
  have := Int.emod_add_mul_ediv z 65536
  grind

set_option maxHeartbeats 3200000 in
set_option maxRecDepth 100000 in
theorem add_any (va vb : Value) (x y m : Nat) (w : World) (hx : (x : Int) < pw m) (hy : (y : Int) < pw m) (hm : m ≤ 1099511627776) (ha : IsN w va x) (hb : IsN w vb y) :
    Calls Tryz.prog 39 #[va, vb] w fun e w' => ∃ v, e = .returned v ∧ IsN w' v (x + y) ∧ Below w.heap.size w w' := by
  obtain ⟨i0, hi0, hz0, hz1, hz2⟩ := info_parts u32_info
  obtain ⟨A, n, c, us, rfl, hc, hnm, hra, hca, hva⟩ := ha.len hx
  obtain ⟨B, k, d, vs, rfl, hd, hkm, hrb, hcb, hvb⟩ := hb.len hy
  clear ha hb hx hy
  have HA := Lib.hid hra
  have HB := Lib.hid hrb
  have HCA := Lib.hid hca
  have HCB := Lib.hid hcb
  have HVA := Lib.hid hva
  have HVB := Lib.hid hvb
  clear hra hrb hca hcb hva hvb
  go_enter Tryz.func39, Tryz.ntmps39
  go_wp2
  go_loopw [5, 6, 7, 8] (fun v cv i _ wr => ∃ (j : Nat) (c : Int) (os : List Int), i = .int .i64 j ∧ cv = .int .u32 c ∧ 0 ≤ c ∧ c ≤ 1 ∧ j ≤ m + 1 ∧ (m < j → c = 0) ∧ wr.ownsRow w.heap.size 59 1 v j (os.map (Value.int .u32)) ∧ Below w.heap.size w wr ∧ Dig os ∧ os.length = j ∧ val os + pw j * c = val (us.take j) + val (vs.take j)) (fun _ _ i _ _ => m + 1 - (intOf i).toNat)
  case atStart => exact ⟨0, 0, [], rfl, rfl, by omega, by omega, by omega, fun _ => rfl, World.ownsRow_nil _ _ _ _, Below.refl _ _, Dig.nil, rfl, by simp [val_nil]⟩
  case round =>
    obtain ⟨j, c, os, rfl, rfl, hc0, hc1, hj, hjc, hown, hbl, hdo, hlo, hv⟩ := hrel
    have HD := Lib.hid hdo
    have HL := Lib.hid hlo
    have HV := Lib.hid hv
    have HJ := Lib.hid hjc
    clear hdo hlo hv hjc
    have hda := HCA.out.1.getD j
    have hdb := HCB.out.1.getD j
    obtain ⟨u, hu⟩ : ∃ u, us.getD j 0 = u := ⟨_, rfl⟩
    obtain ⟨v, hv⟩ : ∃ v, vs.getD j 0 = v := ⟨_, rfl⟩
    rw [hu] at hda
    rw [hv] at hdb
    obtain ⟨hu0, hu1⟩ := hda
    obtain ⟨hv0, hv1⟩ := hdb
    have HS : Hid (∀ z, z = c + u + v → val (os ++ [z % 65536]) + pw (j + 1) * (z / 65536) = val (us.take (j + 1)) + val (vs.take (j + 1))) := by
      intro z hz
      rw [val_snoc, HL.out, val_take_succ, val_take_succ, hu, hv]
      exact add_law _ _ _ _ _ z c _ u v (pw_succ j) HV.out hz rfl
    have HU := Lib.hid hu
    have HVv := Lib.hid hv
    clear hu hv
    by_cases h1 : j < n
    · obtain ⟨a, oa, rfl, ha, hac⟩ := HA.out.2 (by omega)
      have c1 := hac j h1
      rw [← hbl.cell (p := ⟨a, oa + j, none⟩) ha, HU.out] at c1
      clear hac
      by_cases h2 : j < k
      · obtain ⟨b, ob, rfl, hb, hbc⟩ := HB.out.2 (by omega)
        have c2 := hbc j h2
        rw [← hbl.cell (p := ⟨b, ob + j, none⟩) hb, HVv.out] at c2
        clear hbc
        go_wp2_with (at_builtin; refine append_one (.tmp 46) (.tmp 49) 36 59 .u32 0 4 i0 Tryz.underlying36 hi0 hz0 hz1 hz2 (by decide) rfl rfl wr _ j _ os ((c + u + v) % 65536) rfl rfl hown hbl ?c1 ?_)
        case c1 => omega
        intro v' w2 hown1 hbl2
        go_wp2
        go_roundw
        case rel => exact ⟨j + 1, (c + u + v) / 65536, os ++ [(c + u + v) % 65536], by go_num, by go_num, by omega, by omega, by omega, fun _ => by omega, by rw [List.map_append]; exact hown1, hbl2, HD.out.snoc (by omega) (by omega), by rw [List.length_append, HL.out]; rfl, HS.out _ rfl⟩
        case measure => simp [intOf]; omega
      · have hvz : v = 0 := by
          have := HVv.out
          rw [List.getD, List.getElem?_eq_none (by rw [HB.out.1]; omega)] at this
          exact this.symm
        subst hvz
        go_wp2_with (at_builtin; refine append_one (.tmp 46) (.tmp 49) 36 59 .u32 0 4 i0 Tryz.underlying36 hi0 hz0 hz1 hz2 (by decide) rfl rfl wr _ j _ os ((c + u) % 65536) rfl rfl hown hbl ?c1 ?_)
        case c1 => omega
        intro v' w2 hown1 hbl2
        go_wp2
        go_roundw
        case rel => exact ⟨j + 1, (c + u) / 65536, os ++ [(c + u) % 65536], by go_num, by go_num, by omega, by omega, by omega, fun _ => by omega, by rw [List.map_append]; exact hown1, hbl2, HD.out.snoc (by omega) (by omega), by rw [List.length_append, HL.out]; rfl, HS.out _ (by omega)⟩
        case measure => simp [intOf]; omega
    · have huz : u = 0 := by
        have := HU.out
        rw [List.getD, List.getElem?_eq_none (by rw [HA.out.1]; omega)] at this
        exact this.symm
      subst huz
      by_cases h2 : j < k
      · obtain ⟨b, ob, rfl, hb, hbc⟩ := HB.out.2 (by omega)
        have c2 := hbc j h2
        rw [← hbl.cell (p := ⟨b, ob + j, none⟩) hb, HVv.out] at c2
        clear hbc
        go_wp2_with (at_builtin; refine append_one (.tmp 46) (.tmp 49) 36 59 .u32 0 4 i0 Tryz.underlying36 hi0 hz0 hz1 hz2 (by decide) rfl rfl wr _ j _ os ((c + v) % 65536) rfl rfl hown hbl ?c1 ?_)
        case c1 => omega
        intro v' w2 hown1 hbl2
        go_wp2
        go_roundw
        case rel => exact ⟨j + 1, (c + v) / 65536, os ++ [(c + v) % 65536], by go_num, by go_num, by omega, by omega, by omega, fun _ => by omega, by rw [List.map_append]; exact hown1, hbl2, HD.out.snoc (by omega) (by omega), by rw [List.length_append, HL.out]; rfl, HS.out _ (by omega)⟩
        case measure => simp [intOf]; omega
      · have hvz : v = 0 := by
          have := HVv.out
          rw [List.getD, List.getElem?_eq_none (by rw [HB.out.1]; omega)] at this
          exact this.symm
        subst hvz
        by_cases h3 : 0 < c
        · have hjm : j ≤ m := by
            rcases Nat.lt_or_ge m j with h | h
            · have := HJ.out h; omega
            · exact h
          go_wp2_with (at_builtin; refine append_one (.tmp 46) (.tmp 49) 36 59 .u32 0 4 i0 Tryz.underlying36 hi0 hz0 hz1 hz2 (by decide) rfl rfl wr _ j _ os ((c) % 65536) rfl rfl hown hbl ?c1 ?_)
          case c1 => omega
          intro v' w2 hown1 hbl2
          go_wp2
          go_roundw
          case rel => exact ⟨j + 1, (c) / 65536, os ++ [(c) % 65536], by go_num, by go_num, by omega, by omega, by omega, fun _ => by omega, by rw [List.map_append]; exact hown1, hbl2, HD.out.snoc (by omega) (by omega), by rw [List.length_append, HL.out]; rfl, HS.out _ (by omega)⟩
          case measure => simp [intOf]; omega
        · have hc : c = 0 := by omega
          subst hc
          obtain ⟨A1, c1, rfl, hnc, hr⟩ := own_rd hown
          have hval : val os = ((x + y : Nat) : Int) := by
            have h := HV.out
            rw [List.take_of_length_le (by rw [HA.out.1]; omega), List.take_of_length_le (by rw [HB.out.1]; omega), HVA.out, HVB.out] at h
            push_cast
            omega
          have cC := cut_any A1 j c1 os wr hr HD.out hnc (by omega) (x + y) hval
          clear hr hval hown
          go_wp2_with (go_at_call 57; refine cC.mono ?_; rintro e w1 ⟨v, rfl, hv, rfl⟩)
          go_ret
          exact ⟨_, rfl, hv, hbl⟩

theorem sub_law (s p q x y z c u v : Int) (hq : q = 65536 * p) (h : s + y = x + p * c) (hz : z = u + 65536 - c - v) :
    s + p * (z % 65536) + (y + p * v) = (x + p * u) + q * (1 - z / 65536) := by
  have := Int.emod_add_mul_ediv z 65536
  grind

set_option maxHeartbeats 3200000 in
set_option maxRecDepth 100000 in
theorem sub_any (va vb : Value) (x y m : Nat) (w : World) (hx : (x : Int) < pw m) (hyx : y ≤ x) (hm : m ≤ 1099511627776) (ha : IsN w va x) (hb : IsN w vb y) :
    Calls Tryz.prog 63 #[va, vb] w fun e w' => ∃ v, e = .returned v ∧ IsN w' v (x - y) ∧ Below w.heap.size w w' := by
  obtain ⟨i0, hi0, hz0, hz1, hz2⟩ := info_parts u32_info
  obtain ⟨A, n, c, us, rfl, hc, hnm, hra, hca, hva⟩ := ha.len hx
  obtain ⟨B, k, d, vs, rfl, hd, hkm, hrb, hcb, hvb⟩ := hb.len (Int.lt_of_le_of_lt (Int.ofNat_le.2 hyx) hx)
  have hkn : k ≤ n := by
    rcases Nat.lt_or_ge n k with h | h
    · have := lt_of_len hca hcb (by rw [hra.1, hrb.1]; exact h)
      omega
    · exact h
  clear ha hb hx
  have HA := Lib.hid hra
  have HB := Lib.hid hrb
  have HCA := Lib.hid hca
  have HCB := Lib.hid hcb
  have HVA := Lib.hid hva
  have HVB := Lib.hid hvb
  clear hra hrb hca hcb hva hvb
  go_enter Tryz.func63, Tryz.ntmps63
  go_wp2
  go_loopw [5, 6, 7, 8] (fun v cv i _ wr => ∃ (j : Nat) (c : Int) (os : List Int), i = .int .i64 j ∧ cv = .int .u32 c ∧ 0 ≤ c ∧ c ≤ 1 ∧ j ≤ n ∧ wr.ownsRow w.heap.size 59 1 v j (os.map (Value.int .u32)) ∧ Below w.heap.size w wr ∧ Dig os ∧ os.length = j ∧ val os + val (vs.take j) = val (us.take j) + pw j * c) (fun _ _ i _ _ => n - (intOf i).toNat)
  case atStart => exact ⟨0, 0, [], rfl, rfl, by omega, by omega, by omega, World.ownsRow_nil _ _ _ _, Below.refl _ _, Dig.nil, rfl, by simp [val_nil]⟩
  case round =>
    obtain ⟨j, c, os, rfl, rfl, hc0, hc1, hj, hown, hbl, hdo, hlo, hv⟩ := hrel
    have HD := Lib.hid hdo
    have HL := Lib.hid hlo
    have HV := Lib.hid hv
    clear hdo hlo hv
    have hda := HCA.out.1.getD j
    have hdb := HCB.out.1.getD j
    obtain ⟨u, hu⟩ : ∃ u, us.getD j 0 = u := ⟨_, rfl⟩
    obtain ⟨v, hv⟩ : ∃ v, vs.getD j 0 = v := ⟨_, rfl⟩
    rw [hu] at hda
    rw [hv] at hdb
    obtain ⟨hu0, hu1⟩ := hda
    obtain ⟨hv0, hv1⟩ := hdb
    have HS : Hid (∀ z, z = u + 65536 - c - v → val (os ++ [z % 65536]) + val (vs.take (j + 1)) = val (us.take (j + 1)) + pw (j + 1) * (1 - z / 65536)) := by
      intro z hz
      rw [val_snoc, HL.out, val_take_succ, val_take_succ, hu, hv]
      exact sub_law _ _ _ _ _ z c u v (pw_succ j) HV.out hz
    have HU := Lib.hid hu
    have HVv := Lib.hid hv
    clear hu hv
    by_cases h1 : j < n
    · obtain ⟨a, oa, rfl, ha, hac⟩ := HA.out.2 (by omega)
      have c1 := hac j h1
      rw [← hbl.cell (p := ⟨a, oa + j, none⟩) ha, HU.out] at c1
      clear hac
      by_cases h2 : j < k
      · obtain ⟨b, ob, rfl, hb, hbc⟩ := HB.out.2 (by omega)
        have c2 := hbc j h2
        rw [← hbl.cell (p := ⟨b, ob + j, none⟩) hb, HVv.out] at c2
        clear hbc
        go_wp2_with (at_builtin; refine append_one (.tmp 32) (.tmp 35) 36 59 .u32 0 4 i0 Tryz.underlying36 hi0 hz0 hz1 hz2 (by decide) rfl rfl wr _ j _ os ((u + 65536 - c - v) % 65536) rfl rfl hown hbl ?c1 ?_)
        case c1 => omega
        intro v' w2 hown1 hbl2
        go_wp2
        go_roundw
        case rel => exact ⟨j + 1, 1 - (u + 65536 - c - v) / 65536, os ++ [(u + 65536 - c - v) % 65536], by go_num, by go_num, by omega, by omega, by omega, by rw [List.map_append]; exact hown1, hbl2, HD.out.snoc (by omega) (by omega), by rw [List.length_append, HL.out]; rfl, HS.out _ (by omega)⟩
        case measure => simp [intOf]; omega
      · have hvz : v = 0 := by
          have := HVv.out
          rw [List.getD, List.getElem?_eq_none (by rw [HB.out.1]; omega)] at this
          exact this.symm
        subst hvz
        go_wp2_with (at_builtin; refine append_one (.tmp 32) (.tmp 35) 36 59 .u32 0 4 i0 Tryz.underlying36 hi0 hz0 hz1 hz2 (by decide) rfl rfl wr _ j _ os ((u + 65536 - c) % 65536) rfl rfl hown hbl ?c1 ?_)
        case c1 => omega
        intro v' w2 hown1 hbl2
        go_wp2
        go_roundw
        case rel => exact ⟨j + 1, 1 - (u + 65536 - c) / 65536, os ++ [(u + 65536 - c) % 65536], by go_num, by go_num, by omega, by omega, by omega, by rw [List.map_append]; exact hown1, hbl2, HD.out.snoc (by omega) (by omega), by rw [List.length_append, HL.out]; rfl, HS.out _ (by omega)⟩
        case measure => simp [intOf]; omega
    · have hjn : j = n := by omega
      subst hjn
      have hc : c = 0 := by
        have h := HV.out
        rw [List.take_of_length_le (l := vs) (by rw [HB.out.1]; omega), List.take_of_length_le (l := us) (by rw [HA.out.1]; omega), HVA.out, HVB.out] at h
        have h2 := val_lt HD.out
        rw [HL.out] at h2
        rcases Int.lt_or_le 0 c with h3 | h3
        · have : c = 1 := by omega
          subst this
          omega
        · omega
      subst hc
      obtain ⟨A1, c1, rfl, hnc, hr⟩ := own_rd hown
      have hval : val os = ((x - y : Nat) : Int) := by
        have h := HV.out
        rw [List.take_of_length_le (l := vs) (by rw [HB.out.1]; omega), List.take_of_length_le (l := us) (by rw [HA.out.1]; omega), HVA.out, HVB.out] at h
        omega
      have cC := cut_any A1 j c1 os wr hr HD.out hnc (by omega) (x - y) hval
      clear hr hval hown
      go_wp2_with (go_at_call 57; refine cC.mono ?_; rintro e w1 ⟨v, rfl, hv, rfl⟩)
      go_ret
      exact ⟨_, rfl, hv, hbl⟩
end Go.Proofs.YtmhbkilidpbenaaGreatDoor
