/- Contracts of the reference's Mul, Power. -/
import Derived.Test.YtmhbkilidpbenaaGreatDoorC
namespace Go.Proofs.YtmhbkilidpbenaaGreatDoor
open Go.RowKit

def cellsU (k : IntKind) (l : List Int) : Array Value := (l.map (Value.int k)).toArray
theorem made_zero (k : IntKind) (n : Nat) : madeCells #[.int k 0] n = cellsU k (List.replicate n 0) := by
  apply Array.ext
  · simp [madeCells, cellsU]
  · intro i h1 h2
    simp [madeCells, cellsU, Nat.mod_one]
theorem run_make32 (n : Nat) (hn : n ≤ 4398046511104) (W : World) :
    (Instr.makeSlice 36 (.int .i64 (n : Int)) (.int .i64 (n : Int))).run Tryz.prog W = .ok (.slice (some ⟨W.heap.size, 0, none⟩) n n) (W.alloc (.cells (cellsU .u32 (List.replicate n 0)) 59)) := by
  obtain ⟨i0, hi0, hz0, hz1, hz2⟩ := info_parts u32_info
  have h := run_make (P := Tryz.prog) W 36 59 i0 (.int .u32 0) Tryz.underlying36 hi0 hz0 .i64 .i64 n n (by omega) (by omega) (by rw [hz2]; omega) (by omega)
  rw [hz1, Nat.mul_one, Int.toNat_natCast] at h
  rw [h, ← made_zero]
  rfl
theorem cellsU_get (k : IntKind) (l : List Int) (i : Nat) (h : i < l.length) : (cellsU k l)[i]? = some (.int k (l.getD i 0)) := by
  simp [cellsU, List.getD, h]
theorem cellsU_set (k : IntKind) (l : List Int) (i : Nat) (x : Int) : (cellsU k l).setIfInBounds i (.int k x) = cellsU k (l.set i x) := by
  apply Array.toList_inj.1
  simp [cellsU]
theorem Blk.rd {w : World} {g n : Nat} {us : List Int} (h : Blk w g 59 (cellsU .u32 us)) (hl : us.length = n) : Rd w w.heap.size (some ⟨g, 0, none⟩) n us :=
  ⟨hl, fun _ => ⟨g, 0, rfl, h.lt, fun k hk => by rw [h.cell, Nat.zero_add]; exact cellsU_get _ _ _ (by omega)⟩⟩
theorem getD_set_ne {l : List Int} {i t : Nat} (d : Int) (h : i ≠ t) : (l.set i d).getD t 0 = l.getD t 0 := by
  simp [List.getD, List.getElem?_set_ne h]

theorem mul_in (O X y u v c o x P Pl V Pj : Int) (hx : x = o + u * v + c) (hP : P = Pj * Pl) (h : O + P * c = X * y + Pj * (u * V)) :
    (O + P * (x % 65536 - o)) + 65536 * P * (x / 65536) = X * y + Pj * (u * (V + Pl * v)) := by
  have := Int.emod_add_mul_ediv x 65536
  grind

set_option maxHeartbeats 6400000 in
set_option maxRecDepth 100000 in
theorem mul_any (va vb : Value) (x y m l : Nat) (w : World) (hx : (x : Int) < pw m) (hy : (y : Int) < pw l) (hm : m ≤ 1099511627776) (hl : l ≤ 1099511627776) (ha : IsN w va x) (hb : IsN w vb y) :
    Calls Tryz.prog 62 #[va, vb] w fun e w' => ∃ v, e = .returned v ∧ IsN w' v (x * y) ∧ Below w.heap.size w w' := by
  obtain ⟨A, n, c, us, rfl, hc, hnm, hra, hca, hva⟩ := ha.len hx
  obtain ⟨B, k, d, vs, rfl, hd, hkm, hrb, hcb, hvb⟩ := hb.len hy
  clear ha hb hx hy
  have hn : n ≤ 1099511627776 := by omega
  have hk : k ≤ 1099511627776 := by omega
  clear hnm hkm hm hl
  have HA := Lib.hid hra
  have HB := Lib.hid hrb
  have HCA := Lib.hid hca
  have HCB := Lib.hid hcb
  have HVA := Lib.hid hva
  have HVB := Lib.hid hvb
  clear hra hrb hca hcb hva hvb
  obtain ⟨s, hs⟩ : ∃ s, n + k = s := ⟨_, rfl⟩
  have hmk := run_make32 s (by omega)
  have e1 : (n : Int) + (k : Int) = (s : Int) := by omega
  go_enter Tryz.func62, Tryz.ntmps62
  go_wp2
  clear hmk e1
  go_loopw [6, 7, 8, 9] (fun i _ _ _ wr => ∃ (j : Nat) (O : List Int), i = .int .i64 j ∧ j ≤ n ∧ Blk wr w.heap.size 59 (cellsU .u32 O) ∧ Below w.heap.size w wr ∧ Dig O ∧ O.length = s ∧ val O = val (us.take j) * y ∧ ∀ t, j + k ≤ t → O.getD t 0 = 0) (fun i _ _ _ _ => n - (intOf i).toNat)
  case atStart => exact ⟨0, List.replicate s 0, rfl, by omega, Blk.new w 59 _, (Below.refl _ _).alloc (Nat.le_refl _) _, Dig.zeros _, by simp, by rw [val_zeros]; simp [val_nil], fun t _ => by simp [List.getD, List.getElem?_replicate]; split <;> rfl⟩
  case round =>
    obtain ⟨j, O, rfl, hj, hB, hbl, hdo, hlo, hv, hz⟩ := hrel
    by_cases h1 : j < n
    · have HDO := Lib.hid hdo
      have HLO := Lib.hid hlo
      have HV := Lib.hid hv
      have HZ := Lib.hid hz
      clear hdo hlo hv hz
      obtain ⟨a, oa, rfl, ha, hac⟩ := HA.out.2 (by omega)
      have hca := hac j h1
      obtain ⟨u, hu⟩ : ∃ u, us.getD j 0 = u := ⟨_, rfl⟩
      have hda := HCA.out.1.getD j
      rw [hu] at hca hda
      obtain ⟨hu0, hu1⟩ := hda
      have HU := Lib.hid hu
      clear hac hu
      have hU : us.getD j 0 = u := HU.out
      go_wp2
      go_loopw [7, 8, 9] (fun cv i _ wr => ∃ (q : Nat) (c : Int) (O : List Int), i = .int .i64 q ∧ cv = .int .u32 c ∧ 0 ≤ c ∧ c < 65536 ∧ q ≤ k ∧ Blk wr w.heap.size 59 (cellsU .u32 O) ∧ Below w.heap.size w wr ∧ Dig O ∧ O.length = s ∧ val O + pw (j + q) * c = val (us.take j) * y + pw j * (u * val (vs.take q)) ∧ ∀ t, j + k ≤ t → O.getD t 0 = 0) (fun _ i _ _ => k - (intOf i).toNat)
      case atStart => exact ⟨0, 0, O, rfl, rfl, by omega, by omega, by omega, hB, hbl, HDO.out, HLO.out, by rw [HV.out]; simp [val_nil], HZ.out⟩
      case round =>
        clear hB hbl HDO HLO HV HZ O
        obtain ⟨q, c, O, rfl, rfl, hc0, hc1, hq, hB, hbl, hdo, hlo, hv, hz⟩ := hrel
        by_cases h2 : q < k
        · obtain ⟨b, ob, rfl, hb, hbc⟩ := HB.out.2 (by omega)
          obtain ⟨r, hr⟩ : ∃ r, j + q = r := ⟨_, rfl⟩
          have hrs : r < s := by omega
          have hri : (j : Int) + (q : Int) = (r : Int) := by omega
          have c0 : wr.cell? ⟨a, oa + j, none⟩ = some (.int .u32 u) := by rw [hbl.cell (p := ⟨a, oa + j, none⟩) ha]; exact hca
          have c2 := hbc q h2
          rw [← hbl.cell (p := ⟨b, ob + q, none⟩) hb] at c2
          have c1 : wr.cell? ⟨w.heap.size, r, none⟩ = some (.int .u32 (O.getD r 0)) := by rw [hB.cell]; exact cellsU_get _ _ _ (by omega)
          have f1 : wr.frozen? ⟨w.heap.size, r, none⟩ = false := hB.frozen r
          have hdv := HCB.out.1.getD q
          have hdr := hdo.getD r
          obtain ⟨v, hv'⟩ : ∃ v, vs.getD q 0 = v := ⟨_, rfl⟩
          obtain ⟨o, ho'⟩ : ∃ o, O.getD r 0 = o := ⟨_, rfl⟩
          rw [hv'] at c2 hdv
          rw [ho'] at c1 hdr
          obtain ⟨hv0, hv1⟩ := hdv
          obtain ⟨ho0, ho1⟩ := hdr
          have hp0 : 0 ≤ u * v := Int.mul_nonneg hu0 hv0
          have hp1 : u * v ≤ 65535 * 65535 := Int.mul_le_mul (by omega) (by omega) hv0 (by omega)
          obtain ⟨p, hp⟩ : ∃ p, u * v = p := ⟨_, rfl⟩
          rw [hp] at hp0 hp1
          have hset := hB.set_ r (.int .u32 ((o + p + c) % 65536))
          rw [cellsU_set] at hset
          have hbl2 := hbl.setCell (p := ⟨w.heap.size, r, none⟩) (Nat.le_refl _) (.int .u32 ((o + p + c) % 65536))
          have hw1 : IntKind.u32.wrap (u * v) = p := by rw [hp, IntKind.wrap_u32]; omega
          have hw2 : IntKind.u32.wrap (o + p) = o + p := by rw [IntKind.wrap_u32]; omega
          have hw3 : IntKind.u32.wrap (o + p + c) = o + p + c := by rw [IntKind.wrap_u32]; omega
          have hwi : IntKind.i64.wrap ((j : Int) + (q : Int)) = (r : Int) := by rw [hri]; exact IntWalk.i64_in _ (by omega)
          have HN : Hid (val (O.set r ((o + p + c) % 65536)) + pw (j + (q + 1)) * ((o + p + c) / 65536) = val (us.take j) * y + pw j * (u * val (vs.take (q + 1)))) := by
            have h := mul_in (val O) (val (us.take j)) y u v c o (o + p + c) (pw r) (pw q) (val (vs.take q)) (pw j) (by rw [hp]) (by rw [← hr, pw_add]) (by rw [← hr]; exact hv)
            rw [val_take_succ, hv', val_set _ _ _ (by omega), ho', ← h, ← Nat.add_assoc, hr, pw_succ]
            rfl
          have HSet := Lib.hid hset
          have HZ : Hid (∀ t, j + k ≤ t → (O.set r ((o + p + c) % 65536)).getD t 0 = 0) := fun t ht => by rw [getD_set_ne _ (by omega)]; exact hz t ht
          have HDig : Hid (Dig (O.set r ((o + p + c) % 65536))) := hdo.set r (by omega) (by omega)
          have HLen : Hid ((O.set r ((o + p + c) % 65536)).length = s) := by show _ = s; rw [List.length_set]; exact hlo
          have HB2 := Lib.hid hbl2
          have HP := Lib.hid hp
          clear hset hbc hdo hlo hv hz hv' ho' hB hp hbl2
          go_wp2
          go_quiet (fail)
          go_wp2
          go_roundw
          case rel => exact ⟨q + 1, (o + p + c) / 65536, _, by go_num, by go_num, by omega, by omega, by omega, HSet.out, below_drewN HB2.out nq, HDig.out, HLen.out, HN.out, HZ.out⟩
          case measure => simp [intOf]; omega
        · have hqk : q = k := by omega
          subst hqk
          obtain ⟨r, hr⟩ : ∃ r, j + q = r := ⟨_, rfl⟩
          have hrs : r < s := by omega
          have hri : (j : Int) + (q : Int) = (r : Int) := by omega
          have c1 : wr.cell? ⟨w.heap.size, r, none⟩ = some (.int .u32 (O.getD r 0)) := by rw [hB.cell]; exact cellsU_get _ _ _ (by omega)
          have f1 : wr.frozen? ⟨w.heap.size, r, none⟩ = false := hB.frozen r
          have hr0 := hz r (by omega)
          rw [hr0] at c1
          have hset := hB.set_ r (.int .u32 c)
          rw [cellsU_set] at hset
          have HSet := Lib.hid hset
          have HB2 := Lib.hid (hbl.setCell (p := ⟨w.heap.size, r, none⟩) (Nat.le_refl _) (.int .u32 c))
          have HZ : Hid (∀ t, (j + 1) + q ≤ t → (O.set r c).getD t 0 = 0) := fun t ht => by rw [getD_set_ne _ (by omega)]; exact hz t (by omega)
          have HDig : Hid (Dig (O.set r c)) := hdo.set r (by omega) (by omega)
          have HLen : Hid ((O.set r c).length = s) := by show _ = s; rw [List.length_set]; exact hlo
          have HN : Hid (val (O.set r c) = val (us.take (j + 1)) * y) := by
            show _ = _
            rw [List.take_of_length_le (l := vs) (by rw [HB.out.1]; omega), HVB.out, hr] at hv
            rw [val_set _ _ _ (by omega), hr0, val_take_succ, hU]
            grind
          clear hset hdo hlo hv hz hB hr0 hbl
          go_wp2
          go_roundw
          case rel => exact ⟨j + 1, _, by go_num, by omega, HSet.out, HB2.out, HDig.out, HLen.out, HN.out, HZ.out⟩
          case measure => simp [intOf]; omega
    · have hjn : j = n := by omega
      subst hjn
      have hval : val O = ((x * y : Nat) : Int) := by
        rw [hv, List.take_of_length_le (by rw [HA.out.1]; omega), HVA.out, Int.natCast_mul]
      have cC := cut_any _ s s O wr (hB.rd hlo) hdo (Nat.le_refl _) (by omega) (x * y) hval
      clear hz hval hv hB hdo hlo
      go_wp2_with (go_at_call 57; refine cC.mono ?_; rintro e w1 ⟨v, rfl, hv, rfl⟩)
      go_ret
      exact ⟨_, rfl, hv, hbl⟩
end Go.Proofs.YtmhbkilidpbenaaGreatDoor
