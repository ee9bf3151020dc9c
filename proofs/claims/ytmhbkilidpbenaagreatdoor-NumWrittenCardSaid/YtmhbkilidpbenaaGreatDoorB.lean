/- Contracts of the reference's Cmp, bits, Add, Sub. -/
import Derived.Test.YtmhbkilidpbenaaGreatDoorA
namespace Go.Proofs.YtmhbkilidpbenaaGreatDoor
open Go.RowKit

theorem IsN.len {w : World} {v : Value} {x m : Nat} (h : IsN w v x) (hx : (x : Int) < pw m) : ∃ A n c us, v = .slice A n c ∧ n ≤ c ∧ n ≤ m ∧ Rd w w.heap.size A n us ∧ Canon us ∧ val us = (x : Int) := by
  obtain ⟨A, n, c, us, rfl, hc, hr, hn, hv⟩ := h
  exact ⟨A, n, c, us, rfl, hc, by rw [← hr.1]; exact hn.len_le (by rw [hv]; exact hx), hr, hn, hv⟩

theorem drop_ext {xs ys : List Int} {k : Nat} (hx : k < xs.length) (hy : k < ys.length) (h : xs.drop (k + 1) = ys.drop (k + 1)) (he : xs.getD k 0 = ys.getD k 0) : xs.drop k = ys.drop k := by
  rw [List.drop_eq_getElem_cons hx, List.drop_eq_getElem_cons hy, h]
  rw [List.getD, List.getElem?_eq_getElem hx, List.getD, List.getElem?_eq_getElem hy] at he
  rw [show xs[k] = ys[k] from he]
def CmpIs (c : Int) (x y : Nat) : Prop := (c < 0 ↔ x < y) ∧ (0 < c ↔ y < x)

set_option maxHeartbeats 1600000 in
set_option maxRecDepth 100000 in
theorem cmp_any (va vb : Value) (x y m : Nat) (w : World) (hx : (x : Int) < pw m) (hy : (y : Int) < pw m) (hm : m ≤ 4611686018427387904) (ha : IsN w va x) (hb : IsN w vb y) :
    Calls Tryz.prog 40 #[va, vb] w fun e w' => ∃ c : Int, e = .returned (.int .i64 c) ∧ CmpIs c x y ∧ ∃ q, w' = w.drewN q := by
  obtain ⟨A, n, c, us, rfl, hc, hnm, hra, hca, hva⟩ := ha.len hx
  obtain ⟨B, k, d, vs, rfl, hd, hkm, hrb, hcb, hvb⟩ := hb.len hy
  clear ha hb hx hy
  have HA := Lib.hid hra
  have HB := Lib.hid hrb
  have HCA := Lib.hid hca
  have HCB := Lib.hid hcb
  have HVA := Lib.hid hva
  have HVB := Lib.hid hvb
  clear hra hrb hca hcb hva hvb
  by_cases hl : n = k
  · subst hl
    go_enter Tryz.func40, Tryz.ntmps40
    go_wp2
    go_loopw [5] (fun i wr => ∃ j : Nat, j ≤ n ∧ i = .int .i64 ((j : Int) - 1) ∧ us.drop j = vs.drop j ∧ ∃ q, wr = w.drewN q) (fun i _ => (intOf i + 1).toNat)
    case atStart => exact ⟨n, Nat.le_refl _, rfl, by rw [List.drop_of_length_le (by have := HA.out.1; omega), List.drop_of_length_le (by have := HB.out.1; omega)], 0, rfl⟩
    case round =>
      obtain ⟨j, hj, rfl, hz, q, rfl⟩ := hrel
      have HZ := Lib.hid hz
      clear hz
      by_cases h0 : 0 < j
      · obtain ⟨a, oa, rfl, _, hac⟩ := HA.out.2 (by omega)
        obtain ⟨b, ob, rfl, _, hbc⟩ := HB.out.2 (by omega)
        obtain ⟨i, rfl⟩ : ∃ i, j = i + 1 := ⟨j - 1, by omega⟩
        have hin : i < n := by omega
        have c1 := hac i (by omega)
        have c2 := hbc i (by omega)
        have e1 : (((i + 1 : Nat) : Int) - 1) = (i : Int) := by omega
        rw [e1]
        have hda := HCA.out.1.getD i
        have hdb := HCB.out.1.getD i
        obtain ⟨u, hu⟩ : ∃ u, us.getD i 0 = u := ⟨_, rfl⟩
        obtain ⟨v, hv⟩ : ∃ v, vs.getD i 0 = v := ⟨_, rfl⟩
        rw [hu] at c1 hda
        rw [hv] at c2 hdb
        have HU := Lib.hid hu
        have HV := Lib.hid hv
        clear hac hbc hu hv e1
        by_cases huv : u = v
        · subst huv
          go_wp2
          go_quiet (fail)
          go_wp2
          go_roundw
          case rel => exact ⟨i, by omega, by go_num, drop_ext (by rw [HA.out.1]; omega) (by rw [HB.out.1]; omega) HZ.out (HU.out.trans HV.out.symm), _, rfl⟩
          case measure => simp [intOf]
        · go_wp2
          go_quiet (fail)
          go_wp2
          go_quiet (fail)
          go_wp2
          go_ret
          refine ⟨u - v, rfl, ?_, _, by rw [World.drewN_drewN, World.drewN_drewN]⟩
          have h1 := HA.out.1
          have h2 := HB.out.1
          have h3 := HVA.out
          have h4 := HVB.out
          unfold CmpIs
          rcases Int.lt_or_gt_of_ne huv with hlt | hlt
          · have := val_lt_of (k := i) HCA.out.1 HCB.out.1 (by omega) (by omega) (congrArg val HZ.out) (by rw [HU.out, HV.out]; exact hlt)
            omega
          · have := val_lt_of (k := i) HCB.out.1 HCA.out.1 (by omega) (by omega) (congrArg val HZ.out.symm) (by rw [HU.out, HV.out]; exact hlt)
            omega
      · have hj0 : j = 0 := by omega
        subst hj0
        go_wp2
        go_ret
        refine ⟨0, rfl, ?_, _, rfl⟩
        have h1 := HZ.out
        rw [List.drop_zero, List.drop_zero] at h1
        have h3 := HVA.out
        have h4 := HVB.out
        rw [h1] at h3
        unfold CmpIs
        omega
  · go_enter Tryz.func40, Tryz.ntmps40
    go_wp2
    go_ret
    refine ⟨(n : Int) - k, rfl, ?_, 0, rfl⟩
    have h1 := HA.out.1
    have h2 := HB.out.1
    have h3 := HVA.out
    have h4 := HVB.out
    unfold CmpIs
    rcases Nat.lt_or_gt_of_ne hl with hlt | hlt
    · have := lt_of_len HCA.out HCB.out (by omega)
      omega
    · have := lt_of_len HCB.out HCA.out (by omega)
      omega

/-- How many bits a number has. -/
def blen (x : Nat) : Nat := if x = 0 then 0 else x.log2 + 1
theorem blen_zero : blen 0 = 0 := rfl
theorem blen_half (x : Nat) (h : 0 < x) : blen x = blen (x / 2) + 1 := by
  unfold blen
  rcases Nat.lt_or_ge x 2 with h1 | h1
  · have : x = 1 := by omega
    subst this
    decide
  · rw [if_neg (by omega), if_neg (by omega), Nat.log2_def x, if_pos (by omega)]
theorem blen_shift (d y k : Nat) (h : y < 2 ^ k) (hd : 0 < d) : blen (y + 2 ^ k * d) = k + blen d := by
  induction k generalizing y with
  | zero => have : y = 0 := by simpa using h
            subst this; simp
  | succ k ih =>
    have hp : 0 < 2 ^ (k + 1) := Nat.two_pow_pos _
    have h0 : 0 < 2 ^ (k + 1) * d := Nat.mul_pos hp hd
    have e : 2 ^ (k + 1) * d = 2 * (2 ^ k * d) := by rw [Nat.pow_succ]; grind
    rw [blen_half _ (by omega), show (y + 2 ^ (k + 1) * d) / 2 = y / 2 + 2 ^ k * d by omega, ih _ (by rw [Nat.pow_succ] at h; omega)]
    omega
theorem pw_two (n : Nat) : pw n = ((2 ^ (16 * n) : Nat) : Int) := by
  unfold pw
  rw [Nat.pow_mul, Int.natCast_pow]
  rfl

set_option maxHeartbeats 1600000 in
set_option maxRecDepth 100000 in
theorem bits_any (va : Value) (x m : Nat) (w : World) (hx : (x : Int) < pw m) (hm : m ≤ 1099511627776) (ha : IsN w va x) :
    Calls Tryz.prog 83 #[va] w fun e w' => e = .returned (.int .i64 (blen x)) ∧ ∃ q, w' = w.drewN q := by
  obtain ⟨A, n, c, us, rfl, hc, hnm, hra, hca, hva⟩ := ha.len hx
  clear ha hx
  rcases Nat.eq_zero_or_pos n with h0 | h0
  · subst h0
    have hx0 : x = 0 := by
      have h1 : us = [] := List.eq_nil_of_length_eq_zero hra.1
      subst h1
      rw [val_nil] at hva
      omega
    subst hx0
    clear hra hca hva
    go_enter Tryz.func83, Tryz.ntmps83
    go_wp2
    go_ret
    exact ⟨rfl, 0, rfl⟩
  · obtain ⟨a, oa, rfl, _, hac⟩ := hra.2 h0
    obtain ⟨i, rfl⟩ : ∃ i, n = i + 1 := ⟨n - 1, by omega⟩
    have c1 := hac i (by omega)
    have hd := hca.1.getD i
    have hne := hca.2 (by rw [hra.1]; omega)
    rw [hra.1, show i + 1 - 1 = i by omega] at hne
    obtain ⟨d, hdd⟩ : ∃ d : Nat, us.getD i 0 = (d : Int) := ⟨(us.getD i 0).toNat, by omega⟩
    have hxe : blen x = 16 * i + blen d := by
      have h1 := val_split us i (by rw [hra.1]; omega)
      rw [val_drop, List.drop_of_length_le (by rw [hra.1]; omega), val_nil, hva, hdd, pw_two] at h1
      have h2 := val_lt (hca.1.take i)
      have h3 := val_nonneg (hca.1.take i)
      rw [List.length_take, hra.1, Nat.min_eq_left (by omega), pw_two] at h2
      obtain ⟨y, hy⟩ : ∃ y : Nat, val (us.take i) = (y : Int) := ⟨(val (us.take i)).toNat, by omega⟩
      rw [hy] at h1 h2
      have e : x = y + 2 ^ (16 * i) * d := by
        have : (x : Int) = ((y + 2 ^ (16 * i) * d : Nat) : Int) := by rw [h1]; push_cast; grind
        omega
      rw [e]
      exact blen_shift d y _ (by omega) (by omega)
    rw [hdd] at c1 hd hne
    rw [hxe]
    clear hac hxe hdd hva hca hra hne
    go_enter Tryz.func83, Tryz.ntmps83
    go_wp2
    go_loop [3, 4] (fun s u => ∃ k y : Nat, k ≤ 16 ∧ y < 65536 ∧ s = .int .i64 ((16 * i + k : Nat) : Int) ∧ u = .int .u32 y ∧ k + blen y = blen d) (fun _ u => (intOf u).toNat)
    case atStart => exact ⟨0, d, by omega, by omega, by simp, rfl, by omega⟩
    case round =>
      obtain ⟨k, y, hk, hy, rfl, rfl, hb⟩ := hrel
      have HB := Lib.hid hb
      clear hb
      by_cases hy0 : 0 < y
      · have hk2 : k < 16 := by
          have h1 := HB.out
          have h2 : blen d ≤ 16 := by
            unfold blen
            split
            · omega
            · have := (Nat.log2_lt (n := d) (k := 16) (by omega)).2 (by omega)
              omega
          have h3 := blen_half y hy0
          omega
        go_wp2
        go_round
        case rel => exact ⟨k + 1, y / 2, by omega, by omega, by go_num, by go_num, by have := blen_half y hy0; have := HB.out; omega⟩
        case measure => simp [intOf]; omega
      · have hy1 : y = 0 := by omega
        subst hy1
        go_wp2
        go_ret
        exact ⟨ret_int (by have := HB.out; rw [blen_zero] at this; omega), 0, rfl⟩
end Go.Proofs.YtmhbkilidpbenaaGreatDoor
