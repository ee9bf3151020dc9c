/- The reference's whole numbers in memory, and contracts of cut, Nat, Cmp, bits. Each lemma's conditions stand in its own statement. -/
import Derived.Test.YtmhbkilidpbenaaGreatDoorN
import Derived.Test.YtmhbkilidpbenaaGreatDoorW
import Derived.Test.YtmhbkilidpbenaaGreatDoorShelf
import Derived.Test.YtmhbkilidpbenaaGreatDoorRows
import Derived.WalkKit
import Derived.WalkSpells
import Derived.WalkLawsBesides
import Derived.Outline
import Derived.BigQuiet
import Derived.Deep.QuietTactic
import Derived.IntWalk
import Derived.Deep.RegionLaw
import Derived.BigRegion
namespace Go.Proofs.YtmhbkilidpbenaaGreatDoor
open Go.RowKit

theorem ret_bool {a b : Bool} (h : a = b) : Ending.returned (.bool a) = .returned (.bool b) := by rw [h]
theorem ret_int {k : IntKind} {a b : Int} (h : a = b) : Ending.returned (.int k a) = .returned (.int k b) := by rw [h]
theorem u32_info : (Tryz.prog.info? 59).map (fun i => (i.zero, i.size, i.bytes)) = some (some (.int .u32 0), 1, 4) := by kernel_rfl
theorem byte_info : (Tryz.prog.info? 5).map (fun i => (i.zero, i.size, i.bytes)) = some (some (.int .u8 0), 1, 1) := by kernel_rfl

/-- The slice value 'slice A n c' holds these digits, below block B. -/
def Rd (w : World) (B : Nat) (A : Option Addr) (n : Nat) (us : List Int) : Prop :=
  us.length = n ∧ (0 < n → ∃ b off, A = some ⟨b, off, none⟩ ∧ b < B ∧ ∀ k, k < n → w.cell? ⟨b, off + k, none⟩ = some (.int .u32 (us.getD k 0)))
theorem Rd.below {w w' : World} {B : Nat} {A : Option Addr} {n : Nat} {us : List Int} (h : Rd w B A n us) (hb : Below B w w') : Rd w' B A n us :=
  ⟨h.1, fun h0 => by
    obtain ⟨b, off, e, hlt, hc⟩ := h.2 h0
    exact ⟨b, off, e, hlt, fun k hk => by rw [hb.cell (p := ⟨b, off + k, none⟩) hlt]; exact hc k hk⟩⟩
theorem Rd.more {w : World} {B B' : Nat} {A : Option Addr} {n : Nat} {us : List Int} (h : Rd w B A n us) (hB : B ≤ B') : Rd w B' A n us :=
  ⟨h.1, fun h0 => by
    obtain ⟨b, off, e, hlt, hc⟩ := h.2 h0
    exact ⟨b, off, e, by omega, hc⟩⟩
theorem getD_take {us : List Int} {i k : Nat} (h : i < k) : (us.take k).getD i 0 = us.getD i 0 := by
  simp [List.getD, h]
theorem Rd.take {w : World} {B : Nat} {A : Option Addr} {n k : Nat} {us : List Int} (h : Rd w B A n us) (hk : k ≤ n) : Rd w B A k (us.take k) :=
  ⟨by rw [List.length_take, h.1]; omega, fun h0 => by
    obtain ⟨b, off, e, hlt, hc⟩ := h.2 (by omega)
    exact ⟨b, off, e, hlt, fun i hi => by rw [getD_take hi]; exact hc i (by omega)⟩⟩
theorem own_rd {w : World} {B : Nat} {e : TypeId} {v : Value} {n : Nat} {us : List Int} (h : w.ownsRow B e 1 v n (us.map (Value.int .u32))) :
    ∃ A c, v = .slice A n c ∧ n ≤ c ∧ Rd w w.heap.size A n us := by
  have hl : us.length = n := by have := h.1; simpa using this
  rcases h.2 with ⟨rfl, rfl⟩ | ⟨g, cap, cur, rfl, _, hh, hnc, _⟩
  · exact ⟨none, 0, rfl, Nat.le_refl _, hl, fun h0 => absurd h0 (by omega)⟩
  · refine ⟨_, _, rfl, hnc, hl, fun _ => ⟨g, 0, rfl, (Array.getElem?_eq_some_iff.1 hh).1, fun k hk => ?_⟩⟩
    have hc := h.cells (g := g) rfl k (.int .u32 (us.getD k 0)) (by simp [List.getElem?_eq_getElem (show k < us.length by omega)])
    have hadd : (⟨g, 0, none⟩ : Addr).add k = ⟨g, 0 + k, none⟩ := by unfold Addr.add; split <;> simp_all
    rwa [hadd] at hc

/-- The value v is the whole number x. -/
def IsN (w : World) (v : Value) (x : Nat) : Prop :=
  ∃ A n c us, v = .slice A n c ∧ n ≤ c ∧ Rd w w.heap.size A n us ∧ Canon us ∧ val us = (x : Int)
theorem IsN.below {w w' : World} {v : Value} {x : Nat} (h : IsN w v x) (hb : Below w.heap.size w w') : IsN w' v x := by
  obtain ⟨A, n, c, us, rfl, hc, hr, hn, hv⟩ := h
  exact ⟨A, n, c, us, rfl, hc, (hr.below hb).more hb.size, hn, hv⟩
theorem IsN.zero (w : World) (c : Nat) (A : Option Addr) : IsN w (.slice A 0 c) 0 := ⟨A, 0, c, [], rfl, Nat.zero_le _, ⟨rfl, fun h => absurd h (by omega)⟩, Canon.nil, rfl⟩

set_option maxHeartbeats 1600000 in
theorem cut_at (A : Option Addr) (n c : Nat) (us : List Int) (w : World) (ha : Rd w w.heap.size A n us) (hd : Dig us) (hc : n ≤ c) (hn : n ≤ 4611686018427387904) (x : Nat) (hx : val us = (x : Int)) :
    Calls Tryz.prog 57 #[.slice A n c] w fun e w' => ∃ v, e = .returned v ∧ IsN w v x ∧ w = w' ∧ ∃ k, v = .slice A k c := by
  have HA := Lib.hid ha
  have HD := Lib.hid hd
  have HX := Lib.hid hx
  clear ha hd hx
  go_enter Tryz.func57, Tryz.ntmps57
  go_wp2
  go_loop [3] (fun i => ∃ k : Nat, k ≤ n ∧ i = .int .i64 k ∧ val (us.drop k) = 0) (fun i => (intOf i).toNat)
  case atStart => exact ⟨n, Nat.le_refl _, rfl, by rw [List.drop_of_length_le (by have := HA.out.1; omega)]; rfl⟩
  case round =>
    obtain ⟨k, hk, rfl, hz⟩ := hrel
    have HZ := Lib.hid hz
    clear hz
    by_cases h0 : 0 < k
    · obtain ⟨b, off, rfl, hb, hcell⟩ := HA.out.2 (by omega)
      obtain ⟨j, rfl⟩ : ∃ j, k = j + 1 := ⟨k - 1, by omega⟩
      have c1 := hcell j (by omega)
      have e1 : (((j + 1 : Nat) : Int) - 1) = (j : Int) := by omega
      obtain ⟨u, hu⟩ : ∃ u, us.getD j 0 = u := ⟨_, rfl⟩
      rw [hu] at c1
      have HU := Lib.hid hu
      clear hcell hu
      by_cases hu0 : u = 0
      · subst hu0
        go_wp2
        go_round
        case rel => exact ⟨j, by omega, by go_num, by rw [val_drop, HU.out, HZ.out]; rfl⟩
        case measure => simp [intOf]
      · go_wp2
        go_ret
        refine ⟨_, rfl, ⟨_, j + 1, c, us.take (j + 1), rfl, by omega, HA.out.take (by omega), ⟨HD.out.take _, fun _ => ?_⟩, ?_⟩, rfl, _, rfl⟩
        · rw [List.length_take, HA.out.1, Nat.min_eq_left (by omega), show j + 1 - 1 = j by omega, getD_take (by omega), HU.out]
          exact hu0
        · rw [val_take_of_zeros (by rw [HA.out.1]; omega) HZ.out, HX.out]
    · have hk0 : k = 0 := by omega
      subst hk0
      go_wp2
      go_ret
      have hx0 : x = 0 := by
        have h1 := HX.out
        have h2 := HZ.out
        rw [List.drop_zero] at h2
        omega
      subst hx0
      exact ⟨_, rfl, IsN.zero _ _ _, rfl, _, rfl⟩
theorem cut_any (A : Option Addr) (n c : Nat) (us : List Int) (w : World) (ha : Rd w w.heap.size A n us) (hd : Dig us) (hc : n ≤ c) (hn : n ≤ 4611686018427387904) (x : Nat) (hx : val us = (x : Int)) :
    Calls Tryz.prog 57 #[.slice A n c] w fun e w' => ∃ v, e = .returned v ∧ IsN w v x ∧ w = w' :=
  (cut_at A n c us w ha hd hc hn x hx).mono (by rintro e w' ⟨v, h1, h2, h3, _⟩; exact ⟨v, h1, h2, h3⟩)

theorem reads_new (w : World) (u : Value) (e : TypeId) : Reads (w.alloc (.cells #[u] e)) (w.heap.size + 1) 1 (some ⟨w.heap.size, 0, none⟩) 1 [u] := by
  refine ⟨rfl, fun _ => ⟨_, rfl, by show w.heap.size < w.heap.size + 1; omega, fun j v hj => ?_⟩⟩
  match j, hj with
  | 0, hj => simp at hj; subst hj; simp [Addr.add]
  | j + 1, hj => simp at hj
theorem below_step {w wr w2 : World} {e : TypeId} {v : Value} {n : Nat} {xs : List Value} (hown : wr.ownsRow w.heap.size e 1 v n xs) (hbl : Below w.heap.size w wr) {o : Obj}
    (hgrow : (wr.alloc o).grownBy w2 v.ownBlock) : Below w.heap.size w w2 := by
  refine ⟨hgrow.os.trans hbl.os, hgrow.tape.trans hbl.tape, hgrow.output.trans hbl.output, ?_, fun i hi => ?_⟩
  · have h1 := hbl.size
    have h2 := hgrow.size
    rw [World.size_alloc] at h2
    omega
  · have h1 := hbl.size
    have h2 := hgrow.block i (by rw [World.size_alloc]; omega) (fun h => by
      have := hown.lt i h.symm
      omega)
    rw [h2, Below.heap_alloc wr o i (by omega)]
    exact hbl.block i hi


/-- One digit more, behind an owned row. -/
theorem append_one_g {P : Program} {ops : Array Oper} {rest : List Oper} {o : Oper} {a : Act} {Q : Exit → Act → World → Prop} (s x : Operand) (t e : TypeId) (k : IntKind) (z : Int) (bytes : Nat) (i0 : TypeInfo)
    (ht : P.underlying t = some (.slice e)) (hi0 : P.info? e = some i0) (hz0 : i0.zero = some (.int k z)) (hz1 : i0.size = 1) (hz2 : i0.bytes = bytes) (hb4 : bytes ≤ 8)
    (hgd : o.guard = none) (ho : o.op = .call { callee := .builtin .append, args := #[s, x], argTypes := #[t, t] })
    {w : World} (wr : World) (v : Value) (m c : Nat) (us : List Int) (u : Int) (hs : a.eval s = v) (hx : a.eval x = .slice (some ⟨wr.heap.size, 0, none⟩) 1 c)
    (hown : wr.ownsRow w.heap.size e 1 v m (us.map (Value.int k))) (hbl : Below w.heap.size w wr) (hm : m ≤ 4398046511104)
    (h : ∀ v' w2, w2.ownsRow w.heap.size e 1 v' (m + 1) ((us ++ [u]).map (Value.int k)) → Below w.heap.size w w2 → (wr.alloc (.cells #[.int k u] e)).grownBy w2 v.ownBlock → wpList P ops Q rest (a.put o.dst v') w2) :
    wpList P ops Q (o :: rest) a (wr.alloc (.cells #[.int k u] e)) := by
  have hbs := hbl.size
  refine wpList_append_any _ hgd s x t ho w.heap.size e i0 (.int k z) 1 bytes ht hi0 hz0 hz1 hz2 rfl (by decide) v m _ hs (hown.alloc _) _ _ 1 c [.int k u] hx (reads_new wr _ e) ?_ ?_ ?_ ?_ ?_
  · intro q hq; simp at hq; subst hq; rfl
  · unfold maxLen; omega
  · have : (m + 1) * bytes ≤ (m + 1) * 8 := Nat.mul_le_mul_left _ hb4
    omega
  · rw [World.size_alloc]; omega
  · intro v' w2 hown1 hgrow _
    refine h v' w2 ?_ (below_step hown hbl hgrow) hgrow
    rw [List.map_append]
    exact hown1

theorem append_one {P : Program} {ops : Array Oper} {rest : List Oper} {o : Oper} {a : Act} {Q : Exit → Act → World → Prop} (s x : Operand) (t e : TypeId) (k : IntKind) (z : Int) (bytes : Nat) (i0 : TypeInfo)
    (ht : P.underlying t = some (.slice e)) (hi0 : P.info? e = some i0) (hz0 : i0.zero = some (.int k z)) (hz1 : i0.size = 1) (hz2 : i0.bytes = bytes) (hb4 : bytes ≤ 8)
    (hgd : o.guard = none) (ho : o.op = .call { callee := .builtin .append, args := #[s, x], argTypes := #[t, t] })
    {w : World} (wr : World) (v : Value) (m c : Nat) (us : List Int) (u : Int) (hs : a.eval s = v) (hx : a.eval x = .slice (some ⟨wr.heap.size, 0, none⟩) 1 c)
    (hown : wr.ownsRow w.heap.size e 1 v m (us.map (Value.int k))) (hbl : Below w.heap.size w wr) (hm : m ≤ 4398046511104)
    (h : ∀ v' w2, w2.ownsRow w.heap.size e 1 v' (m + 1) ((us ++ [u]).map (Value.int k)) → Below w.heap.size w w2 → wpList P ops Q rest (a.put o.dst v') w2) :
    wpList P ops Q (o :: rest) a (wr.alloc (.cells #[.int k u] e)) :=
  append_one_g s x t e k z bytes i0 ht hi0 hz0 hz1 hz2 hb4 hgd ho wr v m c us u hs hx hown hbl hm fun v' w2 h1 h2 _ => h v' w2 h1 h2

theorem IsN.grown {w w' : World} {v : Value} {x : Nat} {row : Option Nat} (h : IsN w v x) (hg : w.grownBy w' row) (hr : ∀ g, v.ownBlock = some g → some g ≠ row) : IsN w' v x := by
  obtain ⟨A, n, c, us, rfl, hc, hr', hn, hv⟩ := h
  refine ⟨A, n, c, us, rfl, hc, ⟨hr'.1, fun h0 => ?_⟩, hn, hv⟩
  obtain ⟨b, off, rfl, hlt, hcell⟩ := hr'.2 h0
  exact ⟨b, off, rfl, Nat.lt_of_lt_of_le hlt hg.size, fun k hk => hg.cell (hcell k hk) (hr b rfl)⟩
theorem IsN.alloc {w : World} {v : Value} {x : Nat} (h : IsN w v x) (o : Obj) : IsN (w.alloc o) v x := h.below ((Below.refl _ _).alloc (Nat.le_refl _) _)
theorem IsN.mk {wr : World} {v : Value} {m x : Nat} {us : List Int} {B : Nat} (hown : wr.ownsRow B 59 1 v m (us.map (Value.int .u32))) (hc : Canon us) (hv : val us = (x : Int)) : IsN wr v x := by
  obtain ⟨A, c, rfl, hnc, hr⟩ := own_rd hown
  exact ⟨A, m, c, us, rfl, hnc, hr, hc, hv⟩
theorem canon_snoc {us : List Int} {d : Int} (h : Dig us) (h0 : 0 ≤ d) (h1 : d < 65536) (hd : d ≠ 0) : Canon (us ++ [d]) :=
  ⟨h.snoc h0 h1, fun _ => by simpa using hd⟩

set_option maxHeartbeats 1600000 in
set_option maxRecDepth 100000 in
theorem nat_any (x : Nat) (w : World) (hx : x < 18446744073709551616) :
    Calls Tryz.prog 14 #[.int .u64 x] w fun e w' => ∃ v, e = .returned v ∧ IsN w' v x ∧ Below w.heap.size w w' := by
  obtain ⟨i0, hi0, hz0, hz1, hz2⟩ := info_parts u32_info
  go_enter Tryz.func14, Tryz.ntmps14
  go_wp2
  go_loopw [0, 3] (fun i v wr => ∃ (y m : Nat) (us : List Int), i = .int .u64 y ∧ y ≤ x ∧ m = us.length ∧ wr.ownsRow w.heap.size 59 1 v m (us.map (Value.int .u32)) ∧ Below w.heap.size w wr ∧ Dig us ∧ val us + pw m * y = x ∧ (Canon us ∨ 0 < y) ∧ m ≤ 4 ∧ (y : Int) < pw (4 - m)) (fun i _ _ => (intOf i).toNat)
  case atStart => exact ⟨x, 0, [], rfl, Nat.le_refl _, rfl, World.ownsRow_nil _ _ _ _, Below.refl _ _, Dig.nil, by rw [val_nil, pw_zero]; omega, .inl Canon.nil, by omega, by show (x : Int) < 18446744073709551616; omega⟩
  case round =>
    obtain ⟨y, m, us, rfl, hy, hm, hown, hbl, hd, hv, hl, hm4, hyp⟩ := hrel
    have HM := Lib.hid hm
    have HD := Lib.hid hd
    have HV := Lib.hid hv
    have HL := Lib.hid hl
    clear hm hd hv hl
    have hbs := hbl.size
    by_cases h0 : 0 < y
    · have hm3 : m < 4 := by
        rcases Nat.lt_or_ge m 4 with h | h
        · exact h
        · have e : 4 - m = 0 := by omega
          rw [e, pw_zero] at hyp
          omega
      have hyp2 : ((y / 65536 : Nat) : Int) < pw (4 - (m + 1)) := by
        have e : 4 - m = (4 - (m + 1)) + 1 := by omega
        rw [e, pw_succ] at hyp
        omega
      clear hyp
      go_wp2_with (at_builtin; refine append_one (.tmp 6) (.tmp 10) 36 59 .u32 0 4 i0 Tryz.underlying36 hi0 hz0 hz1 hz2 (by decide) rfl rfl wr _ m _ us ((y : Int) % 65536) rfl rfl hown hbl ?c1 ?_)
      case c1 => omega
      intro v' w2 hown1 hbl2
      go_wp2
      go_roundw
      case rel => exact ⟨y / 65536, m + 1, us ++ [(y : Int) % 65536], by go_num, by omega, by rw [HM.out]; simp, by rw [List.map_append]; exact hown1, hbl2, HD.out.snoc (by omega) (by omega), by
        rw [val_snoc, ← HM.out, pw_succ, ← HV.out]
        have := Int.emod_add_mul_ediv (y : Int) 65536
        rw [Int.natCast_ediv]
        grind, by
        by_cases hq : 0 < y / 65536
        · exact .inr hq
        · exact .inl (canon_snoc HD.out (by omega) (by omega) (by omega)), by omega, hyp2⟩
      case measure => simp [intOf]; omega
    · have hy0 : y = 0 := by omega
      subst hy0
      go_wp2
      go_ret
      exact ⟨_, rfl, IsN.mk hown (HL.out.resolve_right (by omega)) (by have := HV.out; simpa using this), hbl⟩
end Go.Proofs.YtmhbkilidpbenaaGreatDoor
