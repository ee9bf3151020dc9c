/- Words for memory that the walks of the statements UnitsBack and UnitsTurned use: a slice that reads as a list, a block known whole, an append onto an owned row, a row of bytes turned into a string. No condition beyond each lemma's own. The contracts of what decimal runs, and of decimal. Each lemma's conditions stand in its own statement. -/
import Derived.Below
import Derived.Laws.OwnMore
import Derived.Deep.AppendLies
import Derived.Deep.Draws
import Derived.Laws.Rows
import Derived.Maps.AppendAt
import Derived.RegionTactic
import Derived.OwnWalk
import Derived.Calls
import Derived.Deep.OwnRows
import Derived.Laws.AppendOwn
import Derived.ChangeSame
import Derived.ProofKit
import Derived.Laws.BytesArg
import Derived.Lib.Hide
import Derived.Test.YtbcolebomgcphaaGreatFmtProg
import Derived.WalkKit
import Derived.WalkSpells
import Derived.WalkLawsBesides
import Derived.WalkMore
import Derived.Outline
import Derived.BigQuiet
import Derived.Deep.QuietTactic
import Derived.IntWalk
namespace Go.Proofs.YtbcolebomgcphaaGreatFmt.Dr
open Go.RowKit Go.WideShapes Go.ChangeShapes
theorem block_of_add (a : Addr) (n : Nat) : (a.add n).block = a.block := by unfold Addr.add; split <;> rfl
def Reads (w : World) (B size : Nat) (A : Option Addr) (n : Nat) (xs : List Value) : Prop :=
  xs.length = n * size ∧ (0 < n → ∃ ad, A = some ad ∧ ad.block < B ∧ ∀ j u, xs[j]? = some u → w.cell? (ad.add j) = some u)

section
variable {w w' : World} {B B' size n : Nat} {A : Option Addr} {xs : List Value}
theorem Reads.keep (h : Reads w B size A n xs) (hk : ∀ p : Addr, p.block < B → w'.cell? p = w.cell? p) : Reads w' B size A n xs :=
  ⟨h.1, fun hn => by
    obtain ⟨ad, e, hb, hc⟩ := h.2 hn
    exact ⟨ad, e, hb, fun j u hu => (hk _ (by rw [block_of_add]; exact hb)).trans (hc j u hu)⟩⟩
theorem Reads.below (h : Reads w B size A n xs) (hb : Below B w w') : Reads w' B size A n xs := h.keep fun _ hp => hb.cell hp
theorem Reads.drewN (h : Reads w B size A n xs) (k : Nat) : Reads (w.drewN k) B size A n xs := h
theorem Reads.alloc (h : Reads w B size A n xs) (hB : B ≤ w.heap.size) (o : Obj) : Reads (w.alloc o) B size A n xs := h.keep fun p hp => World.cell?_alloc_lt w o p (by omega)
theorem Reads.setCell (h : Reads w B size A n xs) {p : Addr} (hB : B ≤ p.block) (u : Value) : Reads (w.setCell p u) B size A n xs :=
  h.keep fun q hq => World.cell?_setCell_other w p q u (fun e => by subst e; omega)
theorem Reads.grown (h : Reads w B size A n xs) {row : Option Nat} (hg : w.grownBy w' row) (hB : B ≤ w.heap.size) (hr : ∀ g, row = some g → B ≤ g) : Reads w' B size A n xs :=
  h.keep fun p hp => World.cell?_of_block (hg.block p.block (by omega) (fun e => by have := hr _ e.symm; omega))
end
def Blk (w : World) (g : Nat) (t : TypeId) (cs : Array Value) : Prop := w.heap[g]? = some (.cells cs t (0, 0))

section
variable {w w' : World} {g : Nat} {t : TypeId} {cs : Array Value}
theorem Blk.lt (h : Blk w g t cs) : g < w.heap.size := by
  rcases Nat.lt_or_ge g w.heap.size with hlt | hge
  · exact hlt
  · unfold Blk at h; rw [Array.getElem?_eq_none hge] at h; cases h
theorem Blk.cell (h : Blk w g t cs) (i : Nat) : w.cell? ⟨g, i, none⟩ = cs[i]? := cell_of_row w g i cs t (0, 0) h
theorem Blk.frozen (h : Blk w g t cs) (i : Nat) : w.frozen? ⟨g, i, none⟩ = false := by
  unfold Blk at h
  simp [World.frozen?, h]
theorem Blk.new (w : World) (t : TypeId) (cs : Array Value) : Blk (w.alloc (.cells cs t)) w.heap.size t cs := heap_alloc_new w _
theorem Blk.drewN (h : Blk w g t cs) (n : Nat) : Blk (w.drewN n) g t cs := h
theorem Blk.alloc (h : Blk w g t cs) (o : Obj) : Blk (w.alloc o) g t cs := (Below.heap_alloc w o g h.lt).trans h
theorem Blk.set_ (h : Blk w g t cs) (i : Nat) (u : Value) : Blk (w.setCell ⟨g, i, none⟩ u) g t (cs.setIfInBounds i u) := by
  unfold Blk at h ⊢
  simp [World.setCell, Array.getElem?_modify, h]
theorem Blk.below {B : Nat} (h : Blk w g t cs) (hb : Below B w w') (hg : g < B) : Blk w' g t cs := (hb.block g hg).trans h
theorem Blk.grown {row : Option Nat} (h : Blk w g t cs) (hb : w.grownBy w' row) (hg : some g ≠ row) : Blk w' g t cs := (hb.block g h.lt hg).trans h
end
section
variable {P : Program} (w : World)

end
theorem below_drewN {B : Nat} {a w : World} (h : Below B a w) (n : Nat) : Below B a (w.drewN n) := ⟨h.os, h.tape, h.output, h.size, h.block⟩
theorem only_of_below {a w : World} (h : Below a.heap.size a w) (row : Option Nat) : a.grownBy w row := ⟨h.os, h.tape, h.output, h.size, fun i hi _ => h.block i hi⟩
section
variable {H : Type} {enc : TypeId × Value → H} {P : Program}
end

/-- A row of bytes that the call owns, as a string. -/
theorem conv_own {P : Program} (src dst e : TypeId) (hs : P.underlying src = some (.slice e)) (he : P.underlying e = some (.int .u8)) (hd : P.underlying dst = some .string)
    {w : World} {base : Nat} {v : Value} {n : Nat} {xs : List Int} (hown : w.ownsRow base e 1 v n (xs.map (Value.int .u8))) :
    (convert src dst v).run P w = .ok (.string (strOfNums xs)) w := by
  have hlen : xs.length = n := by have := hown.1; simpa using this
  rcases hown.2 with ⟨rfl, rfl⟩ | ⟨g, cap, cur, rfl, _, hh, hnc, hcm, hcs, htake⟩
  · have hx : xs = [] := List.eq_nil_of_length_eq_zero hlen
    subst hx
    rw [run_convert_bytes_nil w src e hs he 0 0 dst hd]
    rfl
  · refine run_convert_bytes_arg w src e hs he g 0 n cap xs hlen (fun i hi => ?_) dst hd
    have hc := hown.cells (g := g) rfl i (.int .u8 (xs.getD i 0)) (by simp [List.getElem?_eq_getElem (show i < xs.length by omega)])
    have hadd : (⟨g, 0, none⟩ : Addr).add i = ⟨g, 0 + i, none⟩ := by unfold Addr.add; split <;> simp_all
    rwa [hadd] at hc
end Go.Proofs.YtbcolebomgcphaaGreatFmt.Dr

namespace Go.Proofs.YtbcolebomgcphaaGreatFmt
open Go.RowKit Dr

theorem cell_blk {w : World} {g : Nat} {t : TypeId} {v : Value} (h : Blk w g t #[v]) : w.cell? ⟨g, 0, none⟩ = some v := cell_of_one h
theorem free_blk {w : World} {g : Nat} {t : TypeId} {v : Value} (h : Blk w g t #[v]) : w.frozen? ⟨g, 0, none⟩ = false := free_of_one h
theorem set_blk {w : World} {g : Nat} {t : TypeId} {v u : Value} (h : Blk w g t #[v]) : Blk (w.setCell ⟨g, 0, none⟩ u) g t #[u] := one_setCell h
/-- What decimal's inner function answers: how many digits stand there; its variable stands behind them. -/
def RnIs (w : World) (bi k c : Nat) (e : Ending) (w' : World) : Prop := e = .returned (.int .i64 c) ∧ Blk w' bi 3 #[.int .i64 ((k + c : Nat) : Int)] ∧ Below bi w w'
set_option maxRecDepth 100000 in
set_option maxHeartbeats 1600000 in
theorem run_any (s : ByteArray) (bi bs k c : Nat) (w : World) (hn : s.size ≤ 1000) (hbs : bs < bi) (hi : Blk w bi 3 #[.int .i64 k]) (hs : Blk w bs 9 #[.string s]) (hk : k + c ≤ s.size)
    (hd : ∀ j (h : k + j < s.size), j < c → 48 ≤ (s[k + j]'h).toNat ∧ (s[k + j]'h).toNat ≤ 57) (he : ∀ h : k + c < s.size, (s[k + c]'h).toNat < 48 ∨ 57 < (s[k + c]'h).toNat) :
    Calls Tryz.prog 41 #[.pointer (some ⟨bi, 0, none⟩), .pointer (some ⟨bs, 0, none⟩)] w (RnIs w bi k c) := by
  have c1 := cell_blk hi
  have HD := Lib.hid hd
  have HE := Lib.hid he
  clear hd he
  go_enter Tryz.func41, Tryz.ntmps41
  go_wp2
  clear c1
  go_loopw [5] (fun _ wr => ∃ j : Nat, j ≤ c ∧ Blk wr bi 3 #[.int .i64 ((k + j : Nat) : Int)] ∧ Below bi w wr) (fun _ wr => match wr.cell? ⟨bi, 0, none⟩ with | some v => k + c - (intOf v).toNat | none => 0)
  case atStart => exact ⟨0, Nat.zero_le _, hi, Below.refl _ _⟩
  case round =>
    obtain ⟨j, hj, hi, hb⟩ := hrel
    have hs2 := hs.below hb hbs
    have c1 := cell_blk hi
    have c2 := cell_blk hs2
    have f1 := free_blk hi
    have HI := Lib.hid hi
    have HB := Lib.hid hb
    clear hi hb hs2
    by_cases hjc : j < c
    · have hks : k + j < s.size := by omega
      obtain ⟨d0, d1⟩ := HD.out j hks hjc
      obtain ⟨x, hx⟩ : ∃ x, s[k + j]'hks = x := ⟨_, rfl⟩
      rw [hx] at d0 d1
      obtain ⟨z, hz⟩ : ∃ z, x.toNat = z := ⟨_, rfl⟩
      rw [hz] at d0 d1
      go_wp2
      go_roundw
      case rel => exact ⟨j + 1, by omega, by rw [show (((k + (j + 1) : Nat)) : Int) = (k : Int) + j + 1 by omega]; exact set_blk HI.out, HB.out.setCell (Nat.le_refl _) _⟩
      case measure => rw [cell_blk (set_blk HI.out), cell_blk HI.out]; simp [intOf]; omega
    · obtain rfl : j = c := by omega
      have hend : ((k : Int) + j - k) = (j : Int) := by omega
      have HR := Lib.hid (show RnIs w bi k j (.returned (.int .i64 j)) wr from ⟨rfl, HI.out, HB.out⟩)
      by_cases hks : k + j < s.size
      · have hz := HE.out hks
        obtain ⟨x, hx⟩ : ∃ x, s[k + j]'hks = x := ⟨_, rfl⟩
        rw [hx] at hz
        obtain ⟨z, hzn⟩ : ∃ z, x.toNat = z := ⟨_, rfl⟩
        rw [hzn] at hz
        rcases hz with hz | hz
        · have hz0 : decide ((48 : Int) ≤ (z : Int)) = false := decide_eq_false (by omega)
          go_wp2
          go_ret
          exact HR.out
        · go_wp2
          go_ret
          exact HR.out
      · go_wp2
        go_ret
        exact HR.out
end Go.Proofs.YtbcolebomgcphaaGreatFmt
