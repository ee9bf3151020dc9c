/- The contract of decimal. Each lemma's conditions stand in its own statement. -/
import Derived.Test.YtbcolebomgcphaaGreatFmtTa
namespace Go.Proofs.YtbcolebomgcphaaGreatFmt
open Go.RowKit Dr

def ByteAt (s : ByteArray) (k c : Nat) : Prop := ∃ h : k < s.size, (s[k]'h).toNat = c
def DgtAt (s : ByteArray) (k : Nat) : Prop := ∃ h : k < s.size, 48 ≤ (s[k]'h).toNat ∧ (s[k]'h).toNat ≤ 57
theorem byte_end {s : ByteArray} {k c : Nat} (h : ByteAt s k c) (hc : c < 48 ∨ 57 < c) : ∀ g : k < s.size, (s[k]'g).toNat < 48 ∨ 57 < (s[k]'g).toNat := by
  intro g
  obtain ⟨_, e⟩ := h
  omega
theorem text_end {s : ByteArray} : ∀ g : s.size < s.size, (s[s.size]'g).toNat < 48 ∨ 57 < (s[s.size]'g).toNat := fun g => absurd g (Nat.lt_irrefl _)
def DcIs (w : World) (n : Nat) (e : Ending) (w' : World) : Prop := e = .returned (.int .i64 n) ∧ Below w.heap.size w w'
theorem or101 : bits .or .u8 101 32 = 101 := by decide
/-- decimal's two variables in memory. -/
structure DcSt (w wr : World) (s : ByteArray) (i : Int) : Prop where
  hi : Blk wr (w.heap.size + 1) 3 #[.int .i64 i]
  hs : Blk wr w.heap.size 9 #[.string s]
  hb : Below w.heap.size w wr
theorem DcSt.start (w : World) (s : ByteArray) : DcSt w ((w.alloc (Obj.cells #[Value.string s] 9)).alloc (Obj.cells #[Value.int IntKind.i64 0] 3)) s ((0 : Nat) : Int) := by
  refine ⟨?_, (Blk.new w 9 #[.string s]).alloc _, ((Below.refl _ _).alloc (Nat.le_refl _) _).alloc (by simp) _⟩
  have := Blk.new (w.alloc (Obj.cells #[Value.string s] 9)) 3 #[Value.int IntKind.i64 0]
  rwa [show (w.alloc (Obj.cells #[Value.string s] 9)).heap.size = w.heap.size + 1 by simp] at this
theorem DcSt.put {w wr : World} {s : ByteArray} {i : Int} (h : DcSt w wr s i) (v : Int) : DcSt w (wr.setCell ⟨w.heap.size + 1, 0, none⟩ (.int .i64 v)) s v :=
  ⟨set_blk h.hi, h.hs.below ((Below.refl (w.heap.size + 1) wr).setCell (p := ⟨w.heap.size + 1, 0, none⟩) (Nat.le_refl _) _) (Nat.lt_succ_self _), h.hb.setCell (p := ⟨w.heap.size + 1, 0, none⟩) (by simp) _⟩
def DrIs (w : World) (s : ByteArray) (m c : Nat) (e : Ending) (w' : World) : Prop := e = .returned (.int .i64 c) ∧ DcSt w w' s m
theorem DcSt.call {w wr : World} {s : ByteArray} {i : Int} (h : DcSt w wr s i) (k m c : Nat) (hn : s.size ≤ 1000) (hi : i = k) (hm : m ≤ s.size) (hk : k + c = m) (hd : ∀ j, k ≤ j → j < m → DgtAt s j) (he : ∀ g : m < s.size, (s[m]'g).toNat < 48 ∨ 57 < (s[m]'g).toNat) :
    Calls Tryz.prog 41 #[.pointer (some ⟨w.heap.size + 1, 0, none⟩), .pointer (some ⟨w.heap.size, 0, none⟩)] wr (DrIs w s m c) := by
  subst hi
  subst hk
  refine (run_any s (w.heap.size + 1) w.heap.size k c wr hn (Nat.lt_succ_self _) h.hi h.hs hm (fun j hj hc => by obtain ⟨_, g⟩ := hd (k + j) (by omega) (by omega); exact g) he).mono ?_
  rintro e w' ⟨rfl, hi, hb⟩
  exact ⟨rfl, hi, h.hs.below hb (Nat.lt_succ_self _), h.hb.trans (hb.mono (by simp))⟩
theorem pos_eq {c : Nat} (h : 1 ≤ c) : ((c : Int) == 0) = false := beq_false_of_ne (by omega)
set_option maxRecDepth 100000 in
set_option maxHeartbeats 3200000 in
theorem decimal_00 (s : ByteArray) (a  : Nat) (w : World) (hn : s.size ≤ 1000) (ha : 1 ≤ a) (hA : ∀ j, 0 ≤ j → j < a → DgtAt s j) (hap : a = s.size) :
    Calls Tryz.prog 19 #[.string s] w (DcIs w s.size) := by
  have hmf : ∀ (fn : Fn) (first cap : Array Value) (w : World), (Instr.makeFunc fn first cap).run Tryz.prog w = .ok (.func fn first cap) w := fun _ _ _ _ => rfl
  subst hap
  have cr0 := (DcSt.start w s).call 0 s.size s.size hn rfl (by omega) (by omega) hA text_end
  have S0 := Lib.hid (DcSt.start w s)
  clear hA
  go_enter Tryz.func19, Tryz.ntmps19
  go_wp2_with fail
  refine cr0.mono ?_
  rintro e w1 ⟨rfl, hst⟩
  clear cr0
  have S1 := Lib.hid hst
  have i1 := cell_blk hst.hi
  have s1 := cell_blk hst.hs
  have f1 := free_blk hst.hi
  clear hst
  go_wp2
  go_ret
  exact ⟨rfl, S1.out.hb⟩
set_option maxRecDepth 100000 in
set_option maxHeartbeats 3200000 in
theorem decimal_01 (s : ByteArray) (a p q : Nat) (w : World) (hn : s.size ≤ 1000) (ha : 1 ≤ a) (hA : ∀ j, 0 ≤ j → j < a → DgtAt s j) (hap : a = p) (he : ByteAt s p 101) (hq : q = p + 1) (hqn : q < s.size) (hG : ∀ j, q ≤ j → j < s.size → DgtAt s j) :
    Calls Tryz.prog 19 #[.string s] w (DcIs w s.size) := by
  have hmf : ∀ (fn : Fn) (first cap : Array Value) (w : World), (Instr.makeFunc fn first cap).run Tryz.prog w = .ok (.func fn first cap) w := fun _ _ _ _ => rfl
  subst hap
  have cr0 := (DcSt.start w s).call 0 a a hn rfl (by obtain ⟨h, _⟩ := he; omega) (by omega) hA (byte_end he (.inr (by decide)))
  have q2 : ∀ W, DcSt w W s ((a : Int) + 1) → Calls Tryz.prog 41 #[.pointer (some ⟨w.heap.size + 1, 0, none⟩), .pointer (some ⟨w.heap.size, 0, none⟩)] W (DrIs w s s.size (s.size - q)) := fun W h => h.call q s.size _ hn (by omega) (by omega) (by omega) hG text_end
  have Q2 := Lib.hid q2
  have z2 := pos_eq (c := s.size - q) (by omega)
  obtain ⟨x2h, x2e⟩ := he
  obtain ⟨x2, x2x⟩ : ∃ x, s[a]'x2h = x := ⟨_, rfl⟩
  rw [x2x] at x2e
  obtain ⟨x3h, x3l, x3g⟩ := hG (a + 1) (by omega) (by omega)
  obtain ⟨x3, x3x⟩ : ∃ x, s[a + 1]'x3h = x := ⟨_, rfl⟩
  rw [x3x] at x3l x3g
  obtain ⟨c3, c3e⟩ : ∃ c, x3.toNat = c := ⟨_, rfl⟩
  rw [c3e] at x3l x3g
  have t1 : ((c3 : Int) == 43) = false := beq_false_of_ne (by omega)
  have t2 : ((c3 : Int) == 45) = false := beq_false_of_ne (by omega)
  have o1 := or101
  have S0 := Lib.hid (DcSt.start w s)
  clear hA hG q2 hq
  go_enter Tryz.func19, Tryz.ntmps19
  go_wp2_with fail
  refine cr0.mono ?_
  rintro e w1 ⟨rfl, hst⟩
  clear cr0
  have S1 := Lib.hid hst
  have i1 := cell_blk hst.hi
  have s1 := cell_blk hst.hs
  have f1 := free_blk hst.hi
  clear hst
  have cr2 := Q2.out _ (S1.out.put ((a : Int) + 1))
  go_wp2_with fail
  refine cr2.mono ?_
  rintro e w3 ⟨rfl, hst⟩
  clear cr2 i1 s1 f1
  have S3 := Lib.hid hst
  have i3 := cell_blk hst.hi
  have s3 := cell_blk hst.hs
  have f3 := free_blk hst.hi
  clear hst
  go_wp2
  go_ret
  exact ⟨rfl, S3.out.hb⟩
set_option maxRecDepth 100000 in
set_option maxHeartbeats 3200000 in
theorem decimal_02 (s : ByteArray) (a p q : Nat) (w : World) (hn : s.size ≤ 1000) (ha : 1 ≤ a) (hA : ∀ j, 0 ≤ j → j < a → DgtAt s j) (hap : a = p) (he : ByteAt s p 101) (hg : ByteAt s (p + 1) 43) (hq : q = p + 2) (hqn : q < s.size) (hG : ∀ j, q ≤ j → j < s.size → DgtAt s j) :
    Calls Tryz.prog 19 #[.string s] w (DcIs w s.size) := by
  have hmf : ∀ (fn : Fn) (first cap : Array Value) (w : World), (Instr.makeFunc fn first cap).run Tryz.prog w = .ok (.func fn first cap) w := fun _ _ _ _ => rfl
  subst hap
  have cr0 := (DcSt.start w s).call 0 a a hn rfl (by obtain ⟨h, _⟩ := he; omega) (by omega) hA (byte_end he (.inr (by decide)))
  have q2 : ∀ W, DcSt w W s ((a : Int) + 1 + 1) → Calls Tryz.prog 41 #[.pointer (some ⟨w.heap.size + 1, 0, none⟩), .pointer (some ⟨w.heap.size, 0, none⟩)] W (DrIs w s s.size (s.size - q)) := fun W h => h.call q s.size _ hn (by omega) (by omega) (by omega) hG text_end
  have Q2 := Lib.hid q2
  have z2 := pos_eq (c := s.size - q) (by omega)
  obtain ⟨x2h, x2e⟩ := he
  obtain ⟨x2, x2x⟩ : ∃ x, s[a]'x2h = x := ⟨_, rfl⟩
  rw [x2x] at x2e
  obtain ⟨x3h, x3e⟩ := hg
  obtain ⟨x3, x3x⟩ : ∃ x, s[a + 1]'x3h = x := ⟨_, rfl⟩
  rw [x3x] at x3e
  have o1 := or101
  have S0 := Lib.hid (DcSt.start w s)
  clear hA hG q2 hq
  go_enter Tryz.func19, Tryz.ntmps19
  go_wp2_with fail
  refine cr0.mono ?_
  rintro e w1 ⟨rfl, hst⟩
  clear cr0
  have S1 := Lib.hid hst
  have i1 := cell_blk hst.hi
  have s1 := cell_blk hst.hs
  have f1 := free_blk hst.hi
  clear hst
  have cr2 := Q2.out _ ((S1.out.put ((a : Int) + 1)).put ((a : Int) + 1 + 1))
  go_wp2_with fail
  refine cr2.mono ?_
  rintro e w3 ⟨rfl, hst⟩
  clear cr2 i1 s1 f1
  have S3 := Lib.hid hst
  have i3 := cell_blk hst.hi
  have s3 := cell_blk hst.hs
  have f3 := free_blk hst.hi
  clear hst
  go_wp2
  go_ret
  exact ⟨rfl, S3.out.hb⟩
set_option maxRecDepth 100000 in
set_option maxHeartbeats 3200000 in
theorem decimal_03 (s : ByteArray) (a p q : Nat) (w : World) (hn : s.size ≤ 1000) (ha : 1 ≤ a) (hA : ∀ j, 0 ≤ j → j < a → DgtAt s j) (hap : a = p) (he : ByteAt s p 101) (hg : ByteAt s (p + 1) 45) (hq : q = p + 2) (hqn : q < s.size) (hG : ∀ j, q ≤ j → j < s.size → DgtAt s j) :
    Calls Tryz.prog 19 #[.string s] w (DcIs w s.size) := by
  have hmf : ∀ (fn : Fn) (first cap : Array Value) (w : World), (Instr.makeFunc fn first cap).run Tryz.prog w = .ok (.func fn first cap) w := fun _ _ _ _ => rfl
  subst hap
  have cr0 := (DcSt.start w s).call 0 a a hn rfl (by obtain ⟨h, _⟩ := he; omega) (by omega) hA (byte_end he (.inr (by decide)))
  have q2 : ∀ W, DcSt w W s ((a : Int) + 1 + 1) → Calls Tryz.prog 41 #[.pointer (some ⟨w.heap.size + 1, 0, none⟩), .pointer (some ⟨w.heap.size, 0, none⟩)] W (DrIs w s s.size (s.size - q)) := fun W h => h.call q s.size _ hn (by omega) (by omega) (by omega) hG text_end
  have Q2 := Lib.hid q2
  have z2 := pos_eq (c := s.size - q) (by omega)
  obtain ⟨x2h, x2e⟩ := he
  obtain ⟨x2, x2x⟩ : ∃ x, s[a]'x2h = x := ⟨_, rfl⟩
  rw [x2x] at x2e
  obtain ⟨x3h, x3e⟩ := hg
  obtain ⟨x3, x3x⟩ : ∃ x, s[a + 1]'x3h = x := ⟨_, rfl⟩
  rw [x3x] at x3e
  have o1 := or101
  have S0 := Lib.hid (DcSt.start w s)
  clear hA hG q2 hq
  go_enter Tryz.func19, Tryz.ntmps19
  go_wp2_with fail
  refine cr0.mono ?_
  rintro e w1 ⟨rfl, hst⟩
  clear cr0
  have S1 := Lib.hid hst
  have i1 := cell_blk hst.hi
  have s1 := cell_blk hst.hs
  have f1 := free_blk hst.hi
  clear hst
  have cr2 := Q2.out _ ((S1.out.put ((a : Int) + 1)).put ((a : Int) + 1 + 1))
  go_wp2_with fail
  refine cr2.mono ?_
  rintro e w3 ⟨rfl, hst⟩
  clear cr2 i1 s1 f1
  have S3 := Lib.hid hst
  have i3 := cell_blk hst.hi
  have s3 := cell_blk hst.hs
  have f3 := free_blk hst.hi
  clear hst
  go_wp2
  go_ret
  exact ⟨rfl, S3.out.hb⟩
set_option maxRecDepth 100000 in
set_option maxHeartbeats 3200000 in
theorem decimal_10 (s : ByteArray) (a  : Nat) (w : World) (hn : s.size ≤ 1000) (ha : 1 ≤ a) (hA : ∀ j, 0 ≤ j → j < a → DgtAt s j) (hd : ByteAt s a 46) (hap : a + 1 ≤ s.size) (hB : ∀ j, a + 1 ≤ j → j < s.size → DgtAt s j) :
    Calls Tryz.prog 19 #[.string s] w (DcIs w s.size) := by
  have hmf : ∀ (fn : Fn) (first cap : Array Value) (w : World), (Instr.makeFunc fn first cap).run Tryz.prog w = .ok (.func fn first cap) w := fun _ _ _ _ => rfl
  have cr0 := (DcSt.start w s).call 0 a a hn rfl (by obtain ⟨h, _⟩ := hd; omega) (by omega) hA (byte_end hd (.inl (by decide)))
  have q1 : ∀ W, DcSt w W s ((a : Int) + 1) → Calls Tryz.prog 41 #[.pointer (some ⟨w.heap.size + 1, 0, none⟩), .pointer (some ⟨w.heap.size, 0, none⟩)] W (DrIs w s s.size (s.size - (a + 1))) := fun W h => h.call (a + 1) s.size _ hn rfl (by omega) (by omega) hB text_end
  have Q1 := Lib.hid q1
  obtain ⟨x1h, x1e⟩ := hd
  obtain ⟨x1, x1x⟩ : ∃ x, s[a]'x1h = x := ⟨_, rfl⟩
  rw [x1x] at x1e
  have hpn : s.size ≤ s.size := Nat.le_refl _
  have S0 := Lib.hid (DcSt.start w s)
  clear hA hB q1
  go_enter Tryz.func19, Tryz.ntmps19
  go_wp2_with fail
  refine cr0.mono ?_
  rintro e w1 ⟨rfl, hst⟩
  clear cr0
  have S1 := Lib.hid hst
  have i1 := cell_blk hst.hi
  have s1 := cell_blk hst.hs
  have f1 := free_blk hst.hi
  clear hst
  have cr1 := Q1.out _ (S1.out.put ((a : Int) + 1))
  go_wp2_with fail
  refine cr1.mono ?_
  rintro e w2 ⟨rfl, hst⟩
  clear cr1 i1 s1 f1
  have S2 := Lib.hid hst
  have i2 := cell_blk hst.hi
  have s2 := cell_blk hst.hs
  have f2 := free_blk hst.hi
  clear hst
  go_wp2
  go_ret
  exact ⟨rfl, S2.out.hb⟩
set_option maxRecDepth 100000 in
set_option maxHeartbeats 3200000 in
theorem decimal_11 (s : ByteArray) (a p q : Nat) (w : World) (hn : s.size ≤ 1000) (ha : 1 ≤ a) (hA : ∀ j, 0 ≤ j → j < a → DgtAt s j) (hd : ByteAt s a 46) (hap : a + 1 ≤ p) (hB : ∀ j, a + 1 ≤ j → j < p → DgtAt s j) (he : ByteAt s p 101) (hq : q = p + 1) (hqn : q < s.size) (hG : ∀ j, q ≤ j → j < s.size → DgtAt s j) :
    Calls Tryz.prog 19 #[.string s] w (DcIs w s.size) := by
  have hmf : ∀ (fn : Fn) (first cap : Array Value) (w : World), (Instr.makeFunc fn first cap).run Tryz.prog w = .ok (.func fn first cap) w := fun _ _ _ _ => rfl
  have cr0 := (DcSt.start w s).call 0 a a hn rfl (by obtain ⟨h, _⟩ := hd; omega) (by omega) hA (byte_end hd (.inl (by decide)))
  have q1 : ∀ W, DcSt w W s ((a : Int) + 1) → Calls Tryz.prog 41 #[.pointer (some ⟨w.heap.size + 1, 0, none⟩), .pointer (some ⟨w.heap.size, 0, none⟩)] W (DrIs w s p (p - (a + 1))) := fun W h => h.call (a + 1) p _ hn rfl (by obtain ⟨h, _⟩ := he; omega) (by omega) hB (byte_end he (.inr (by decide)))
  have Q1 := Lib.hid q1
  have q2 : ∀ W, DcSt w W s ((p : Int) + 1) → Calls Tryz.prog 41 #[.pointer (some ⟨w.heap.size + 1, 0, none⟩), .pointer (some ⟨w.heap.size, 0, none⟩)] W (DrIs w s s.size (s.size - q)) := fun W h => h.call q s.size _ hn (by omega) (by omega) (by omega) hG text_end
  have Q2 := Lib.hid q2
  have z2 := pos_eq (c := s.size - q) (by omega)
  obtain ⟨x1h, x1e⟩ := hd
  obtain ⟨x1, x1x⟩ : ∃ x, s[a]'x1h = x := ⟨_, rfl⟩
  rw [x1x] at x1e
  obtain ⟨x2h, x2e⟩ := he
  obtain ⟨x2, x2x⟩ : ∃ x, s[p]'x2h = x := ⟨_, rfl⟩
  rw [x2x] at x2e
  obtain ⟨x3h, x3l, x3g⟩ := hG (p + 1) (by omega) (by omega)
  obtain ⟨x3, x3x⟩ : ∃ x, s[p + 1]'x3h = x := ⟨_, rfl⟩
  rw [x3x] at x3l x3g
  obtain ⟨c3, c3e⟩ : ∃ c, x3.toNat = c := ⟨_, rfl⟩
  rw [c3e] at x3l x3g
  have t1 : ((c3 : Int) == 43) = false := beq_false_of_ne (by omega)
  have t2 : ((c3 : Int) == 45) = false := beq_false_of_ne (by omega)
  have o1 := or101
  have S0 := Lib.hid (DcSt.start w s)
  clear hA hB q1 hG q2 hq
  go_enter Tryz.func19, Tryz.ntmps19
  go_wp2_with fail
  refine cr0.mono ?_
  rintro e w1 ⟨rfl, hst⟩
  clear cr0
  have S1 := Lib.hid hst
  have i1 := cell_blk hst.hi
  have s1 := cell_blk hst.hs
  have f1 := free_blk hst.hi
  clear hst
  have cr1 := Q1.out _ (S1.out.put ((a : Int) + 1))
  go_wp2_with fail
  refine cr1.mono ?_
  rintro e w2 ⟨rfl, hst⟩
  clear cr1 i1 s1 f1
  have S2 := Lib.hid hst
  have i2 := cell_blk hst.hi
  have s2 := cell_blk hst.hs
  have f2 := free_blk hst.hi
  clear hst
  have cr2 := Q2.out _ (S2.out.put ((p : Int) + 1))
  go_wp2_with fail
  refine cr2.mono ?_
  rintro e w3 ⟨rfl, hst⟩
  clear cr2 i2 s2 f2
  have S3 := Lib.hid hst
  have i3 := cell_blk hst.hi
  have s3 := cell_blk hst.hs
  have f3 := free_blk hst.hi
  clear hst
  go_wp2
  go_ret
  exact ⟨rfl, S3.out.hb⟩
set_option maxRecDepth 100000 in
set_option maxHeartbeats 3200000 in
theorem decimal_12 (s : ByteArray) (a p q : Nat) (w : World) (hn : s.size ≤ 1000) (ha : 1 ≤ a) (hA : ∀ j, 0 ≤ j → j < a → DgtAt s j) (hd : ByteAt s a 46) (hap : a + 1 ≤ p) (hB : ∀ j, a + 1 ≤ j → j < p → DgtAt s j) (he : ByteAt s p 101) (hg : ByteAt s (p + 1) 43) (hq : q = p + 2) (hqn : q < s.size) (hG : ∀ j, q ≤ j → j < s.size → DgtAt s j) :
    Calls Tryz.prog 19 #[.string s] w (DcIs w s.size) := by
  have hmf : ∀ (fn : Fn) (first cap : Array Value) (w : World), (Instr.makeFunc fn first cap).run Tryz.prog w = .ok (.func fn first cap) w := fun _ _ _ _ => rfl
  have cr0 := (DcSt.start w s).call 0 a a hn rfl (by obtain ⟨h, _⟩ := hd; omega) (by omega) hA (byte_end hd (.inl (by decide)))
  have q1 : ∀ W, DcSt w W s ((a : Int) + 1) → Calls Tryz.prog 41 #[.pointer (some ⟨w.heap.size + 1, 0, none⟩), .pointer (some ⟨w.heap.size, 0, none⟩)] W (DrIs w s p (p - (a + 1))) := fun W h => h.call (a + 1) p _ hn rfl (by obtain ⟨h, _⟩ := he; omega) (by omega) hB (byte_end he (.inr (by decide)))
  have Q1 := Lib.hid q1
  have q2 : ∀ W, DcSt w W s ((p : Int) + 1 + 1) → Calls Tryz.prog 41 #[.pointer (some ⟨w.heap.size + 1, 0, none⟩), .pointer (some ⟨w.heap.size, 0, none⟩)] W (DrIs w s s.size (s.size - q)) := fun W h => h.call q s.size _ hn (by omega) (by omega) (by omega) hG text_end
  have Q2 := Lib.hid q2
  have z2 := pos_eq (c := s.size - q) (by omega)
  obtain ⟨x1h, x1e⟩ := hd
  obtain ⟨x1, x1x⟩ : ∃ x, s[a]'x1h = x := ⟨_, rfl⟩
  rw [x1x] at x1e
  obtain ⟨x2h, x2e⟩ := he
  obtain ⟨x2, x2x⟩ : ∃ x, s[p]'x2h = x := ⟨_, rfl⟩
  rw [x2x] at x2e
  obtain ⟨x3h, x3e⟩ := hg
  obtain ⟨x3, x3x⟩ : ∃ x, s[p + 1]'x3h = x := ⟨_, rfl⟩
  rw [x3x] at x3e
  have o1 := or101
  have S0 := Lib.hid (DcSt.start w s)
  clear hA hB q1 hG q2 hq
  go_enter Tryz.func19, Tryz.ntmps19
  go_wp2_with fail
  refine cr0.mono ?_
  rintro e w1 ⟨rfl, hst⟩
  clear cr0
  have S1 := Lib.hid hst
  have i1 := cell_blk hst.hi
  have s1 := cell_blk hst.hs
  have f1 := free_blk hst.hi
  clear hst
  have cr1 := Q1.out _ (S1.out.put ((a : Int) + 1))
  go_wp2_with fail
  refine cr1.mono ?_
  rintro e w2 ⟨rfl, hst⟩
  clear cr1 i1 s1 f1
  have S2 := Lib.hid hst
  have i2 := cell_blk hst.hi
  have s2 := cell_blk hst.hs
  have f2 := free_blk hst.hi
  clear hst
  have cr2 := Q2.out _ ((S2.out.put ((p : Int) + 1)).put ((p : Int) + 1 + 1))
  go_wp2_with fail
  refine cr2.mono ?_
  rintro e w3 ⟨rfl, hst⟩
  clear cr2 i2 s2 f2
  have S3 := Lib.hid hst
  have i3 := cell_blk hst.hi
  have s3 := cell_blk hst.hs
  have f3 := free_blk hst.hi
  clear hst
  go_wp2
  go_ret
  exact ⟨rfl, S3.out.hb⟩
set_option maxRecDepth 100000 in
set_option maxHeartbeats 3200000 in
theorem decimal_13 (s : ByteArray) (a p q : Nat) (w : World) (hn : s.size ≤ 1000) (ha : 1 ≤ a) (hA : ∀ j, 0 ≤ j → j < a → DgtAt s j) (hd : ByteAt s a 46) (hap : a + 1 ≤ p) (hB : ∀ j, a + 1 ≤ j → j < p → DgtAt s j) (he : ByteAt s p 101) (hg : ByteAt s (p + 1) 45) (hq : q = p + 2) (hqn : q < s.size) (hG : ∀ j, q ≤ j → j < s.size → DgtAt s j) :
    Calls Tryz.prog 19 #[.string s] w (DcIs w s.size) := by
  have hmf : ∀ (fn : Fn) (first cap : Array Value) (w : World), (Instr.makeFunc fn first cap).run Tryz.prog w = .ok (.func fn first cap) w := fun _ _ _ _ => rfl
  have cr0 := (DcSt.start w s).call 0 a a hn rfl (by obtain ⟨h, _⟩ := hd; omega) (by omega) hA (byte_end hd (.inl (by decide)))
  have q1 : ∀ W, DcSt w W s ((a : Int) + 1) → Calls Tryz.prog 41 #[.pointer (some ⟨w.heap.size + 1, 0, none⟩), .pointer (some ⟨w.heap.size, 0, none⟩)] W (DrIs w s p (p - (a + 1))) := fun W h => h.call (a + 1) p _ hn rfl (by obtain ⟨h, _⟩ := he; omega) (by omega) hB (byte_end he (.inr (by decide)))
  have Q1 := Lib.hid q1
  have q2 : ∀ W, DcSt w W s ((p : Int) + 1 + 1) → Calls Tryz.prog 41 #[.pointer (some ⟨w.heap.size + 1, 0, none⟩), .pointer (some ⟨w.heap.size, 0, none⟩)] W (DrIs w s s.size (s.size - q)) := fun W h => h.call q s.size _ hn (by omega) (by omega) (by omega) hG text_end
  have Q2 := Lib.hid q2
  have z2 := pos_eq (c := s.size - q) (by omega)
  obtain ⟨x1h, x1e⟩ := hd
  obtain ⟨x1, x1x⟩ : ∃ x, s[a]'x1h = x := ⟨_, rfl⟩
  rw [x1x] at x1e
  obtain ⟨x2h, x2e⟩ := he
  obtain ⟨x2, x2x⟩ : ∃ x, s[p]'x2h = x := ⟨_, rfl⟩
  rw [x2x] at x2e
  obtain ⟨x3h, x3e⟩ := hg
  obtain ⟨x3, x3x⟩ : ∃ x, s[p + 1]'x3h = x := ⟨_, rfl⟩
  rw [x3x] at x3e
  have o1 := or101
  have S0 := Lib.hid (DcSt.start w s)
  clear hA hB q1 hG q2 hq
  go_enter Tryz.func19, Tryz.ntmps19
  go_wp2_with fail
  refine cr0.mono ?_
  rintro e w1 ⟨rfl, hst⟩
  clear cr0
  have S1 := Lib.hid hst
  have i1 := cell_blk hst.hi
  have s1 := cell_blk hst.hs
  have f1 := free_blk hst.hi
  clear hst
  have cr1 := Q1.out _ (S1.out.put ((a : Int) + 1))
  go_wp2_with fail
  refine cr1.mono ?_
  rintro e w2 ⟨rfl, hst⟩
  clear cr1 i1 s1 f1
  have S2 := Lib.hid hst
  have i2 := cell_blk hst.hi
  have s2 := cell_blk hst.hs
  have f2 := free_blk hst.hi
  clear hst
  have cr2 := Q2.out _ ((S2.out.put ((p : Int) + 1)).put ((p : Int) + 1 + 1))
  go_wp2_with fail
  refine cr2.mono ?_
  rintro e w3 ⟨rfl, hst⟩
  clear cr2 i2 s2 f2
  have S3 := Lib.hid hst
  have i3 := cell_blk hst.hi
  have s3 := cell_blk hst.hs
  have f3 := free_blk hst.hi
  clear hst
  go_wp2
  go_ret
  exact ⟨rfl, S3.out.hb⟩
end Go.Proofs.YtbcolebomgcphaaGreatFmt
