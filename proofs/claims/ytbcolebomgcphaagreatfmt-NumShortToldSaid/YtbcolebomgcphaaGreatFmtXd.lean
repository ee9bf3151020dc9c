/- The contract of fmtEFG at the shortest form with an exponent. Each lemma's conditions stand in its own statement. -/
import Derived.Test.YtbcolebomgcphaaGreatFmtXc
namespace Go.Proofs.YtbcolebomgcphaaGreatFmt
open Go.RowKit

/-- The bytes us lie in the slice v, a row of the call's own; block g's digits l and all below base are as they were. -/
def AS (base : Nat) (w0 w : World) (g : Nat) (l : List Int) (v : Value) (us : List Int) : Prop :=
  w.ownsRow base 5 1 v us.length (us.map (Value.int .u8)) ∧ v.ownBlock ≠ some g ∧ g < w.heap.size ∧ DigAt w g l ∧ Below base w0 w ∧ base ≤ w.heap.size
theorem AS.grown {base g : Nat} {w0 w w' : World} {l us : List Int} {v v' : Value} (h : AS base w0 w g l v us) (hb : ∀ i, v.ownBlock = some i → base ≤ i) (hg : w.grownBy w' v.ownBlock)
    (hv : v'.ownBlock = v.ownBlock ∨ v'.ownBlock = some w.heap.size) (us' : List Int) (hown : w'.ownsRow base 5 1 v' us'.length (us'.map (Value.int .u8))) : AS base w0 w' g l v' us' := by
  obtain ⟨h1, h2, h3, h4, h5, h6⟩ := h
  refine ⟨hown, ?_, Nat.lt_of_lt_of_le h3 hg.size, fun j hj => ?_, ⟨hg.os.trans h5.os, hg.tape.trans h5.tape, hg.output.trans h5.output, Nat.le_trans h5.size hg.size, fun i hi => ?_⟩, Nat.le_trans h6 hg.size⟩
  · rcases hv with hv | hv
    · rw [hv]; exact h2
    · rw [hv]
      intro e
      injection e with e
      omega
  · exact hg.cell (h4 j hj) (fun e => h2 e.symm)
  · rw [hg.block i (by omega) (fun e => by have := hb i e.symm; omega)]
    exact h5.block i hi
/-- Some bytes more, out of a slice of the text's own. -/
theorem app_new {P : Program} {ops : Array Oper} {rest : List Oper} {o : Oper} {a : Act} {Q : Exit → Act → World → Prop} (s x : Operand) (i0 : TypeInfo)
    (ht : P.underlying 43 = some (.slice 5)) (hi0 : P.info? 5 = some i0) (hz0 : i0.zero = some (.int .u8 0)) (hz1 : i0.size = 1) (hz2 : i0.bytes = 1)
    (hgd : o.guard = none) (ho : o.op = .call { callee := .builtin .append, args := #[s, x], argTypes := #[43, 43] })
    {base g : Nat} {w0 w : World} {l us : List Int} {v : Value} (h : AS base w0 w g l v us) (hs : a.eval s = v) (news : List Int) (C : Array Value) (hC : C = (news.map (Value.int .u8)).toArray) (n c : Nat) (hn : n = news.length)
    (hx : a.eval x = .slice (some ⟨w.heap.size, 0, none⟩) n c) (hus : us.length + news.length ≤ 1000)
    (hcont : ∀ v' w', AS base w0 w' g l v' (us ++ news) → wpList P ops Q rest (a.put o.dst v') w') :
    wpList P ops Q (o :: rest) a (w.alloc (.cells C 5)) := by
  subst hC
  subst hn
  obtain ⟨h1, h2, h3, h4, h5, h6⟩ := h
  have hr : Reads (w.alloc (.cells (news.map (Value.int .u8)).toArray 5)) (w.heap.size + 1) 1 (some ⟨w.heap.size, 0, none⟩) news.length (news.map (Value.int .u8)) := by
    refine ⟨by simp, fun _ => ⟨_, rfl, by show w.heap.size < w.heap.size + 1; omega, fun j u hj => ?_⟩⟩
    have hadd : (⟨w.heap.size, 0, none⟩ : Addr).add j = ⟨w.heap.size, j, none⟩ := by unfold Addr.add; split <;> simp_all
    rw [hadd, World.cell?_alloc_new]
    simpa using hj
  have hA : AS base w0 (w.alloc (.cells (news.map (Value.int .u8)).toArray 5)) g l v us := by
    refine ⟨h1.alloc _, h2, by rw [World.size_alloc]; omega, fun j hj => ?_, h5.alloc h6 _, by rw [World.size_alloc]; omega⟩
    rw [World.cell?_alloc_lt w _ ⟨g, j, none⟩ h3]
    exact h4 j hj
  refine wpList_append_any _ hgd s x 43 ho base 5 i0 (.int .u8 0) 1 1 ht hi0 hz0 hz1 hz2 rfl (by decide) v us.length _ hs hA.1 _ _ news.length c (news.map (Value.int .u8)) hx hr ?_ ?_ ?_ ?_ ?_
  · intro q hq
    obtain ⟨z, _, rfl⟩ := List.mem_map.1 hq
    rfl
  · unfold maxLen; omega
  · omega
  · rw [World.size_alloc]; omega
  · intro v' w2 hown1 hgrow hv
    refine hcont v' w2 (AS.grown hA (fun i e => (h1.lt i e).1) hgrow hv _ ?_)
    rw [List.map_append, List.length_append]
    exact hown1
/-- The digits behind the first. -/
theorem app_dig {P : Program} {ops : Array Oper} {rest : List Oper} {o : Oper} {a : Act} {Q : Exit → Act → World → Prop} (s x : Operand) (i0 : TypeInfo)
    (ht : P.underlying 43 = some (.slice 5)) (hi0 : P.info? 5 = some i0) (hz0 : i0.zero = some (.int .u8 0)) (hz1 : i0.size = 1) (hz2 : i0.bytes = 1)
    (hgd : o.guard = none) (ho : o.op = .call { callee := .builtin .append, args := #[s, x], argTypes := #[43, 43] })
    {base g : Nat} {w0 w : World} {l us : List Int} {v : Value} (h : AS base w0 w g l v us) (hs : a.eval s = v) (n c : Nat) (hn : n = l.length - 1)
    (hx : a.eval x = .slice (some ⟨g, 1, none⟩) n c) (hus : us.length + l.length ≤ 1000)
    (hcont : ∀ v' w', AS base w0 w' g l v' (us ++ l.drop 1) → wpList P ops Q rest (a.put o.dst v') w') :
    wpList P ops Q (o :: rest) a w := by
  subst hn
  have hA := h
  obtain ⟨h1, h2, h3, h4, h5, h6⟩ := h
  have hr : Reads w (g + 1) 1 (some ⟨g, 1, none⟩) (l.length - 1) ((l.drop 1).map (Value.int .u8)) := by
    refine ⟨by simp, fun _ => ⟨_, rfl, by show g < g + 1; omega, fun j u hj => ?_⟩⟩
    have hadd : (⟨g, 1, none⟩ : Addr).add j = ⟨g, 1 + j, none⟩ := by unfold Addr.add; split <;> simp_all
    rw [hadd]
    rw [List.getElem?_map, List.getElem?_drop] at hj
    rcases Nat.lt_or_ge (1 + j) l.length with k | k
    · rw [List.getElem?_eq_getElem k] at hj
      simp at hj
      subst hj
      have := h4 (1 + j) k
      rw [List.getD_eq_getElem?_getD, List.getElem?_eq_getElem k] at this
      exact this
    · rw [List.getElem?_eq_none k] at hj
      simp at hj
  refine wpList_append_any _ hgd s x 43 ho base 5 i0 (.int .u8 0) 1 1 ht hi0 hz0 hz1 hz2 rfl (by decide) v us.length _ hs h1 _ _ (l.length - 1) c ((l.drop 1).map (Value.int .u8)) hx hr ?_ ?_ ?_ ?_ ?_
  · intro q hq
    obtain ⟨z, _, rfl⟩ := List.mem_map.1 hq
    rfl
  · unfold maxLen; omega
  · omega
  · exact h6
  · intro v' w2 hown1 hgrow hv
    refine hcont v' w2 (AS.grown hA (fun i e => (h1.lt i e).1) hgrow hv _ ?_)
    rw [List.map_append, List.length_append, List.length_drop]
    exact hown1
/-- The exponent's digits, at least two. -/
def expD (y : Nat) : List Int := if y < 10 then [48, (y : Int) + 48] else if y < 100 then [(y : Int) / 10 + 48, (y : Int) % 10 + 48] else [(y : Int) / 100 + 48, (y : Int) / 10 % 10 + 48, (y : Int) % 10 + 48]
/-- The form with an exponent. -/
def fmtE (l : List Int) (x : Int) : List Int := [l.getD 0 0] ++ (if l.length = 1 then [] else [46] ++ l.drop 1) ++ [101] ++ [if x < 0 then 45 else 43] ++ expD x.natAbs
def FmtIs (base : Nat) (w0 : World) (g : Nat) (l : List Int) (x : Int) (e : Ending) (w' : World) : Prop := ∃ v, e = .returned v ∧ AS base w0 w' g l v (fmtE l x)
set_option maxRecDepth 100000 in
set_option maxHeartbeats 6400000 in
theorem fmte_op0 (g base : Nat) (w0 w : World) (v : Value) (l : List Int) (x : Int) (h : AS base w0 w g l v []) (hl1 : l.length = 1) (hl2 : l.length ≤ 17) (hx : 0 ≤ x) (hx2 : x.natAbs < 10) :
    Calls Tryz.prog 116 #[v, .bool false, .slice (some ⟨g, 0, none⟩) 32 32, .int .i64 (x + 1), .int .i64 l.length, .int .i64 ((l.length : Int) - 1), .int .u8 101, .bool true] w (FmtIs base w0 g l x) := by
  obtain ⟨i0, hi0, hz0, hz1, hz2⟩ := info_parts byte_info
  obtain ⟨y, hy⟩ : ∃ y : Nat, x.natAbs = y := ⟨_, rfl⟩
  have hxy : x = (y : Int) := by omega
  obtain ⟨hy0, hy1⟩ : 0 ≤ y ∧ y < 10 := by omega

  subst hxy
  have c0 := h.2.2.2.1 0 (by omega)
  obtain ⟨d0, hd0⟩ : ∃ d, l.getD 0 0 = d := ⟨_, rfl⟩
  rw [hd0] at c0
  obtain ⟨n, hn⟩ : ∃ n, l.length = n := ⟨_, rfl⟩
  rw [hn] at hl1 hl2 ⊢
  have HD0 := Lib.hid hd0
  have HN := Lib.hid hn
  have H := Lib.hid h
  have HY := Lib.hid hy
  clear h hd0 hn hx hx2 hy
  subst hl1
  have t1 : decide ((y : Int) < 0) = false := decide_eq_false (by omega)
  have t2 : decide ((y : Int) < 10) = true := decide_eq_true (by omega)
  have t3 : decide ((y : Int) < 100) = true := decide_eq_true (by omega)
  go_enter Tryz.func116, Tryz.ntmps116
  go_wp2_with (at_builtin; refine app_new (.tmp 87) (.tmp 89) i0 Tryz.underlying43 hi0 hz0 hz1 hz2 rfl rfl H.out rfl [d0] _ rfl 1 1 rfl rfl (by simp) ?_)
  intro v1 w1 h1
  go_wp2_with (at_builtin; refine app_new (.tmp 120) (.tmp 122) i0 Tryz.underlying43 hi0 hz0 hz1 hz2 rfl rfl h1 rfl [101] _ rfl 1 1 rfl rfl (by simp) ?_)
  clear h1
  intro v4 w4 h4
  go_wp2_with (at_builtin; refine app_new (.tmp 132) (.tmp 134) i0 Tryz.underlying43 hi0 hz0 hz1 hz2 rfl rfl h4 rfl [43] _ rfl 1 1 rfl rfl (by simp) ?_)
  clear h4
  intro v5 w5 h5
  go_wp2_with (at_builtin; refine app_new (.tmp 155) (.tmp 159) i0 Tryz.underlying43 hi0 hz0 hz1 hz2 rfl rfl h5 rfl [48, (y : Int) + 48] _ rfl 2 2 rfl rfl (by simp) ?_)
  clear h5
  intro v6 w6 h6
  go_wp2
  go_ret
  refine ⟨v6, rfl, ?_⟩
  have e1 : expD y = [48, (y : Int) + 48] := by
    unfold expD
    rw [if_pos (by omega)]
  have e : fmtE l (y : Int) = [d0] ++ [] ++ [101] ++ [43] ++ [48, (y : Int) + 48] := by
    unfold fmtE
    rw [HD0.out, HY.out, HN.out, e1, if_pos rfl, if_neg (by omega)]
  rw [e]
  simpa using h6
set_option maxRecDepth 100000 in
set_option maxHeartbeats 6400000 in
theorem fmte_op1 (g base : Nat) (w0 w : World) (v : Value) (l : List Int) (x : Int) (h : AS base w0 w g l v []) (hl1 : l.length = 1) (hl2 : l.length ≤ 17) (hx : 0 ≤ x) (hx2 : 10 ≤ x.natAbs ∧ x.natAbs < 100) :
    Calls Tryz.prog 116 #[v, .bool false, .slice (some ⟨g, 0, none⟩) 32 32, .int .i64 (x + 1), .int .i64 l.length, .int .i64 ((l.length : Int) - 1), .int .u8 101, .bool true] w (FmtIs base w0 g l x) := by
  obtain ⟨i0, hi0, hz0, hz1, hz2⟩ := info_parts byte_info
  obtain ⟨y, hy⟩ : ∃ y : Nat, x.natAbs = y := ⟨_, rfl⟩
  have hxy : x = (y : Int) := by omega
  obtain ⟨hy0, hy1⟩ : 10 ≤ y ∧ y < 100 := by omega

  subst hxy
  have c0 := h.2.2.2.1 0 (by omega)
  obtain ⟨d0, hd0⟩ : ∃ d, l.getD 0 0 = d := ⟨_, rfl⟩
  rw [hd0] at c0
  obtain ⟨n, hn⟩ : ∃ n, l.length = n := ⟨_, rfl⟩
  rw [hn] at hl1 hl2 ⊢
  have HD0 := Lib.hid hd0
  have HN := Lib.hid hn
  have H := Lib.hid h
  have HY := Lib.hid hy
  clear h hd0 hn hx hx2 hy
  subst hl1
  have t1 : decide ((y : Int) < 0) = false := decide_eq_false (by omega)
  have t2 : decide ((y : Int) < 10) = false := decide_eq_false (by omega)
  have t3 : decide ((y : Int) < 100) = true := decide_eq_true (by omega)
  go_enter Tryz.func116, Tryz.ntmps116
  go_wp2_with (at_builtin; refine app_new (.tmp 87) (.tmp 89) i0 Tryz.underlying43 hi0 hz0 hz1 hz2 rfl rfl H.out rfl [d0] _ rfl 1 1 rfl rfl (by simp) ?_)
  intro v1 w1 h1
  go_wp2_with (at_builtin; refine app_new (.tmp 120) (.tmp 122) i0 Tryz.underlying43 hi0 hz0 hz1 hz2 rfl rfl h1 rfl [101] _ rfl 1 1 rfl rfl (by simp) ?_)
  clear h1
  intro v4 w4 h4
  go_wp2_with (at_builtin; refine app_new (.tmp 132) (.tmp 134) i0 Tryz.underlying43 hi0 hz0 hz1 hz2 rfl rfl h4 rfl [43] _ rfl 1 1 rfl rfl (by simp) ?_)
  clear h4
  intro v5 w5 h5
  go_wp2_with (at_builtin; refine app_new (.tmp 164) (.tmp 173) i0 Tryz.underlying43 hi0 hz0 hz1 hz2 rfl rfl h5 rfl [(y : Int) / 10 + 48, (y : Int) % 10 + 48] _ rfl 2 2 rfl rfl (by simp) ?_)
  clear h5
  intro v6 w6 h6
  go_wp2
  go_ret
  refine ⟨v6, rfl, ?_⟩
  have e1 : expD y = [(y : Int) / 10 + 48, (y : Int) % 10 + 48] := by
    unfold expD
    rw [if_neg (by omega)]
    rw [if_pos (by omega)]
  have e : fmtE l (y : Int) = [d0] ++ [] ++ [101] ++ [43] ++ [(y : Int) / 10 + 48, (y : Int) % 10 + 48] := by
    unfold fmtE
    rw [HD0.out, HY.out, HN.out, e1, if_pos rfl, if_neg (by omega)]
  rw [e]
  simpa using h6
set_option maxRecDepth 100000 in
set_option maxHeartbeats 6400000 in
theorem fmte_op2 (g base : Nat) (w0 w : World) (v : Value) (l : List Int) (x : Int) (h : AS base w0 w g l v []) (hl1 : l.length = 1) (hl2 : l.length ≤ 17) (hx : 0 ≤ x) (hx2 : 100 ≤ x.natAbs ∧ x.natAbs < 500) :
    Calls Tryz.prog 116 #[v, .bool false, .slice (some ⟨g, 0, none⟩) 32 32, .int .i64 (x + 1), .int .i64 l.length, .int .i64 ((l.length : Int) - 1), .int .u8 101, .bool true] w (FmtIs base w0 g l x) := by
  obtain ⟨i0, hi0, hz0, hz1, hz2⟩ := info_parts byte_info
  obtain ⟨y, hy⟩ : ∃ y : Nat, x.natAbs = y := ⟨_, rfl⟩
  have hxy : x = (y : Int) := by omega
  obtain ⟨hy0, hy1⟩ : 100 ≤ y ∧ y < 500 := by omega

  subst hxy
  have c0 := h.2.2.2.1 0 (by omega)
  obtain ⟨d0, hd0⟩ : ∃ d, l.getD 0 0 = d := ⟨_, rfl⟩
  rw [hd0] at c0
  obtain ⟨n, hn⟩ : ∃ n, l.length = n := ⟨_, rfl⟩
  rw [hn] at hl1 hl2 ⊢
  have HD0 := Lib.hid hd0
  have HN := Lib.hid hn
  have H := Lib.hid h
  have HY := Lib.hid hy
  clear h hd0 hn hx hx2 hy
  subst hl1
  have t1 : decide ((y : Int) < 0) = false := decide_eq_false (by omega)
  have t2 : decide ((y : Int) < 10) = false := decide_eq_false (by omega)
  have t3 : decide ((y : Int) < 100) = false := decide_eq_false (by omega)
  go_enter Tryz.func116, Tryz.ntmps116
  go_wp2_with (at_builtin; refine app_new (.tmp 87) (.tmp 89) i0 Tryz.underlying43 hi0 hz0 hz1 hz2 rfl rfl H.out rfl [d0] _ rfl 1 1 rfl rfl (by simp) ?_)
  intro v1 w1 h1
  go_wp2_with (at_builtin; refine app_new (.tmp 120) (.tmp 122) i0 Tryz.underlying43 hi0 hz0 hz1 hz2 rfl rfl h1 rfl [101] _ rfl 1 1 rfl rfl (by simp) ?_)
  clear h1
  intro v4 w4 h4
  go_wp2_with (at_builtin; refine app_new (.tmp 132) (.tmp 134) i0 Tryz.underlying43 hi0 hz0 hz1 hz2 rfl rfl h4 rfl [43] _ rfl 1 1 rfl rfl (by simp) ?_)
  clear h4
  intro v5 w5 h5
  go_wp2_with (at_builtin; refine app_new (.tmp 136) (.tmp 150) i0 Tryz.underlying43 hi0 hz0 hz1 hz2 rfl rfl h5 rfl [(y : Int) / 100 + 48, (y : Int) / 10 % 10 + 48, (y : Int) % 10 + 48] _ rfl 3 3 rfl rfl (by simp) ?_)
  clear h5
  intro v6 w6 h6
  go_wp2
  go_ret
  refine ⟨v6, rfl, ?_⟩
  have e1 : expD y = [(y : Int) / 100 + 48, (y : Int) / 10 % 10 + 48, (y : Int) % 10 + 48] := by
    unfold expD
    rw [if_neg (by omega)]
    rw [if_neg (by omega)]
  have e : fmtE l (y : Int) = [d0] ++ [] ++ [101] ++ [43] ++ [(y : Int) / 100 + 48, (y : Int) / 10 % 10 + 48, (y : Int) % 10 + 48] := by
    unfold fmtE
    rw [HD0.out, HY.out, HN.out, e1, if_pos rfl, if_neg (by omega)]
  rw [e]
  simpa using h6
set_option maxRecDepth 100000 in
set_option maxHeartbeats 6400000 in
theorem fmte_on0 (g base : Nat) (w0 w : World) (v : Value) (l : List Int) (x : Int) (h : AS base w0 w g l v []) (hl1 : l.length = 1) (hl2 : l.length ≤ 17) (hx : x < 0) (hx2 : x.natAbs < 10) :
    Calls Tryz.prog 116 #[v, .bool false, .slice (some ⟨g, 0, none⟩) 32 32, .int .i64 (x + 1), .int .i64 l.length, .int .i64 ((l.length : Int) - 1), .int .u8 101, .bool true] w (FmtIs base w0 g l x) := by
  obtain ⟨i0, hi0, hz0, hz1, hz2⟩ := info_parts byte_info
  obtain ⟨y, hy⟩ : ∃ y : Nat, x.natAbs = y := ⟨_, rfl⟩
  have hxy : x = -(y : Int) := by omega
  obtain ⟨hy0, hy1⟩ : 0 ≤ y ∧ y < 10 := by omega
  have hy2 : 1 ≤ y := by omega
  subst hxy
  have c0 := h.2.2.2.1 0 (by omega)
  obtain ⟨d0, hd0⟩ : ∃ d, l.getD 0 0 = d := ⟨_, rfl⟩
  rw [hd0] at c0
  obtain ⟨n, hn⟩ : ∃ n, l.length = n := ⟨_, rfl⟩
  rw [hn] at hl1 hl2 ⊢
  have HD0 := Lib.hid hd0
  have HN := Lib.hid hn
  have H := Lib.hid h
  have HY := Lib.hid hy
  clear h hd0 hn hx hx2 hy
  subst hl1
  have t1 : decide (-(y : Int) < 0) = true := decide_eq_true (by omega)
  have t2 : decide ((y : Int) < 10) = true := decide_eq_true (by omega)
  have t3 : decide ((y : Int) < 100) = true := decide_eq_true (by omega)
  have t4 : -(y : Int) + 1 - 1 = -(y : Int) := by omega
  go_enter Tryz.func116, Tryz.ntmps116
  go_wp2_with (at_builtin; refine app_new (.tmp 87) (.tmp 89) i0 Tryz.underlying43 hi0 hz0 hz1 hz2 rfl rfl H.out rfl [d0] _ rfl 1 1 rfl rfl (by simp) ?_)
  intro v1 w1 h1
  go_wp2_with (at_builtin; refine app_new (.tmp 120) (.tmp 122) i0 Tryz.underlying43 hi0 hz0 hz1 hz2 rfl rfl h1 rfl [101] _ rfl 1 1 rfl rfl (by simp) ?_)
  clear h1
  intro v4 w4 h4
  go_wp2_with (at_builtin; refine app_new (.tmp 132) (.tmp 134) i0 Tryz.underlying43 hi0 hz0 hz1 hz2 rfl rfl h4 rfl [45] _ rfl 1 1 rfl rfl (by simp) ?_)
  clear h4
  intro v5 w5 h5
  go_wp2_with (at_builtin; refine app_new (.tmp 155) (.tmp 159) i0 Tryz.underlying43 hi0 hz0 hz1 hz2 rfl rfl h5 rfl [48, (y : Int) + 48] _ rfl 2 2 rfl rfl (by simp) ?_)
  clear h5
  intro v6 w6 h6
  go_wp2
  go_ret
  refine ⟨v6, rfl, ?_⟩
  have e1 : expD y = [48, (y : Int) + 48] := by
    unfold expD
    rw [if_pos (by omega)]
  have e : fmtE l (-(y : Int)) = [d0] ++ [] ++ [101] ++ [45] ++ [48, (y : Int) + 48] := by
    unfold fmtE
    rw [HD0.out, HY.out, HN.out, e1, if_pos rfl, if_pos (by omega)]
  rw [e]
  simpa using h6
set_option maxRecDepth 100000 in
set_option maxHeartbeats 6400000 in
theorem fmte_on1 (g base : Nat) (w0 w : World) (v : Value) (l : List Int) (x : Int) (h : AS base w0 w g l v []) (hl1 : l.length = 1) (hl2 : l.length ≤ 17) (hx : x < 0) (hx2 : 10 ≤ x.natAbs ∧ x.natAbs < 100) :
    Calls Tryz.prog 116 #[v, .bool false, .slice (some ⟨g, 0, none⟩) 32 32, .int .i64 (x + 1), .int .i64 l.length, .int .i64 ((l.length : Int) - 1), .int .u8 101, .bool true] w (FmtIs base w0 g l x) := by
  obtain ⟨i0, hi0, hz0, hz1, hz2⟩ := info_parts byte_info
  obtain ⟨y, hy⟩ : ∃ y : Nat, x.natAbs = y := ⟨_, rfl⟩
  have hxy : x = -(y : Int) := by omega
  obtain ⟨hy0, hy1⟩ : 10 ≤ y ∧ y < 100 := by omega
  have hy2 : 1 ≤ y := by omega
  subst hxy
  have c0 := h.2.2.2.1 0 (by omega)
  obtain ⟨d0, hd0⟩ : ∃ d, l.getD 0 0 = d := ⟨_, rfl⟩
  rw [hd0] at c0
  obtain ⟨n, hn⟩ : ∃ n, l.length = n := ⟨_, rfl⟩
  rw [hn] at hl1 hl2 ⊢
  have HD0 := Lib.hid hd0
  have HN := Lib.hid hn
  have H := Lib.hid h
  have HY := Lib.hid hy
  clear h hd0 hn hx hx2 hy
  subst hl1
  have t1 : decide (-(y : Int) < 0) = true := decide_eq_true (by omega)
  have t2 : decide ((y : Int) < 10) = false := decide_eq_false (by omega)
  have t3 : decide ((y : Int) < 100) = true := decide_eq_true (by omega)
  have t4 : -(y : Int) + 1 - 1 = -(y : Int) := by omega
  go_enter Tryz.func116, Tryz.ntmps116
  go_wp2_with (at_builtin; refine app_new (.tmp 87) (.tmp 89) i0 Tryz.underlying43 hi0 hz0 hz1 hz2 rfl rfl H.out rfl [d0] _ rfl 1 1 rfl rfl (by simp) ?_)
  intro v1 w1 h1
  go_wp2_with (at_builtin; refine app_new (.tmp 120) (.tmp 122) i0 Tryz.underlying43 hi0 hz0 hz1 hz2 rfl rfl h1 rfl [101] _ rfl 1 1 rfl rfl (by simp) ?_)
  clear h1
  intro v4 w4 h4
  go_wp2_with (at_builtin; refine app_new (.tmp 132) (.tmp 134) i0 Tryz.underlying43 hi0 hz0 hz1 hz2 rfl rfl h4 rfl [45] _ rfl 1 1 rfl rfl (by simp) ?_)
  clear h4
  intro v5 w5 h5
  go_wp2_with (at_builtin; refine app_new (.tmp 164) (.tmp 173) i0 Tryz.underlying43 hi0 hz0 hz1 hz2 rfl rfl h5 rfl [(y : Int) / 10 + 48, (y : Int) % 10 + 48] _ rfl 2 2 rfl rfl (by simp) ?_)
  clear h5
  intro v6 w6 h6
  go_wp2
  go_ret
  refine ⟨v6, rfl, ?_⟩
  have e1 : expD y = [(y : Int) / 10 + 48, (y : Int) % 10 + 48] := by
    unfold expD
    rw [if_neg (by omega)]
    rw [if_pos (by omega)]
  have e : fmtE l (-(y : Int)) = [d0] ++ [] ++ [101] ++ [45] ++ [(y : Int) / 10 + 48, (y : Int) % 10 + 48] := by
    unfold fmtE
    rw [HD0.out, HY.out, HN.out, e1, if_pos rfl, if_pos (by omega)]
  rw [e]
  simpa using h6
set_option maxRecDepth 100000 in
set_option maxHeartbeats 6400000 in
theorem fmte_on2 (g base : Nat) (w0 w : World) (v : Value) (l : List Int) (x : Int) (h : AS base w0 w g l v []) (hl1 : l.length = 1) (hl2 : l.length ≤ 17) (hx : x < 0) (hx2 : 100 ≤ x.natAbs ∧ x.natAbs < 500) :
    Calls Tryz.prog 116 #[v, .bool false, .slice (some ⟨g, 0, none⟩) 32 32, .int .i64 (x + 1), .int .i64 l.length, .int .i64 ((l.length : Int) - 1), .int .u8 101, .bool true] w (FmtIs base w0 g l x) := by
  obtain ⟨i0, hi0, hz0, hz1, hz2⟩ := info_parts byte_info
  obtain ⟨y, hy⟩ : ∃ y : Nat, x.natAbs = y := ⟨_, rfl⟩
  have hxy : x = -(y : Int) := by omega
  obtain ⟨hy0, hy1⟩ : 100 ≤ y ∧ y < 500 := by omega
  have hy2 : 1 ≤ y := by omega
  subst hxy
  have c0 := h.2.2.2.1 0 (by omega)
  obtain ⟨d0, hd0⟩ : ∃ d, l.getD 0 0 = d := ⟨_, rfl⟩
  rw [hd0] at c0
  obtain ⟨n, hn⟩ : ∃ n, l.length = n := ⟨_, rfl⟩
  rw [hn] at hl1 hl2 ⊢
  have HD0 := Lib.hid hd0
  have HN := Lib.hid hn
  have H := Lib.hid h
  have HY := Lib.hid hy
  clear h hd0 hn hx hx2 hy
  subst hl1
  have t1 : decide (-(y : Int) < 0) = true := decide_eq_true (by omega)
  have t2 : decide ((y : Int) < 10) = false := decide_eq_false (by omega)
  have t3 : decide ((y : Int) < 100) = false := decide_eq_false (by omega)
  have t4 : -(y : Int) + 1 - 1 = -(y : Int) := by omega
  go_enter Tryz.func116, Tryz.ntmps116
  go_wp2_with (at_builtin; refine app_new (.tmp 87) (.tmp 89) i0 Tryz.underlying43 hi0 hz0 hz1 hz2 rfl rfl H.out rfl [d0] _ rfl 1 1 rfl rfl (by simp) ?_)
  intro v1 w1 h1
  go_wp2_with (at_builtin; refine app_new (.tmp 120) (.tmp 122) i0 Tryz.underlying43 hi0 hz0 hz1 hz2 rfl rfl h1 rfl [101] _ rfl 1 1 rfl rfl (by simp) ?_)
  clear h1
  intro v4 w4 h4
  go_wp2_with (at_builtin; refine app_new (.tmp 132) (.tmp 134) i0 Tryz.underlying43 hi0 hz0 hz1 hz2 rfl rfl h4 rfl [45] _ rfl 1 1 rfl rfl (by simp) ?_)
  clear h4
  intro v5 w5 h5
  go_wp2_with (at_builtin; refine app_new (.tmp 136) (.tmp 150) i0 Tryz.underlying43 hi0 hz0 hz1 hz2 rfl rfl h5 rfl [(y : Int) / 100 + 48, (y : Int) / 10 % 10 + 48, (y : Int) % 10 + 48] _ rfl 3 3 rfl rfl (by simp) ?_)
  clear h5
  intro v6 w6 h6
  go_wp2
  go_ret
  refine ⟨v6, rfl, ?_⟩
  have e1 : expD y = [(y : Int) / 100 + 48, (y : Int) / 10 % 10 + 48, (y : Int) % 10 + 48] := by
    unfold expD
    rw [if_neg (by omega)]
    rw [if_neg (by omega)]
  have e : fmtE l (-(y : Int)) = [d0] ++ [] ++ [101] ++ [45] ++ [(y : Int) / 100 + 48, (y : Int) / 10 % 10 + 48, (y : Int) % 10 + 48] := by
    unfold fmtE
    rw [HD0.out, HY.out, HN.out, e1, if_pos rfl, if_pos (by omega)]
  rw [e]
  simpa using h6
set_option maxRecDepth 100000 in
set_option maxHeartbeats 6400000 in
theorem fmte_mp0 (g base : Nat) (w0 w : World) (v : Value) (l : List Int) (x : Int) (h : AS base w0 w g l v []) (hl1 : 2 ≤ l.length) (hl2 : l.length ≤ 17) (hx : 0 ≤ x) (hx2 : x.natAbs < 10) :
    Calls Tryz.prog 116 #[v, .bool false, .slice (some ⟨g, 0, none⟩) 32 32, .int .i64 (x + 1), .int .i64 l.length, .int .i64 ((l.length : Int) - 1), .int .u8 101, .bool true] w (FmtIs base w0 g l x) := by
  obtain ⟨i0, hi0, hz0, hz1, hz2⟩ := info_parts byte_info
  obtain ⟨y, hy⟩ : ∃ y : Nat, x.natAbs = y := ⟨_, rfl⟩
  have hxy : x = (y : Int) := by omega
  obtain ⟨hy0, hy1⟩ : 0 ≤ y ∧ y < 10 := by omega

  subst hxy
  have c0 := h.2.2.2.1 0 (by omega)
  obtain ⟨d0, hd0⟩ : ∃ d, l.getD 0 0 = d := ⟨_, rfl⟩
  rw [hd0] at c0
  obtain ⟨n, hn⟩ : ∃ n, l.length = n := ⟨_, rfl⟩
  rw [hn] at hl1 hl2 ⊢
  have HD0 := Lib.hid hd0
  have HN := Lib.hid hn
  have H := Lib.hid h
  have HY := Lib.hid hy
  clear h hd0 hn hx hx2 hy

  have t1 : decide ((y : Int) < 0) = false := decide_eq_false (by omega)
  have t2 : decide ((y : Int) < 10) = true := decide_eq_true (by omega)
  have t3 : decide ((y : Int) < 100) = true := decide_eq_true (by omega)
  have t5 : ((n : Int) != 0) = true := by simp; omega
  have t6 : decide (0 < (n : Int) - 1) = true := decide_eq_true (by omega)
  have t7 : decide (1 < (n : Int)) = true := decide_eq_true (by omega)
  have t7b : decide (1 < n) = true := decide_eq_true (by omega)
  have t8 : ((n : Int) == 0) = false := by simp; omega
  go_enter Tryz.func116, Tryz.ntmps116
  go_wp2_with (at_builtin; refine app_new (.tmp 87) (.tmp 89) i0 Tryz.underlying43 hi0 hz0 hz1 hz2 rfl rfl H.out rfl [d0] _ rfl 1 1 rfl rfl (by simp) ?_)
  intro v1 w1 h1
  go_wp2_with (at_builtin; refine app_new (.tmp 93) (.tmp 94) i0 Tryz.underlying43 hi0 hz0 hz1 hz2 rfl rfl h1 rfl [46] _ rfl 1 1 rfl rfl (by simp) ?_)
  clear h1
  intro v2 w2 h2
  go_wp2_with (at_builtin; refine app_dig (.tmp 103) (.tmp 107) i0 Tryz.underlying43 hi0 hz0 hz1 hz2 rfl rfl h2 rfl (n - 1) 31 (by rw [HN.out]) ?c3 (by have hln := HN.out; simp; omega) ?_)
  case c3 => simp [Act.eval]
  clear h2
  intro v3 w3 h3
  go_wp2
  refine wp_loop_rounds 1 ?_
  rw [rounds_succ]
  go_wp2_with (at_builtin; refine app_new (.tmp 120) (.tmp 122) i0 Tryz.underlying43 hi0 hz0 hz1 hz2 rfl rfl h3 rfl [101] _ rfl 1 1 rfl rfl (by have hln := HN.out; simp; omega) ?_)
  clear h3
  intro v4 w4 h4
  go_wp2_with (at_builtin; refine app_new (.tmp 132) (.tmp 134) i0 Tryz.underlying43 hi0 hz0 hz1 hz2 rfl rfl h4 rfl [43] _ rfl 1 1 rfl rfl (by have hln := HN.out; simp; omega) ?_)
  clear h4
  intro v5 w5 h5
  go_wp2_with (at_builtin; refine app_new (.tmp 155) (.tmp 159) i0 Tryz.underlying43 hi0 hz0 hz1 hz2 rfl rfl h5 rfl [48, (y : Int) + 48] _ rfl 2 2 rfl rfl (by have hln := HN.out; simp; omega) ?_)
  clear h5
  intro v6 w6 h6
  go_wp2
  go_ret
  refine ⟨v6, rfl, ?_⟩
  have e1 : expD y = [48, (y : Int) + 48] := by
    unfold expD
    rw [if_pos (by omega)]
  have e : fmtE l (y : Int) = [d0] ++ ([46] ++ l.drop 1) ++ [101] ++ [43] ++ [48, (y : Int) + 48] := by
    unfold fmtE
    rw [HD0.out, HY.out, HN.out, e1, if_neg (by omega), if_neg (by omega)]
  rw [e]
  simpa using h6
set_option maxRecDepth 100000 in
set_option maxHeartbeats 6400000 in
theorem fmte_mp1 (g base : Nat) (w0 w : World) (v : Value) (l : List Int) (x : Int) (h : AS base w0 w g l v []) (hl1 : 2 ≤ l.length) (hl2 : l.length ≤ 17) (hx : 0 ≤ x) (hx2 : 10 ≤ x.natAbs ∧ x.natAbs < 100) :
    Calls Tryz.prog 116 #[v, .bool false, .slice (some ⟨g, 0, none⟩) 32 32, .int .i64 (x + 1), .int .i64 l.length, .int .i64 ((l.length : Int) - 1), .int .u8 101, .bool true] w (FmtIs base w0 g l x) := by
  obtain ⟨i0, hi0, hz0, hz1, hz2⟩ := info_parts byte_info
  obtain ⟨y, hy⟩ : ∃ y : Nat, x.natAbs = y := ⟨_, rfl⟩
  have hxy : x = (y : Int) := by omega
  obtain ⟨hy0, hy1⟩ : 10 ≤ y ∧ y < 100 := by omega

  subst hxy
  have c0 := h.2.2.2.1 0 (by omega)
  obtain ⟨d0, hd0⟩ : ∃ d, l.getD 0 0 = d := ⟨_, rfl⟩
  rw [hd0] at c0
  obtain ⟨n, hn⟩ : ∃ n, l.length = n := ⟨_, rfl⟩
  rw [hn] at hl1 hl2 ⊢
  have HD0 := Lib.hid hd0
  have HN := Lib.hid hn
  have H := Lib.hid h
  have HY := Lib.hid hy
  clear h hd0 hn hx hx2 hy

  have t1 : decide ((y : Int) < 0) = false := decide_eq_false (by omega)
  have t2 : decide ((y : Int) < 10) = false := decide_eq_false (by omega)
  have t3 : decide ((y : Int) < 100) = true := decide_eq_true (by omega)
  have t5 : ((n : Int) != 0) = true := by simp; omega
  have t6 : decide (0 < (n : Int) - 1) = true := decide_eq_true (by omega)
  have t7 : decide (1 < (n : Int)) = true := decide_eq_true (by omega)
  have t7b : decide (1 < n) = true := decide_eq_true (by omega)
  have t8 : ((n : Int) == 0) = false := by simp; omega
  go_enter Tryz.func116, Tryz.ntmps116
  go_wp2_with (at_builtin; refine app_new (.tmp 87) (.tmp 89) i0 Tryz.underlying43 hi0 hz0 hz1 hz2 rfl rfl H.out rfl [d0] _ rfl 1 1 rfl rfl (by simp) ?_)
  intro v1 w1 h1
  go_wp2_with (at_builtin; refine app_new (.tmp 93) (.tmp 94) i0 Tryz.underlying43 hi0 hz0 hz1 hz2 rfl rfl h1 rfl [46] _ rfl 1 1 rfl rfl (by simp) ?_)
  clear h1
  intro v2 w2 h2
  go_wp2_with (at_builtin; refine app_dig (.tmp 103) (.tmp 107) i0 Tryz.underlying43 hi0 hz0 hz1 hz2 rfl rfl h2 rfl (n - 1) 31 (by rw [HN.out]) ?c3 (by have hln := HN.out; simp; omega) ?_)
  case c3 => simp [Act.eval]
  clear h2
  intro v3 w3 h3
  go_wp2
  refine wp_loop_rounds 1 ?_
  rw [rounds_succ]
  go_wp2_with (at_builtin; refine app_new (.tmp 120) (.tmp 122) i0 Tryz.underlying43 hi0 hz0 hz1 hz2 rfl rfl h3 rfl [101] _ rfl 1 1 rfl rfl (by have hln := HN.out; simp; omega) ?_)
  clear h3
  intro v4 w4 h4
  go_wp2_with (at_builtin; refine app_new (.tmp 132) (.tmp 134) i0 Tryz.underlying43 hi0 hz0 hz1 hz2 rfl rfl h4 rfl [43] _ rfl 1 1 rfl rfl (by have hln := HN.out; simp; omega) ?_)
  clear h4
  intro v5 w5 h5
  go_wp2_with (at_builtin; refine app_new (.tmp 164) (.tmp 173) i0 Tryz.underlying43 hi0 hz0 hz1 hz2 rfl rfl h5 rfl [(y : Int) / 10 + 48, (y : Int) % 10 + 48] _ rfl 2 2 rfl rfl (by have hln := HN.out; simp; omega) ?_)
  clear h5
  intro v6 w6 h6
  go_wp2
  go_ret
  refine ⟨v6, rfl, ?_⟩
  have e1 : expD y = [(y : Int) / 10 + 48, (y : Int) % 10 + 48] := by
    unfold expD
    rw [if_neg (by omega)]
    rw [if_pos (by omega)]
  have e : fmtE l (y : Int) = [d0] ++ ([46] ++ l.drop 1) ++ [101] ++ [43] ++ [(y : Int) / 10 + 48, (y : Int) % 10 + 48] := by
    unfold fmtE
    rw [HD0.out, HY.out, HN.out, e1, if_neg (by omega), if_neg (by omega)]
  rw [e]
  simpa using h6
set_option maxRecDepth 100000 in
set_option maxHeartbeats 6400000 in
theorem fmte_mp2 (g base : Nat) (w0 w : World) (v : Value) (l : List Int) (x : Int) (h : AS base w0 w g l v []) (hl1 : 2 ≤ l.length) (hl2 : l.length ≤ 17) (hx : 0 ≤ x) (hx2 : 100 ≤ x.natAbs ∧ x.natAbs < 500) :
    Calls Tryz.prog 116 #[v, .bool false, .slice (some ⟨g, 0, none⟩) 32 32, .int .i64 (x + 1), .int .i64 l.length, .int .i64 ((l.length : Int) - 1), .int .u8 101, .bool true] w (FmtIs base w0 g l x) := by
  obtain ⟨i0, hi0, hz0, hz1, hz2⟩ := info_parts byte_info
  obtain ⟨y, hy⟩ : ∃ y : Nat, x.natAbs = y := ⟨_, rfl⟩
  have hxy : x = (y : Int) := by omega
  obtain ⟨hy0, hy1⟩ : 100 ≤ y ∧ y < 500 := by omega

  subst hxy
  have c0 := h.2.2.2.1 0 (by omega)
  obtain ⟨d0, hd0⟩ : ∃ d, l.getD 0 0 = d := ⟨_, rfl⟩
  rw [hd0] at c0
  obtain ⟨n, hn⟩ : ∃ n, l.length = n := ⟨_, rfl⟩
  rw [hn] at hl1 hl2 ⊢
  have HD0 := Lib.hid hd0
  have HN := Lib.hid hn
  have H := Lib.hid h
  have HY := Lib.hid hy
  clear h hd0 hn hx hx2 hy

  have t1 : decide ((y : Int) < 0) = false := decide_eq_false (by omega)
  have t2 : decide ((y : Int) < 10) = false := decide_eq_false (by omega)
  have t3 : decide ((y : Int) < 100) = false := decide_eq_false (by omega)
  have t5 : ((n : Int) != 0) = true := by simp; omega
  have t6 : decide (0 < (n : Int) - 1) = true := decide_eq_true (by omega)
  have t7 : decide (1 < (n : Int)) = true := decide_eq_true (by omega)
  have t7b : decide (1 < n) = true := decide_eq_true (by omega)
  have t8 : ((n : Int) == 0) = false := by simp; omega
  go_enter Tryz.func116, Tryz.ntmps116
  go_wp2_with (at_builtin; refine app_new (.tmp 87) (.tmp 89) i0 Tryz.underlying43 hi0 hz0 hz1 hz2 rfl rfl H.out rfl [d0] _ rfl 1 1 rfl rfl (by simp) ?_)
  intro v1 w1 h1
  go_wp2_with (at_builtin; refine app_new (.tmp 93) (.tmp 94) i0 Tryz.underlying43 hi0 hz0 hz1 hz2 rfl rfl h1 rfl [46] _ rfl 1 1 rfl rfl (by simp) ?_)
  clear h1
  intro v2 w2 h2
  go_wp2_with (at_builtin; refine app_dig (.tmp 103) (.tmp 107) i0 Tryz.underlying43 hi0 hz0 hz1 hz2 rfl rfl h2 rfl (n - 1) 31 (by rw [HN.out]) ?c3 (by have hln := HN.out; simp; omega) ?_)
  case c3 => simp [Act.eval]
  clear h2
  intro v3 w3 h3
  go_wp2
  refine wp_loop_rounds 1 ?_
  rw [rounds_succ]
  go_wp2_with (at_builtin; refine app_new (.tmp 120) (.tmp 122) i0 Tryz.underlying43 hi0 hz0 hz1 hz2 rfl rfl h3 rfl [101] _ rfl 1 1 rfl rfl (by have hln := HN.out; simp; omega) ?_)
  clear h3
  intro v4 w4 h4
  go_wp2_with (at_builtin; refine app_new (.tmp 132) (.tmp 134) i0 Tryz.underlying43 hi0 hz0 hz1 hz2 rfl rfl h4 rfl [43] _ rfl 1 1 rfl rfl (by have hln := HN.out; simp; omega) ?_)
  clear h4
  intro v5 w5 h5
  go_wp2_with (at_builtin; refine app_new (.tmp 136) (.tmp 150) i0 Tryz.underlying43 hi0 hz0 hz1 hz2 rfl rfl h5 rfl [(y : Int) / 100 + 48, (y : Int) / 10 % 10 + 48, (y : Int) % 10 + 48] _ rfl 3 3 rfl rfl (by have hln := HN.out; simp; omega) ?_)
  clear h5
  intro v6 w6 h6
  go_wp2
  go_ret
  refine ⟨v6, rfl, ?_⟩
  have e1 : expD y = [(y : Int) / 100 + 48, (y : Int) / 10 % 10 + 48, (y : Int) % 10 + 48] := by
    unfold expD
    rw [if_neg (by omega)]
    rw [if_neg (by omega)]
  have e : fmtE l (y : Int) = [d0] ++ ([46] ++ l.drop 1) ++ [101] ++ [43] ++ [(y : Int) / 100 + 48, (y : Int) / 10 % 10 + 48, (y : Int) % 10 + 48] := by
    unfold fmtE
    rw [HD0.out, HY.out, HN.out, e1, if_neg (by omega), if_neg (by omega)]
  rw [e]
  simpa using h6
set_option maxRecDepth 100000 in
set_option maxHeartbeats 6400000 in
theorem fmte_mn0 (g base : Nat) (w0 w : World) (v : Value) (l : List Int) (x : Int) (h : AS base w0 w g l v []) (hl1 : 2 ≤ l.length) (hl2 : l.length ≤ 17) (hx : x < 0) (hx2 : x.natAbs < 10) :
    Calls Tryz.prog 116 #[v, .bool false, .slice (some ⟨g, 0, none⟩) 32 32, .int .i64 (x + 1), .int .i64 l.length, .int .i64 ((l.length : Int) - 1), .int .u8 101, .bool true] w (FmtIs base w0 g l x) := by
  obtain ⟨i0, hi0, hz0, hz1, hz2⟩ := info_parts byte_info
  obtain ⟨y, hy⟩ : ∃ y : Nat, x.natAbs = y := ⟨_, rfl⟩
  have hxy : x = -(y : Int) := by omega
  obtain ⟨hy0, hy1⟩ : 0 ≤ y ∧ y < 10 := by omega
  have hy2 : 1 ≤ y := by omega
  subst hxy
  have c0 := h.2.2.2.1 0 (by omega)
  obtain ⟨d0, hd0⟩ : ∃ d, l.getD 0 0 = d := ⟨_, rfl⟩
  rw [hd0] at c0
  obtain ⟨n, hn⟩ : ∃ n, l.length = n := ⟨_, rfl⟩
  rw [hn] at hl1 hl2 ⊢
  have HD0 := Lib.hid hd0
  have HN := Lib.hid hn
  have H := Lib.hid h
  have HY := Lib.hid hy
  clear h hd0 hn hx hx2 hy

  have t1 : decide (-(y : Int) < 0) = true := decide_eq_true (by omega)
  have t2 : decide ((y : Int) < 10) = true := decide_eq_true (by omega)
  have t3 : decide ((y : Int) < 100) = true := decide_eq_true (by omega)
  have t4 : -(y : Int) + 1 - 1 = -(y : Int) := by omega
  have t5 : ((n : Int) != 0) = true := by simp; omega
  have t6 : decide (0 < (n : Int) - 1) = true := decide_eq_true (by omega)
  have t7 : decide (1 < (n : Int)) = true := decide_eq_true (by omega)
  have t7b : decide (1 < n) = true := decide_eq_true (by omega)
  have t8 : ((n : Int) == 0) = false := by simp; omega
  go_enter Tryz.func116, Tryz.ntmps116
  go_wp2_with (at_builtin; refine app_new (.tmp 87) (.tmp 89) i0 Tryz.underlying43 hi0 hz0 hz1 hz2 rfl rfl H.out rfl [d0] _ rfl 1 1 rfl rfl (by simp) ?_)
  intro v1 w1 h1
  go_wp2_with (at_builtin; refine app_new (.tmp 93) (.tmp 94) i0 Tryz.underlying43 hi0 hz0 hz1 hz2 rfl rfl h1 rfl [46] _ rfl 1 1 rfl rfl (by simp) ?_)
  clear h1
  intro v2 w2 h2
  go_wp2_with (at_builtin; refine app_dig (.tmp 103) (.tmp 107) i0 Tryz.underlying43 hi0 hz0 hz1 hz2 rfl rfl h2 rfl (n - 1) 31 (by rw [HN.out]) ?c3 (by have hln := HN.out; simp; omega) ?_)
  case c3 => simp [Act.eval]
  clear h2
  intro v3 w3 h3
  go_wp2
  refine wp_loop_rounds 1 ?_
  rw [rounds_succ]
  go_wp2_with (at_builtin; refine app_new (.tmp 120) (.tmp 122) i0 Tryz.underlying43 hi0 hz0 hz1 hz2 rfl rfl h3 rfl [101] _ rfl 1 1 rfl rfl (by have hln := HN.out; simp; omega) ?_)
  clear h3
  intro v4 w4 h4
  go_wp2_with (at_builtin; refine app_new (.tmp 132) (.tmp 134) i0 Tryz.underlying43 hi0 hz0 hz1 hz2 rfl rfl h4 rfl [45] _ rfl 1 1 rfl rfl (by have hln := HN.out; simp; omega) ?_)
  clear h4
  intro v5 w5 h5
  go_wp2_with (at_builtin; refine app_new (.tmp 155) (.tmp 159) i0 Tryz.underlying43 hi0 hz0 hz1 hz2 rfl rfl h5 rfl [48, (y : Int) + 48] _ rfl 2 2 rfl rfl (by have hln := HN.out; simp; omega) ?_)
  clear h5
  intro v6 w6 h6
  go_wp2
  go_ret
  refine ⟨v6, rfl, ?_⟩
  have e1 : expD y = [48, (y : Int) + 48] := by
    unfold expD
    rw [if_pos (by omega)]
  have e : fmtE l (-(y : Int)) = [d0] ++ ([46] ++ l.drop 1) ++ [101] ++ [45] ++ [48, (y : Int) + 48] := by
    unfold fmtE
    rw [HD0.out, HY.out, HN.out, e1, if_neg (by omega), if_pos (by omega)]
  rw [e]
  simpa using h6
set_option maxRecDepth 100000 in
set_option maxHeartbeats 6400000 in
theorem fmte_mn1 (g base : Nat) (w0 w : World) (v : Value) (l : List Int) (x : Int) (h : AS base w0 w g l v []) (hl1 : 2 ≤ l.length) (hl2 : l.length ≤ 17) (hx : x < 0) (hx2 : 10 ≤ x.natAbs ∧ x.natAbs < 100) :
    Calls Tryz.prog 116 #[v, .bool false, .slice (some ⟨g, 0, none⟩) 32 32, .int .i64 (x + 1), .int .i64 l.length, .int .i64 ((l.length : Int) - 1), .int .u8 101, .bool true] w (FmtIs base w0 g l x) := by
  obtain ⟨i0, hi0, hz0, hz1, hz2⟩ := info_parts byte_info
  obtain ⟨y, hy⟩ : ∃ y : Nat, x.natAbs = y := ⟨_, rfl⟩
  have hxy : x = -(y : Int) := by omega
  obtain ⟨hy0, hy1⟩ : 10 ≤ y ∧ y < 100 := by omega
  have hy2 : 1 ≤ y := by omega
  subst hxy
  have c0 := h.2.2.2.1 0 (by omega)
  obtain ⟨d0, hd0⟩ : ∃ d, l.getD 0 0 = d := ⟨_, rfl⟩
  rw [hd0] at c0
  obtain ⟨n, hn⟩ : ∃ n, l.length = n := ⟨_, rfl⟩
  rw [hn] at hl1 hl2 ⊢
  have HD0 := Lib.hid hd0
  have HN := Lib.hid hn
  have H := Lib.hid h
  have HY := Lib.hid hy
  clear h hd0 hn hx hx2 hy

  have t1 : decide (-(y : Int) < 0) = true := decide_eq_true (by omega)
  have t2 : decide ((y : Int) < 10) = false := decide_eq_false (by omega)
  have t3 : decide ((y : Int) < 100) = true := decide_eq_true (by omega)
  have t4 : -(y : Int) + 1 - 1 = -(y : Int) := by omega
  have t5 : ((n : Int) != 0) = true := by simp; omega
  have t6 : decide (0 < (n : Int) - 1) = true := decide_eq_true (by omega)
  have t7 : decide (1 < (n : Int)) = true := decide_eq_true (by omega)
  have t7b : decide (1 < n) = true := decide_eq_true (by omega)
  have t8 : ((n : Int) == 0) = false := by simp; omega
  go_enter Tryz.func116, Tryz.ntmps116
  go_wp2_with (at_builtin; refine app_new (.tmp 87) (.tmp 89) i0 Tryz.underlying43 hi0 hz0 hz1 hz2 rfl rfl H.out rfl [d0] _ rfl 1 1 rfl rfl (by simp) ?_)
  intro v1 w1 h1
  go_wp2_with (at_builtin; refine app_new (.tmp 93) (.tmp 94) i0 Tryz.underlying43 hi0 hz0 hz1 hz2 rfl rfl h1 rfl [46] _ rfl 1 1 rfl rfl (by simp) ?_)
  clear h1
  intro v2 w2 h2
  go_wp2_with (at_builtin; refine app_dig (.tmp 103) (.tmp 107) i0 Tryz.underlying43 hi0 hz0 hz1 hz2 rfl rfl h2 rfl (n - 1) 31 (by rw [HN.out]) ?c3 (by have hln := HN.out; simp; omega) ?_)
  case c3 => simp [Act.eval]
  clear h2
  intro v3 w3 h3
  go_wp2
  refine wp_loop_rounds 1 ?_
  rw [rounds_succ]
  go_wp2_with (at_builtin; refine app_new (.tmp 120) (.tmp 122) i0 Tryz.underlying43 hi0 hz0 hz1 hz2 rfl rfl h3 rfl [101] _ rfl 1 1 rfl rfl (by have hln := HN.out; simp; omega) ?_)
  clear h3
  intro v4 w4 h4
  go_wp2_with (at_builtin; refine app_new (.tmp 132) (.tmp 134) i0 Tryz.underlying43 hi0 hz0 hz1 hz2 rfl rfl h4 rfl [45] _ rfl 1 1 rfl rfl (by have hln := HN.out; simp; omega) ?_)
  clear h4
  intro v5 w5 h5
  go_wp2_with (at_builtin; refine app_new (.tmp 164) (.tmp 173) i0 Tryz.underlying43 hi0 hz0 hz1 hz2 rfl rfl h5 rfl [(y : Int) / 10 + 48, (y : Int) % 10 + 48] _ rfl 2 2 rfl rfl (by have hln := HN.out; simp; omega) ?_)
  clear h5
  intro v6 w6 h6
  go_wp2
  go_ret
  refine ⟨v6, rfl, ?_⟩
  have e1 : expD y = [(y : Int) / 10 + 48, (y : Int) % 10 + 48] := by
    unfold expD
    rw [if_neg (by omega)]
    rw [if_pos (by omega)]
  have e : fmtE l (-(y : Int)) = [d0] ++ ([46] ++ l.drop 1) ++ [101] ++ [45] ++ [(y : Int) / 10 + 48, (y : Int) % 10 + 48] := by
    unfold fmtE
    rw [HD0.out, HY.out, HN.out, e1, if_neg (by omega), if_pos (by omega)]
  rw [e]
  simpa using h6
set_option maxRecDepth 100000 in
set_option maxHeartbeats 6400000 in
theorem fmte_mn2 (g base : Nat) (w0 w : World) (v : Value) (l : List Int) (x : Int) (h : AS base w0 w g l v []) (hl1 : 2 ≤ l.length) (hl2 : l.length ≤ 17) (hx : x < 0) (hx2 : 100 ≤ x.natAbs ∧ x.natAbs < 500) :
    Calls Tryz.prog 116 #[v, .bool false, .slice (some ⟨g, 0, none⟩) 32 32, .int .i64 (x + 1), .int .i64 l.length, .int .i64 ((l.length : Int) - 1), .int .u8 101, .bool true] w (FmtIs base w0 g l x) := by
  obtain ⟨i0, hi0, hz0, hz1, hz2⟩ := info_parts byte_info
  obtain ⟨y, hy⟩ : ∃ y : Nat, x.natAbs = y := ⟨_, rfl⟩
  have hxy : x = -(y : Int) := by omega
  obtain ⟨hy0, hy1⟩ : 100 ≤ y ∧ y < 500 := by omega
  have hy2 : 1 ≤ y := by omega
  subst hxy
  have c0 := h.2.2.2.1 0 (by omega)
  obtain ⟨d0, hd0⟩ : ∃ d, l.getD 0 0 = d := ⟨_, rfl⟩
  rw [hd0] at c0
  obtain ⟨n, hn⟩ : ∃ n, l.length = n := ⟨_, rfl⟩
  rw [hn] at hl1 hl2 ⊢
  have HD0 := Lib.hid hd0
  have HN := Lib.hid hn
  have H := Lib.hid h
  have HY := Lib.hid hy
  clear h hd0 hn hx hx2 hy

  have t1 : decide (-(y : Int) < 0) = true := decide_eq_true (by omega)
  have t2 : decide ((y : Int) < 10) = false := decide_eq_false (by omega)
  have t3 : decide ((y : Int) < 100) = false := decide_eq_false (by omega)
  have t4 : -(y : Int) + 1 - 1 = -(y : Int) := by omega
  have t5 : ((n : Int) != 0) = true := by simp; omega
  have t6 : decide (0 < (n : Int) - 1) = true := decide_eq_true (by omega)
  have t7 : decide (1 < (n : Int)) = true := decide_eq_true (by omega)
  have t7b : decide (1 < n) = true := decide_eq_true (by omega)
  have t8 : ((n : Int) == 0) = false := by simp; omega
  go_enter Tryz.func116, Tryz.ntmps116
  go_wp2_with (at_builtin; refine app_new (.tmp 87) (.tmp 89) i0 Tryz.underlying43 hi0 hz0 hz1 hz2 rfl rfl H.out rfl [d0] _ rfl 1 1 rfl rfl (by simp) ?_)
  intro v1 w1 h1
  go_wp2_with (at_builtin; refine app_new (.tmp 93) (.tmp 94) i0 Tryz.underlying43 hi0 hz0 hz1 hz2 rfl rfl h1 rfl [46] _ rfl 1 1 rfl rfl (by simp) ?_)
  clear h1
  intro v2 w2 h2
  go_wp2_with (at_builtin; refine app_dig (.tmp 103) (.tmp 107) i0 Tryz.underlying43 hi0 hz0 hz1 hz2 rfl rfl h2 rfl (n - 1) 31 (by rw [HN.out]) ?c3 (by have hln := HN.out; simp; omega) ?_)
  case c3 => simp [Act.eval]
  clear h2
  intro v3 w3 h3
  go_wp2
  refine wp_loop_rounds 1 ?_
  rw [rounds_succ]
  go_wp2_with (at_builtin; refine app_new (.tmp 120) (.tmp 122) i0 Tryz.underlying43 hi0 hz0 hz1 hz2 rfl rfl h3 rfl [101] _ rfl 1 1 rfl rfl (by have hln := HN.out; simp; omega) ?_)
  clear h3
  intro v4 w4 h4
  go_wp2_with (at_builtin; refine app_new (.tmp 132) (.tmp 134) i0 Tryz.underlying43 hi0 hz0 hz1 hz2 rfl rfl h4 rfl [45] _ rfl 1 1 rfl rfl (by have hln := HN.out; simp; omega) ?_)
  clear h4
  intro v5 w5 h5
  go_wp2_with (at_builtin; refine app_new (.tmp 136) (.tmp 150) i0 Tryz.underlying43 hi0 hz0 hz1 hz2 rfl rfl h5 rfl [(y : Int) / 100 + 48, (y : Int) / 10 % 10 + 48, (y : Int) % 10 + 48] _ rfl 3 3 rfl rfl (by have hln := HN.out; simp; omega) ?_)
  clear h5
  intro v6 w6 h6
  go_wp2
  go_ret
  refine ⟨v6, rfl, ?_⟩
  have e1 : expD y = [(y : Int) / 100 + 48, (y : Int) / 10 % 10 + 48, (y : Int) % 10 + 48] := by
    unfold expD
    rw [if_neg (by omega)]
    rw [if_neg (by omega)]
  have e : fmtE l (-(y : Int)) = [d0] ++ ([46] ++ l.drop 1) ++ [101] ++ [45] ++ [(y : Int) / 100 + 48, (y : Int) / 10 % 10 + 48, (y : Int) % 10 + 48] := by
    unfold fmtE
    rw [HD0.out, HY.out, HN.out, e1, if_neg (by omega), if_pos (by omega)]
  rw [e]
  simpa using h6
theorem fmte_any (g base : Nat) (w0 w : World) (v : Value) (l : List Int) (x : Int) (h : AS base w0 w g l v []) (hl1 : 1 ≤ l.length) (hl2 : l.length ≤ 17) (hx0 : -400 ≤ x) (hx1 : x ≤ 400) :
    Calls Tryz.prog 116 #[v, .bool false, .slice (some ⟨g, 0, none⟩) 32 32, .int .i64 (x + 1), .int .i64 l.length, .int .i64 ((l.length : Int) - 1), .int .u8 101, .bool true] w (FmtIs base w0 g l x) := by
  have hs : x.natAbs < 10 ∨ (10 ≤ x.natAbs ∧ x.natAbs < 100) ∨ (100 ≤ x.natAbs ∧ x.natAbs < 500) := by omega
  rcases Nat.lt_or_ge 1 l.length with g1 | g1
  · rcases Int.lt_or_le x 0 with g2 | g2
    · rcases hs with hs | hs | hs
      · exact fmte_mn0 g base w0 w v l x h g1 hl2 g2 hs
      · exact fmte_mn1 g base w0 w v l x h g1 hl2 g2 hs
      · exact fmte_mn2 g base w0 w v l x h g1 hl2 g2 hs
    · rcases hs with hs | hs | hs
      · exact fmte_mp0 g base w0 w v l x h g1 hl2 g2 hs
      · exact fmte_mp1 g base w0 w v l x h g1 hl2 g2 hs
      · exact fmte_mp2 g base w0 w v l x h g1 hl2 g2 hs
  · have g1' : l.length = 1 := by omega
    rcases Int.lt_or_le x 0 with g2 | g2
    · rcases hs with hs | hs | hs
      · exact fmte_on0 g base w0 w v l x h g1' hl2 g2 hs
      · exact fmte_on1 g base w0 w v l x h g1' hl2 g2 hs
      · exact fmte_on2 g base w0 w v l x h g1' hl2 g2 hs
    · rcases hs with hs | hs | hs
      · exact fmte_op0 g base w0 w v l x h g1' hl2 g2 hs
      · exact fmte_op1 g base w0 w v l x h g1' hl2 g2 hs
      · exact fmte_op2 g base w0 w v l x h g1' hl2 g2 hs
end Go.Proofs.YtbcolebomgcphaaGreatFmt
