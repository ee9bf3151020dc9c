/- The contract of the reference's NumText on numbers above 0. Each lemma's conditions stand in its own statement. -/
import Derived.Test.YtmhbkilidpbenaaGreatDoorXn
namespace Go.Proofs.YtmhbkilidpbenaaGreatDoor
open Go.RowKit

theorem zeros_off (K : Nat) (h : 0 < K) : ∃ c i, K = c * 10 ^ i ∧ c % 10 ≠ 0 := by
  induction K using Nat.strongRecOn with
  | ind K ih =>
    by_cases g : K % 10 = 0
    · obtain ⟨c, i, e, hc⟩ := ih (K / 10) (by omega) (by omega)
      refine ⟨c, i + 1, ?_, hc⟩
      rw [Nat.pow_succ, ← Nat.mul_assoc, ← e]
      omega
    · exact ⟨K, 0, by simp, g⟩
theorem fl_le {K : Nat} (h : K < 9007199254740992) : floatOfInt .f64 (K : Int) ≤ 9218868437227405312 := by
  rcases Nat.eq_zero_or_pos K with h0 | h0
  · subst h0; decide
  · obtain ⟨q, f, hfl, hq, hf, _⟩ := fl_of K h0 (by omega)
    have hL := log2_le53 h0 (show K ≤ 9007199254740992 by omega)
    rw [hfl]
    omega
/-- The text of a whole number below 2 to the 53. -/
theorem whole_is {w w' : World} {r : Nat} (h0 : 0 < r) (hr : r < 4845873199050653696) (ht : r = floatOfInt .f64 (trK r : Int)) (hb : Below w.heap.size w w') : TxIs w r (.returned (.string (strOfNums (decZ (trK r))))) w' := by
  have hk := trK_le hr
  obtain ⟨K, hK⟩ : ∃ K, trK r = K := ⟨_, rfl⟩
  rw [hK] at ht hk ⊢
  have h1 : 0 < K := by
    rcases Nat.eq_zero_or_pos K with g | g
    · subst g
      have : floatOfInt .f64 ((0 : Nat) : Int) = 0 := by decide
      omega
    · exact g
  have hu : unt r = K * 2 ^ 1074 := by rw [ht]; exact unt_fl h1 (by omega)
  obtain ⟨c, i, e, hc⟩ := zeros_off K h1
  refine ⟨c, i, whole_shr h0 hr hu e hc, ?_, ?_, hb⟩
  · rw [whole_text e hc hk]
  · rw [whole_text e hc hk, decZ_length]
    have := ndig_le (u := K) (k := 16) (by omega) (by omega)
    omega
theorem fork (r : Nat) (hr : r < 9218868437227405312) :
    (r < 4845873199050653696 ∧ r = floatOfInt .f64 (trK r : Int) ∧ (FloatKind.f64.format.order r 4845873199050653696 == some .lt) = true ∧ (FloatKind.f64.format.order r (floatOfInt .f64 (trK r : Int)) == some .eq) = true)
    ∨ (r < 4845873199050653696 ∧ (FloatKind.f64.format.order r 4845873199050653696 == some .lt) = true ∧ (FloatKind.f64.format.order r (floatOfInt .f64 (trK r : Int)) == some .eq) = false)
    ∨ (FloatKind.f64.format.order r 4845873199050653696 == some .lt) = false := by
  have e : FloatKind.f64.format.order r 4845873199050653696 = some (compare r 4845873199050653696) := order_any (by omega) (by decide)
  rcases Nat.lt_or_ge r 4845873199050653696 with h | h
  · have e2 : FloatKind.f64.format.order r (floatOfInt .f64 (trK r : Int)) = some (compare r (floatOfInt .f64 (trK r : Int))) := order_any (by omega) (fl_le (trK_le h))
    rw [e, e2, Nat.compare_eq_lt.2 h]
    by_cases g : r = floatOfInt .f64 (trK r : Int)
    · exact Or.inl ⟨h, g, rfl, by rw [Nat.compare_eq_eq.2 g]; rfl⟩
    · refine Or.inr (Or.inl ⟨h, rfl, ?_⟩)
      rcases Nat.lt_or_gt_of_ne g with k | k
      · rw [Nat.compare_eq_lt.2 k]; rfl
      · rw [Nat.compare_eq_gt.2 k]; rfl
  · refine Or.inr (Or.inr ?_)
    rw [e]
    rcases Nat.lt_or_ge 4845873199050653696 r with k | k
    · rw [Nat.compare_eq_gt.2 k]; rfl
    · rw [Nat.compare_eq_eq.2 (by omega)]; rfl
set_option maxRecDepth 100000 in
set_option maxHeartbeats 1600000 in
theorem numtext_pos (r : Nat) (w : World) (h0 : 0 < r) (hr : r < 9218868437227405312) : Calls Tryz.prog 6 #[.float .f64 r] w (TxIs w r) := by
  have c1 := oddr_pos r w h0 hr
  have c2 := fewest_any r w h0 hr
  have hlt : (FloatKind.f64.format.order r 0 == some .lt) = false := by rw [pos_zero h0 hr]; rfl
  have g1 := fun _ : True => hlt
  have fk := fork r hr
  have H0 := Lib.hid h0
  clear h0 hr hlt
  rcases fk with ⟨hr, ht, g2, g3⟩ | ⟨hr, g2, g3⟩ | g2
  · have c3 := trunc_any r w hr
    have c4 := conv_u64 hr w
    have HK := Lib.hid (trK_le hr)
    have HW := Lib.hid (fun w' => whole_is (w := w) (w' := w') H0.out hr ht)
    obtain ⟨t, hT⟩ : ∃ t, floatOfInt .f64 (trK r : Int) = t := ⟨_, rfl⟩
    rw [hT] at c3 g3
    have G2 := fun _ : True => g2
    have G3 := fun _ : True => g3
    clear ht hr hT g2 g3 c2
    obtain ⟨K, hK⟩ : ∃ K, trK r = K := ⟨_, rfl⟩
    rw [hK] at c4 HK HW
    clear hK
    go_enter Tryz.func6, Tryz.ntmps6
    go_wp2_with fail
    refine c1.mono ?_
    rintro e w1 ⟨rfl, rfl⟩
    clear c1
    go_wp2_with fail
    refine c3.mono ?_
    rintro e w2 ⟨rfl, rfl⟩
    clear c3
    go_wp2_with fail
    refine (nat_any K w (by have := HK.out; omega)).mono ?_
    rintro e w3 ⟨v, rfl, iv, b3⟩
    clear c4
    go_wp2_with fail
    refine (digits_any v K 4 w3 (u64_pw (by have := HK.out; omega)) (by omega) iv).mono ?_
    rintro e w4 ⟨rfl, b4⟩
    have B4 := Lib.hid (b3.trans (b4.mono b3.size))
    clear b3 b4 iv
    go_wp2
    go_ret
    exact HW.out _ B4.out
  · have c3 := trunc_any r w hr
    clear hr
    obtain ⟨t, hT⟩ : ∃ t, floatOfInt .f64 (trK r : Int) = t := ⟨_, rfl⟩
    rw [hT] at c3 g3
    have G2 := fun _ : True => g2
    have G3 := fun _ : True => g3
    clear hT g2 g3
    go_enter Tryz.func6, Tryz.ntmps6
    go_wp2_with fail
    refine c1.mono ?_
    rintro e w1 ⟨rfl, rfl⟩
    clear c1
    go_wp2_with fail
    refine c3.mono ?_
    rintro e w2 ⟨rfl, rfl⟩
    clear c3
    go_wp2_with fail
    refine c2.mono ?_
    rintro e w2 ⟨D, j, hsh, rfl, d0, d1, j0, j1, b2⟩
    obtain ⟨k1, k2, _, _⟩ := fmtE_len d1 0
    obtain ⟨l, hl⟩ : ∃ l, decZ D = l := ⟨_, rfl⟩
    rw [hl] at k1 k2 ⊢
    obtain ⟨k, hk⟩ : ∃ k, l.length = k := ⟨_, rfl⟩
    have hs := str_size l
    rw [hk] at k1 k2 hs ⊢
    obtain ⟨p, hp⟩ : ∃ p, j + (k : Int) = p := ⟨_, rfl⟩
    rw [hp]
    have hp0 : -400 ≤ p := by omega
    have hp1 : p ≤ 420 := by omega
    have fin : ∀ s w', s = strOfNums (txt l p) → Below w.heap.size w w' → TxIs w r (.returned (.string s)) w' := fun _ _ a b => TxIs.mk hsh hl (by rw [hk, hp]) a (by omega) (by omega) hp0 hp1 b
    have hcases : 21 < p ∨ ((k : Int) ≤ p ∧ p ≤ 21) ∨ (0 < p ∧ p < k) ∨ (-6 < p ∧ p ≤ 0) ∨ p ≤ -6 := by omega
    have B := Lib.hid b2
    have HB := Lib.hid hk
    have FIN := Lib.hid fin
    clear hsh hl hp d0 d1 j0 j1 b2 hk fin
    have armE : (21 < p ∨ p ≤ -6) → (strOfNums (dotZ l)).size ≤ 100 := fun _ => by
      rw [str_size]; unfold dotZ; split
      · have := HB.out; omega
      · have := HB.out; simp; omega
    rcases hcases with h | h | h | h | h
    · have hz := armE (Or.inl h)
      have T := Lib.hid (txt_e (l := l) (Or.inl h) (by have := HB.out; omega))
      have c3 := dotted_ref l (by have := HB.out; omega) (by have := HB.out; omega) w2
      clear armE
      go_wp2_with fail
      refine c3.mono ?_
      rintro e w3 ⟨rfl, q, hq⟩
      have hb3 := Lib.hid (hq ▸ below_drewN B.out q)
      have c4 := small_ref (p - 1) (by omega) (by omega) w3
      clear hq c3
      have hz4 := (sgn_size (p - 1) (by omega) (by omega)).1
      go_wp2_with fail
      refine c4.mono ?_
      rintro e w4 ⟨rfl, b4⟩
      have B4 := Lib.hid (hb3.out.trans (b4.mono hb3.out.size))
      clear b4 c4
      go_wp2
      go_ret
      refine FIN.out _ _ ?_ B4.out
      show strOfNums (dotZ l) ++ strOfNums [101] ++ strOfNums (sgnZ (p - 1)) = _
      rw [T.out, str_app, str_app]
    · obtain ⟨h, h'⟩ := h
      obtain ⟨c, hc⟩ : ∃ c : Nat, p = (k : Int) + c := ⟨(p - k).toNat, by omega⟩
      subst hc
      have g2 := fun _ : True => (show (k : Int) + c - k = c by omega)
      have hc21 : c ≤ 21 := by omega
      have T := Lib.hid (txt_a HB.out h')
      have hs2 : (strOfNums (List.replicate c 48)).size = c := by rw [str_size, List.length_replicate]
      clear armE
      go_wp2_with fail
      refine (zeros_ref c (by omega) w2).mono ?_
      rintro e w3 ⟨rfl, rfl⟩
      go_wp2
      go_ret
      exact FIN.out _ _ (by rw [T.out, str_app]) B.out
    · obtain ⟨h, h'⟩ := h
      obtain ⟨q, hq⟩ : ∃ q : Nat, p = q := ⟨p.toNat, by omega⟩
      subst hq
      have T := Lib.hid (txt_b (l := l) (q := q) (by have := HB.out; omega) (by omega) (by omega))
      have HD := Lib.hid (hs ▸ str_drop l q)
      clear armE
      go_wp2
      go_quiet (fail)
      go_wp2
      go_ret
      refine FIN.out _ _ ?_ (below_drewN B.out _)
      show (strOfNums l).extract 0 q ++ strOfNums [46] ++ (strOfNums l).extract q k = _
      rw [T.out, HD.out, str_take, str_app, str_app]
    · obtain ⟨h, h'⟩ := h
      obtain ⟨c, hc⟩ : ∃ c : Nat, p = -(c : Int) := ⟨(-p).toNat, by omega⟩
      subst hc
      have g2 := fun _ : True => (show - -(c : Int) = c by omega)
      have hc6 : c < 6 := by omega
      have T := Lib.hid (txt_c (l := l) hc6 (by have := HB.out; omega))
      have hs2 : (strOfNums (List.replicate c 48)).size = c := by rw [str_size, List.length_replicate]
      clear armE
      go_wp2_with fail
      refine (zeros_ref c (by omega) w2).mono ?_
      rintro e w3 ⟨rfl, rfl⟩
      go_wp2
      go_ret
      refine FIN.out _ _ ?_ B.out
      show strOfNums [48, 46] ++ strOfNums (List.replicate c 48) ++ strOfNums l = _
      rw [T.out, str_app, str_app]
    · have hz := armE (Or.inr h)
      have T := Lib.hid (txt_e (l := l) (Or.inr h) (by have := HB.out; omega))
      have c3 := dotted_ref l (by have := HB.out; omega) (by have := HB.out; omega) w2
      clear armE
      go_wp2_with fail
      refine c3.mono ?_
      rintro e w3 ⟨rfl, q, hq⟩
      have hb3 := Lib.hid (hq ▸ below_drewN B.out q)
      have c4 := small_ref (p - 1) (by omega) (by omega) w3
      clear hq c3
      have hz4 := (sgn_size (p - 1) (by omega) (by omega)).1
      go_wp2_with fail
      refine c4.mono ?_
      rintro e w4 ⟨rfl, b4⟩
      have B4 := Lib.hid (hb3.out.trans (b4.mono hb3.out.size))
      clear b4 c4
      go_wp2
      go_ret
      refine FIN.out _ _ ?_ B4.out
      show strOfNums (dotZ l) ++ strOfNums [101] ++ strOfNums (sgnZ (p - 1)) = _
      rw [T.out, str_app, str_app]
  · have G2 := fun _ : True => g2
    clear g2
    go_enter Tryz.func6, Tryz.ntmps6
    go_wp2_with fail
    refine c1.mono ?_
    rintro e w1 ⟨rfl, rfl⟩
    clear c1
    go_wp2_with fail
    refine c2.mono ?_
    rintro e w2 ⟨D, j, hsh, rfl, d0, d1, j0, j1, b2⟩
    obtain ⟨k1, k2, _, _⟩ := fmtE_len d1 0
    obtain ⟨l, hl⟩ : ∃ l, decZ D = l := ⟨_, rfl⟩
    rw [hl] at k1 k2 ⊢
    obtain ⟨k, hk⟩ : ∃ k, l.length = k := ⟨_, rfl⟩
    have hs := str_size l
    rw [hk] at k1 k2 hs ⊢
    obtain ⟨p, hp⟩ : ∃ p, j + (k : Int) = p := ⟨_, rfl⟩
    rw [hp]
    have hp0 : -400 ≤ p := by omega
    have hp1 : p ≤ 420 := by omega
    have fin : ∀ s w', s = strOfNums (txt l p) → Below w.heap.size w w' → TxIs w r (.returned (.string s)) w' := fun _ _ a b => TxIs.mk hsh hl (by rw [hk, hp]) a (by omega) (by omega) hp0 hp1 b
    have hcases : 21 < p ∨ ((k : Int) ≤ p ∧ p ≤ 21) ∨ (0 < p ∧ p < k) ∨ (-6 < p ∧ p ≤ 0) ∨ p ≤ -6 := by omega
    have B := Lib.hid b2
    have HB := Lib.hid hk
    have FIN := Lib.hid fin
    clear hsh hl hp d0 d1 j0 j1 b2 hk fin
    have armE : (21 < p ∨ p ≤ -6) → (strOfNums (dotZ l)).size ≤ 100 := fun _ => by
      rw [str_size]; unfold dotZ; split
      · have := HB.out; omega
      · have := HB.out; simp; omega
    rcases hcases with h | h | h | h | h
    · have hz := armE (Or.inl h)
      have T := Lib.hid (txt_e (l := l) (Or.inl h) (by have := HB.out; omega))
      have c3 := dotted_ref l (by have := HB.out; omega) (by have := HB.out; omega) w2
      clear armE
      go_wp2_with fail
      refine c3.mono ?_
      rintro e w3 ⟨rfl, q, hq⟩
      have hb3 := Lib.hid (hq ▸ below_drewN B.out q)
      have c4 := small_ref (p - 1) (by omega) (by omega) w3
      clear hq c3
      have hz4 := (sgn_size (p - 1) (by omega) (by omega)).1
      go_wp2_with fail
      refine c4.mono ?_
      rintro e w4 ⟨rfl, b4⟩
      have B4 := Lib.hid (hb3.out.trans (b4.mono hb3.out.size))
      clear b4 c4
      go_wp2
      go_ret
      refine FIN.out _ _ ?_ B4.out
      show strOfNums (dotZ l) ++ strOfNums [101] ++ strOfNums (sgnZ (p - 1)) = _
      rw [T.out, str_app, str_app]
    · obtain ⟨h, h'⟩ := h
      obtain ⟨c, hc⟩ : ∃ c : Nat, p = (k : Int) + c := ⟨(p - k).toNat, by omega⟩
      subst hc
      have g2 := fun _ : True => (show (k : Int) + c - k = c by omega)
      have hc21 : c ≤ 21 := by omega
      have T := Lib.hid (txt_a HB.out h')
      have hs2 : (strOfNums (List.replicate c 48)).size = c := by rw [str_size, List.length_replicate]
      clear armE
      go_wp2_with fail
      refine (zeros_ref c (by omega) w2).mono ?_
      rintro e w3 ⟨rfl, rfl⟩
      go_wp2
      go_ret
      exact FIN.out _ _ (by rw [T.out, str_app]) B.out
    · obtain ⟨h, h'⟩ := h
      obtain ⟨q, hq⟩ : ∃ q : Nat, p = q := ⟨p.toNat, by omega⟩
      subst hq
      have T := Lib.hid (txt_b (l := l) (q := q) (by have := HB.out; omega) (by omega) (by omega))
      have HD := Lib.hid (hs ▸ str_drop l q)
      clear armE
      go_wp2
      go_quiet (fail)
      go_wp2
      go_ret
      refine FIN.out _ _ ?_ (below_drewN B.out _)
      show (strOfNums l).extract 0 q ++ strOfNums [46] ++ (strOfNums l).extract q k = _
      rw [T.out, HD.out, str_take, str_app, str_app]
    · obtain ⟨h, h'⟩ := h
      obtain ⟨c, hc⟩ : ∃ c : Nat, p = -(c : Int) := ⟨(-p).toNat, by omega⟩
      subst hc
      have g2 := fun _ : True => (show - -(c : Int) = c by omega)
      have hc6 : c < 6 := by omega
      have T := Lib.hid (txt_c (l := l) hc6 (by have := HB.out; omega))
      have hs2 : (strOfNums (List.replicate c 48)).size = c := by rw [str_size, List.length_replicate]
      clear armE
      go_wp2_with fail
      refine (zeros_ref c (by omega) w2).mono ?_
      rintro e w3 ⟨rfl, rfl⟩
      go_wp2
      go_ret
      refine FIN.out _ _ ?_ B.out
      show strOfNums [48, 46] ++ strOfNums (List.replicate c 48) ++ strOfNums l = _
      rw [T.out, str_app, str_app]
    · have hz := armE (Or.inr h)
      have T := Lib.hid (txt_e (l := l) (Or.inr h) (by have := HB.out; omega))
      have c3 := dotted_ref l (by have := HB.out; omega) (by have := HB.out; omega) w2
      clear armE
      go_wp2_with fail
      refine c3.mono ?_
      rintro e w3 ⟨rfl, q, hq⟩
      have hb3 := Lib.hid (hq ▸ below_drewN B.out q)
      have c4 := small_ref (p - 1) (by omega) (by omega) w3
      clear hq c3
      have hz4 := (sgn_size (p - 1) (by omega) (by omega)).1
      go_wp2_with fail
      refine c4.mono ?_
      rintro e w4 ⟨rfl, b4⟩
      have B4 := Lib.hid (hb3.out.trans (b4.mono hb3.out.size))
      clear b4 c4
      go_wp2
      go_ret
      refine FIN.out _ _ ?_ B4.out
      show strOfNums (dotZ l) ++ strOfNums [101] ++ strOfNums (sgnZ (p - 1)) = _
      rw [T.out, str_app, str_app]
end Go.Proofs.YtmhbkilidpbenaaGreatDoor
