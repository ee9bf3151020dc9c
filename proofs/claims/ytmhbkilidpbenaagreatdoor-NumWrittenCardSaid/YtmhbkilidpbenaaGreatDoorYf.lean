/- The contract of the reference's Fewest. Each lemma's conditions stand in its own statement. -/
import Derived.Test.YtmhbkilidpbenaaGreatDoorYe
namespace Go.Proofs.YtmhbkilidpbenaaGreatDoor
open Go.RowKit

theorem leD_ge (x k : Nat) (h : 10 ^ k ≤ x) : k < (leD x).length := by
  induction k generalizing x with
  | zero => rw [Nat.pow_zero] at h; rw [leD_pos (by omega), List.length_cons]; omega
  | succ k ih =>
    have h1 : 0 < x := Nat.lt_of_lt_of_le (Nat.pow_pos (by decide)) h
    rw [leD_pos h1, List.length_cons]
    have := ih (x / 10) (by rw [Nat.pow_succ] at h; omega)
    omega
theorem decZ_len {x k : Nat} (h0 : 10 ^ k ≤ x) (h1 : x < 10 ^ (k + 1)) : (decZ x).length = k + 1 := by
  have hx : 0 < x := Nat.lt_of_lt_of_le (Nat.pow_pos (by decide)) h0
  unfold decZ asc
  rw [if_neg (by omega), List.length_map, List.length_reverse]
  have := leD_len x (k + 1) h1
  have := leD_ge x k h0
  omega
theorem str_size (l : List Int) : (strOfNums l).size = l.length := by simp [strOfNums, ByteArray.size]
theorem decZ_one : strOfNums (decZ 1) = ⟨#[49]⟩ := by decide +kernel
theorem low_ge {r : Nat} {n : Int} {k : Nat} (hp : PointIs r n) (hn : -330 ≤ n) (hk1 : 1 ≤ k) (hk : k ≤ 17) : 10 ^ (k - 1) ≤ lowAt r n k := by
  obtain ⟨h1, h2⟩ := low_between (r := r) (k := k) hn hk
  have h3 := (point_u hp hn).2
  rw [show (n + 400).toNat - 1 = (n + 400).toNat - k + (k - 1) by omega, U10_add] at h3
  have := Nat.lt_of_mul_lt_mul_right (Nat.lt_of_le_of_lt h3 h2)
  omega
theorem ten_le17 {k : Nat} (hk : k ≤ 17) : 10 ^ k ≤ 100000000000000000 := Nat.pow_le_pow_right (n := 10) (by decide) hk
theorem none_next {r : Nat} {n : Int} {k : Nat} (h : NoneAt r n k) (h1 : ¬ TellsAt r n k (lowAt r n k)) (h2 : ¬ TellsAt r n k (lowAt r n k + 1)) : NoneAt r n (k + 1) := by
  intro k' a b
  rcases Nat.lt_or_ge k' k with g | g
  · exact h k' a g
  · have : k' = k := by omega
    subst this
    exact ⟨h1, h2⟩
/-- What Fewest answers: the digits of the shortest number and where its point stands. -/
def FewIs (w : World) (r : Nat) (e : Ending) (w' : World) : Prop :=
  ∃ (D : Nat) (j : Int), Shr r D j ∧ e = .returned (.tuple #[.string (strOfNums (decZ D)), .int .i64 (j + (decZ D).length)]) ∧ 0 < D ∧ D < 1000000000000000000 ∧ -400 ≤ j ∧ j ≤ 400 ∧ Below w.heap.size w w'
/-- The end, when the digits fit. -/
theorem few_fit {w w' : World} {r D : Nat} {n : Int} {k : Nat} (h1 : 1 ≤ k) (hk : k ≤ 17) (hn : -330 ≤ n) (hn' : n ≤ 330) (g0 : 10 ^ (k - 1) ≤ D) (g1 : D < 10 ^ k) (hs : Shr r D (n - k)) (hb : Below w.heap.size w w') :
    (decZ D).length = k ∧ FewIs w r (.returned (.tuple #[.string (strOfNums (decZ D)), .int .i64 n])) w' := by
  have hl := decZ_len (k := k - 1) g0 (by rw [show k - 1 + 1 = k by omega]; exact g1)
  rw [show k - 1 + 1 = k by omega] at hl
  have h17 := ten_le17 hk
  have hp : 0 < 10 ^ (k - 1) := Nat.pow_pos (by decide)
  refine ⟨hl, D, n - k, hs, ?_, by omega, by omega, by omega, by omega, hb⟩
  rw [hl, show n - (k : Int) + ((k : Nat) : Int) = n by omega]
theorem few_ten {w w' : World} {r k D : Nat} {n : Int} (hn : -330 ≤ n) (hn' : n ≤ 330) (g : D = 10 ^ k) (hs : Shr r 1 n) (hb : Below w.heap.size w w') :
    (decZ D).length = k + 1 ∧ FewIs w r (.returned (.tuple #[.string ⟨#[49]⟩, .int .i64 (n + 1)])) w' := by
  refine ⟨decZ_len (by omega) (by rw [g, Nat.pow_succ]; have : 0 < 10 ^ k := Nat.pow_pos (by decide); omega), 1, n, hs, ?_, by omega, by omega, by omega, by omega, hb⟩
  have h1 : (decZ 1).length = 1 := by decide +kernel
  rw [decZ_one, h1]
  rfl
set_option maxRecDepth 100000 in
set_option maxHeartbeats 12800000 in
theorem fewest_any (r : Nat) (w : World) (h0 : 0 < r) (hr : r < 9218868437227405312) : Calls Tryz.prog 16 #[.float .f64 r] w (FewIs w r) := by
  have c1 := point_any r w h0 hr
  have HR := Lib.hid hr
  clear hr
  go_enter Tryz.func16, Tryz.ntmps16
  go_wp2_with fail
  refine c1.mono ?_
  rintro e w0 ⟨n, rfl, hpt, n0, n1, hbl0⟩
  have HPT := Lib.hid hpt
  clear c1 hpt
  go_wp2
  go_loopw [5, 6, 7, 8, 9, 10, 11, 12, 13, 14, 15, 16] (fun kv _ _ _ _ _ _ _ _ _ _ _  wr => ∃ K : Nat, kv = .int .i64 K ∧ 1 ≤ K ∧ K ≤ 17 ∧ NoneAt r n K ∧ Below w.heap.size w wr) (fun kv _ _ _ _ _ _ _ _ _ _ _  _ => (18 - intOf kv).toNat)
  case atStart => exact ⟨1, rfl, by omega, by omega, fun k' a b => by omega, hbl0⟩
  case round =>
    obtain ⟨K, rfl, K1, K17, hnone, hbl⟩ := hrel
    have HNO := Lib.hid hnone
    obtain ⟨M, hM, hP, hQ⟩ := sc_pw r (K - n) HR.out (by omega) (by omega)
    have lowge := low_ge HPT.out n0 K1 K17
    have lowlt := low_lt HPT.out n0 K17
    have h17 := ten_le17 K17
    have hpw : 0 < 10 ^ (K - 1) := Nat.pow_pos (by decide)
    obtain ⟨low, hlow⟩ : ∃ l, lowAt r n K = l := ⟨_, rfl⟩
    obtain ⟨left, hleft⟩ : ∃ l, leftAt r n K = l := ⟨_, rfl⟩
    have hlow' : scP r (K - n) / scQ r (K - n) = low := hlow
    have hleft' : scP r (K - n) % scQ r (K - n) = left := hleft
    have hQp := scQ_pos r (K - n)
    rw [hlow] at lowge lowlt
    have low1 : 1 ≤ low := by omega
    have lowb : low < 100000000000000000 := by omega
    have hpre : scP r (K - n) < 2305843009213693952 * scQ r (K - n) := by
      have h1 := Nat.lt_div_mul_add (a := scP r (K - n)) hQp
      rw [hlow'] at h1
      have h2 : (low + 1) * scQ r (K - n) ≤ 2305843009213693952 * scQ r (K - n) := Nat.mul_le_mul_right _ (by omega)
      rw [Nat.add_mul, Nat.one_mul] at h2
      omega
    have hll : left < scQ r (K - n) := by rw [← hleft']; exact Nat.mod_lt _ hQp
    have HP := Lib.hid hP
    have HQ := Lib.hid hQ
    have HPRE := Lib.hid hpre
    have HLOW := Lib.hid hlow
    have HLEFT := Lib.hid hleft
    have HLOWD := Lib.hid hlow'
    have HLEFTD := Lib.hid hleft'
    have HGE := Lib.hid lowge
    have HLT := Lib.hid lowlt
    have HLL := Lib.hid hll
    clear hP hQ hpre hlow hleft hlow' hleft' lowge lowlt hll hQp h17 hpw hnone hbl0 w0
    have HLB := Lib.hid lowb
    have hwr : IntKind.u64.wrap ((low : Int) + 1) = ((low + 1 : Nat) : Int) := by rw [IntWalk.u64_in _ (by omega)]; omega
    clear lowb
    go_wp2_with fail
    refine (sc_any r (K - n) HR.out (by omega) (by omega) wr).mono ?_
    rintro e1 w1 ⟨vp, vq, rfl, ip, iq, b1⟩
    have hbl1 := hbl.trans (b1.mono hbl.size)
    clear b1 hbl
    have c2 := quo_any vp vq _ _ M w1 HP.out HQ.out (by omega) HPRE.out ip iq
    rw [HLOWD.out, HLEFTD.out] at c2
    go_wp2_with fail
    refine c2.mono ?_
    rintro e2 w2 ⟨vl, rfl, il, b2⟩
    have hbl2 := hbl1.trans (b2.mono hbl1.size)
    have iq2 := iq.below b2
    clear c2 b2 hbl1 ip iq
    go_wp2_with fail
    refine (nat_any low w2 (by have := HLB.out; omega)).mono ?_
    rintro e3 w3 ⟨va, rfl, ia, b3⟩
    have hbl3 := hbl2.trans (b3.mono hbl2.size)
    have iq3 := iq2.below b3
    have il3 := il.below b3
    clear b3 hbl2 iq2 il
    go_wp2_with fail
    refine (nat_any (low + 1) w3 (by have := HLB.out; omega)).mono ?_
    rintro e4 w4 ⟨vb, rfl, ib, b4⟩
    have hbl4 := hbl3.trans (b4.mono hbl3.size)
    have iq4 := iq3.below b4
    have il4 := il3.below b4
    have ia4 := ia.below b4
    clear b4 hbl3 iq3 il3 ia
    go_wp2_with fail
    refine (decimal_any va low 4 (n - K) w4 (by omega) (u64_pw (by have := HLB.out; omega)) (by omega) (by omega) (by omega) ia4).mono ?_
    rintro e5 w5 ⟨R1, rfl, hR1, b5⟩
    have hbl5 := hbl4.trans (b5.mono hbl4.size)
    have iq5 := iq4.below b5
    have il5 := il4.below b5
    have ia5 := ia4.below b5
    have ib5 := ib.below b5
    clear b5 hbl4 iq4 il4 ia4 ib
    go_wp2_with fail
    refine (decimal_any vb (low + 1) 4 (n - K) w5 (by omega) (u64_pw (by have := HLB.out; omega)) (by omega) (by omega) (by omega) ib5).mono ?_
    rintro e6 w6 ⟨R2, rfl, hR2, b6⟩
    have hbl6 := hbl5.trans (b6.mono hbl5.size)
    have iq6 := iq5.below b6
    have il6 := il5.below b6
    have ia6 := ia5.below b6
    have ib6 := ib5.below b6
    clear b6 hbl5 iq5 il5 ia5 ib5
    have t1 : R1 = r ↔ TellsAt r n K low := by
      have := hR1.2 r h0 HR.out
      rw [show -(n - (K : Int)) = K - n by omega] at this
      exact this
    have t2 : R2 = r ↔ TellsAt r n K (low + 1) := by
      have := hR2.2 r h0 HR.out
      rw [show -(n - (K : Int)) = K - n by omega] at this
      exact this
    have e1e : (FloatKind.f64.format.order R1 r == some .eq) = decide (R1 = r) := f_eq hR1.1 (Nat.le_of_lt HR.out)
    have e2e : (FloatKind.f64.format.order R2 r == some .eq) = decide (R2 = r) := f_eq hR2.1 (Nat.le_of_lt HR.out)
    have e1n : (FloatKind.f64.format.order R1 r != some .eq) = !decide (R1 = r) := by rw [← e1e]; rfl
    have e2n : (FloatKind.f64.format.order R2 r != some .eq) = !decide (R2 = r) := by rw [← e2e]; rfl
    have T1 := Lib.hid t1
    have T2 := Lib.hid t2
    have HLL2 := Lib.hid (lt_pw_of (k := M + 1) (Int.lt_trans (show (left : Int) < (scQ r (K - n) : Nat) by have := HLL.out; omega) HQ.out) (by omega))
    have HLL3 := Lib.hid (dbl_pw (Int.lt_trans (show (left : Int) < (scQ r (K - n) : Nat) by have := HLL.out; omega) HQ.out))
    have HQ2 := Lib.hid (lt_pw_of (k := M + 1) HQ.out (by omega))
    clear hR1 hR2 t1 t2 low1
    by_cases g1 : TellsAt r n K low
    · by_cases g2 : TellsAt r n K (low + 1)
      · have d1 : decide (R1 = r) = true := decide_eq_true (T1.out.2 g1)
        rw [d1] at e1e e1n
        have e1x : (FloatKind.f64.format.order R1 r != some .eq) = false := e1n
        clear e1n d1
        have d2 : decide (R2 = r) = true := decide_eq_true (T2.out.2 g2)
        rw [d2] at e2e e2n
        have e2x : (FloatKind.f64.format.order R2 r != some .eq) = false := e2n
        clear e2n d2
        go_wp2_with fail
        refine (add_any _ _ left left (M + 1) w6 HLL2.out HLL2.out (by omega) il6 il6).mono ?_
        rintro e7 w7 ⟨vd, rfl, id7, b7⟩
        have hbl7 := hbl6.trans (b7.mono hbl6.size)
        have iq7 := iq6.below b7
        have ia7 := ia6.below b7
        have ib7 := ib6.below b7
        clear b7 hbl6 iq6 il6 ia6 ib6
        go_wp2_with fail
        refine (cmp_any _ _ (left + left) _ (M + 1) w7 HLL3.out HQ2.out (by omega) id7 iq7).mono ?_
        rintro e8 w8 ⟨cc, rfl, ⟨hc1, hc2⟩, q8, rfl⟩
        have ia8 : IsN (w7.drewN q8) va low := ia7
        have ib8 : IsN (w7.drewN q8) vb (low + 1) := ib7
        have hbl8 : Below w.heap.size w (w7.drewN q8) := below_drewN hbl7 q8
        clear id7 iq7 hbl7 ia7 ib7
        obtain ⟨w9, hw9⟩ : ∃ w9, w7.drewN q8 = w9 := ⟨_, rfl⟩
        rw [hw9] at ia8 ib8 hbl8 ⊢
        clear hw9
        rcases Int.lt_trichotomy 0 cc with hcmp | hcmp | hcmp
        · have hlt := hc2.1 hcmp
          have ht1 : decide ((0 : Int) < cc) = true := decide_eq_true (by omega)
          have HD := Lib.hid (few_end (D := low + 1) h0 HPT.out n0 K1 K17 HNO.out (.inl (by rw [HLOW.out]; exact g1)) (.inl ⟨by rw [HLOW.out], by rw [HLOW.out]; exact g2, by rw [HLOW.out, HLEFT.out]; exact fun _ => by omega⟩))
          clear hc1 hc2
          go_wp2_with fail
          refine (digits_any _ low 4 w9 (u64_pw (by have := HLB.out; omega)) (by omega) ia8).mono ?_
          rintro e9 w10 ⟨rfl, b10⟩
          have hbl10 := hbl8.trans (b10.mono hbl8.size)
          have ib10 := ib8.below b10
          clear b10 hbl8 ia8 ib8
          go_wp2_with fail
          refine (digits_any _ (low + 1) 4 w10 (u64_pw (by have := HLB.out; omega)) (by omega) ib10).mono ?_
          rintro e11 w11 ⟨rfl, b11⟩
          have hbl11 := hbl10.trans (b11.mono hbl10.size)
          clear b11 hbl10 ib10
          by_cases hten : low + 1 = 10 ^ K
          · have hs := (HD.out.2.2.2 hten).2
            obtain ⟨hlen, hfin⟩ := few_ten (w := w) n0 n1 hten hs hbl11
            have HFIN := Lib.hid hfin
            have hsz : decide ((K : Int) < ((strOfNums (decZ (low + 1))).size : Int)) = true := decide_eq_true (by rw [str_size, hlen]; omega)
            have hsz2 : decide (K < (strOfNums (decZ (low + 1))).size) = true := decide_eq_true (by rw [str_size, hlen]; omega)
            clear hfin hlen hs hten
            go_wp2
            go_ret2
            exact HFIN.out
          · obtain ⟨hlen, hfin⟩ := few_fit (w := w) K1 K17 n0 n1 HD.out.1 (Nat.lt_of_le_of_ne HD.out.2.1 hten) (HD.out.2.2.1 (Nat.lt_of_le_of_ne HD.out.2.1 hten)) hbl11
            have HFIN := Lib.hid hfin
            have hsz : decide ((K : Int) < ((strOfNums (decZ (low + 1))).size : Int)) = false := decide_eq_false (by rw [str_size, hlen]; omega)
            have hsz2 : decide (K < (strOfNums (decZ (low + 1))).size) = false := decide_eq_false (by rw [str_size, hlen]; omega)
            clear hfin hlen hten
            go_wp2
            go_ret2
            exact HFIN.out
        · subst hcmp
          have hlq : left + left = scQ r (K - n) := by omega
          by_cases hpar : low % 2 = 1
          · have ht2 : ((low : Int) % 2 == 1) = true := by simp; omega
            have HD := Lib.hid (few_end (D := low + 1) h0 HPT.out n0 K1 K17 HNO.out (.inl (by rw [HLOW.out]; exact g1)) (.inl ⟨by rw [HLOW.out], by rw [HLOW.out]; exact g2, by rw [HLOW.out, HLEFT.out]; exact fun _ => by omega⟩))
            clear hc1 hc2
            go_wp2_with fail
            refine (digits_any _ low 4 w9 (u64_pw (by have := HLB.out; omega)) (by omega) ia8).mono ?_
            rintro e9 w10 ⟨rfl, b10⟩
            have hbl10 := hbl8.trans (b10.mono hbl8.size)
            have ib10 := ib8.below b10
            clear b10 hbl8 ia8 ib8
            go_wp2_with fail
            refine (digits_any _ (low + 1) 4 w10 (u64_pw (by have := HLB.out; omega)) (by omega) ib10).mono ?_
            rintro e11 w11 ⟨rfl, b11⟩
            have hbl11 := hbl10.trans (b11.mono hbl10.size)
            clear b11 hbl10 ib10
            by_cases hten : low + 1 = 10 ^ K
            · have hs := (HD.out.2.2.2 hten).2
              obtain ⟨hlen, hfin⟩ := few_ten (w := w) n0 n1 hten hs hbl11
              have HFIN := Lib.hid hfin
              have hsz : decide ((K : Int) < ((strOfNums (decZ (low + 1))).size : Int)) = true := decide_eq_true (by rw [str_size, hlen]; omega)
              have hsz2 : decide (K < (strOfNums (decZ (low + 1))).size) = true := decide_eq_true (by rw [str_size, hlen]; omega)
              clear hfin hlen hs hten
              go_wp2
              go_ret2
              exact HFIN.out
            · obtain ⟨hlen, hfin⟩ := few_fit (w := w) K1 K17 n0 n1 HD.out.1 (Nat.lt_of_le_of_ne HD.out.2.1 hten) (HD.out.2.2.1 (Nat.lt_of_le_of_ne HD.out.2.1 hten)) hbl11
              have HFIN := Lib.hid hfin
              have hsz : decide ((K : Int) < ((strOfNums (decZ (low + 1))).size : Int)) = false := decide_eq_false (by rw [str_size, hlen]; omega)
              have hsz2 : decide (K < (strOfNums (decZ (low + 1))).size) = false := decide_eq_false (by rw [str_size, hlen]; omega)
              clear hfin hlen hten
              go_wp2
              go_ret2
              exact HFIN.out
          · have ht2 : ((low : Int) % 2 == 1) = false := by simp; omega
            have HD := Lib.hid (few_end (D := low) h0 HPT.out n0 K1 K17 HNO.out (.inl (by rw [HLOW.out]; exact g1)) (.inr ⟨by rw [HLOW.out], by rw [HLOW.out]; exact g1, by rw [HLOW.out, HLEFT.out]; exact fun _ => by omega⟩))
            clear hc1 hc2
            go_wp2_with fail
            refine (digits_any _ low 4 w9 (u64_pw (by have := HLB.out; omega)) (by omega) ia8).mono ?_
            rintro e9 w10 ⟨rfl, b10⟩
            have hbl10 := hbl8.trans (b10.mono hbl8.size)
            clear b10 hbl8 ia8 ib8
            obtain ⟨hlen, hfin⟩ := few_fit (w := w) K1 K17 n0 n1 HD.out.1 HLT.out (HD.out.2.2.1 HLT.out) hbl10
            have HFIN := Lib.hid hfin
            have hsz : decide ((K : Int) < ((strOfNums (decZ low)).size : Int)) = false := decide_eq_false (by rw [str_size, hlen]; omega)
            have hsz2 : decide (K < (strOfNums (decZ low)).size) = false := decide_eq_false (by rw [str_size, hlen]; omega)
            clear hfin hlen
            go_wp2
            go_ret2
            exact HFIN.out
        · have hlt := hc1.1 hcmp
          have ht1 : decide ((0 : Int) < cc) = false := decide_eq_false (by omega)
          have ht2 : (cc == 0) = false := by simp; omega
          have HD := Lib.hid (few_end (D := low) h0 HPT.out n0 K1 K17 HNO.out (.inl (by rw [HLOW.out]; exact g1)) (.inr ⟨by rw [HLOW.out], by rw [HLOW.out]; exact g1, by rw [HLOW.out, HLEFT.out]; exact fun _ => by omega⟩))
          clear hc1 hc2
          go_wp2_with fail
          refine (digits_any _ low 4 w9 (u64_pw (by have := HLB.out; omega)) (by omega) ia8).mono ?_
          rintro e9 w10 ⟨rfl, b10⟩
          have hbl10 := hbl8.trans (b10.mono hbl8.size)
          clear b10 hbl8 ia8 ib8
          obtain ⟨hlen, hfin⟩ := few_fit (w := w) K1 K17 n0 n1 HD.out.1 HLT.out (HD.out.2.2.1 HLT.out) hbl10
          have HFIN := Lib.hid hfin
          have hsz : decide ((K : Int) < ((strOfNums (decZ low)).size : Int)) = false := decide_eq_false (by rw [str_size, hlen]; omega)
          have hsz2 : decide (K < (strOfNums (decZ low)).size) = false := decide_eq_false (by rw [str_size, hlen]; omega)
          clear hfin hlen
          go_wp2
          go_ret2
          exact HFIN.out
      · have d1 : decide (R1 = r) = true := decide_eq_true (T1.out.2 g1)
        rw [d1] at e1e e1n
        have e1x : (FloatKind.f64.format.order R1 r != some .eq) = false := e1n
        clear e1n d1
        have d2 : decide (R2 = r) = false := decide_eq_false (fun h => g2 (T2.out.1 h))
        rw [d2] at e2e e2n
        have e2x : (FloatKind.f64.format.order R2 r != some .eq) = true := e2n
        clear e2n d2
        go_wp2_with fail
        refine (add_any _ _ left left (M + 1) w6 HLL2.out HLL2.out (by omega) il6 il6).mono ?_
        rintro e7 w7 ⟨vd, rfl, id7, b7⟩
        have hbl7 := hbl6.trans (b7.mono hbl6.size)
        have iq7 := iq6.below b7
        have ia7 := ia6.below b7
        have ib7 := ib6.below b7
        clear b7 hbl6 iq6 il6 ia6 ib6
        go_wp2_with fail
        refine (cmp_any _ _ (left + left) _ (M + 1) w7 HLL3.out HQ2.out (by omega) id7 iq7).mono ?_
        rintro e8 w8 ⟨cc, rfl, ⟨hc1, hc2⟩, q8, rfl⟩
        have ia8 : IsN (w7.drewN q8) va low := ia7
        have ib8 : IsN (w7.drewN q8) vb (low + 1) := ib7
        have hbl8 : Below w.heap.size w (w7.drewN q8) := below_drewN hbl7 q8
        clear id7 iq7 hbl7 ia7 ib7
        obtain ⟨w9, hw9⟩ : ∃ w9, w7.drewN q8 = w9 := ⟨_, rfl⟩
        rw [hw9] at ia8 ib8 hbl8 ⊢
        clear hw9
        have HD := Lib.hid (few_end (D := low) h0 HPT.out n0 K1 K17 HNO.out (.inl (by rw [HLOW.out]; exact g1)) (.inr ⟨by rw [HLOW.out], by rw [HLOW.out]; exact g1, by rw [HLOW.out]; exact fun h => absurd h g2⟩))
        clear hc1 hc2
        go_wp2_with fail
        refine (digits_any _ low 4 w9 (u64_pw (by have := HLB.out; omega)) (by omega) ia8).mono ?_
        rintro e9 w10 ⟨rfl, b10⟩
        have hbl10 := hbl8.trans (b10.mono hbl8.size)
        clear b10 hbl8 ia8 ib8
        obtain ⟨hlen, hfin⟩ := few_fit (w := w) K1 K17 n0 n1 HD.out.1 HLT.out (HD.out.2.2.1 HLT.out) hbl10
        have HFIN := Lib.hid hfin
        have hsz : decide ((K : Int) < ((strOfNums (decZ low)).size : Int)) = false := decide_eq_false (by rw [str_size, hlen]; omega)
        have hsz2 : decide (K < (strOfNums (decZ low)).size) = false := decide_eq_false (by rw [str_size, hlen]; omega)
        clear hfin hlen
        go_wp2
        go_ret2
        exact HFIN.out
    · by_cases g2 : TellsAt r n K (low + 1)
      · have d1 : decide (R1 = r) = false := decide_eq_false (fun h => g1 (T1.out.1 h))
        rw [d1] at e1e e1n
        have e1x : (FloatKind.f64.format.order R1 r != some .eq) = true := e1n
        clear e1n d1
        have d2 : decide (R2 = r) = true := decide_eq_true (T2.out.2 g2)
        rw [d2] at e2e e2n
        have e2x : (FloatKind.f64.format.order R2 r != some .eq) = false := e2n
        clear e2n d2
        go_wp2_with fail
        refine (add_any _ _ left left (M + 1) w6 HLL2.out HLL2.out (by omega) il6 il6).mono ?_
        rintro e7 w7 ⟨vd, rfl, id7, b7⟩
        have hbl7 := hbl6.trans (b7.mono hbl6.size)
        have iq7 := iq6.below b7
        have ia7 := ia6.below b7
        have ib7 := ib6.below b7
        clear b7 hbl6 iq6 il6 ia6 ib6
        go_wp2_with fail
        refine (cmp_any _ _ (left + left) _ (M + 1) w7 HLL3.out HQ2.out (by omega) id7 iq7).mono ?_
        rintro e8 w8 ⟨cc, rfl, ⟨hc1, hc2⟩, q8, rfl⟩
        have ia8 : IsN (w7.drewN q8) va low := ia7
        have ib8 : IsN (w7.drewN q8) vb (low + 1) := ib7
        have hbl8 : Below w.heap.size w (w7.drewN q8) := below_drewN hbl7 q8
        clear id7 iq7 hbl7 ia7 ib7
        obtain ⟨w9, hw9⟩ : ∃ w9, w7.drewN q8 = w9 := ⟨_, rfl⟩
        rw [hw9] at ia8 ib8 hbl8 ⊢
        clear hw9
        have HD := Lib.hid (few_end (D := low + 1) h0 HPT.out n0 K1 K17 HNO.out (.inr (by rw [HLOW.out]; exact g2)) (.inl ⟨by rw [HLOW.out], by rw [HLOW.out]; exact g2, by rw [HLOW.out]; exact fun h => absurd h g1⟩))
        clear hc1 hc2
        go_wp2_with fail
        refine (digits_any _ low 4 w9 (u64_pw (by have := HLB.out; omega)) (by omega) ia8).mono ?_
        rintro e9 w10 ⟨rfl, b10⟩
        have hbl10 := hbl8.trans (b10.mono hbl8.size)
        have ib10 := ib8.below b10
        clear b10 hbl8 ia8 ib8
        go_wp2_with fail
        refine (digits_any _ (low + 1) 4 w10 (u64_pw (by have := HLB.out; omega)) (by omega) ib10).mono ?_
        rintro e11 w11 ⟨rfl, b11⟩
        have hbl11 := hbl10.trans (b11.mono hbl10.size)
        clear b11 hbl10 ib10
        by_cases hten : low + 1 = 10 ^ K
        · have hs := (HD.out.2.2.2 hten).2
          obtain ⟨hlen, hfin⟩ := few_ten (w := w) n0 n1 hten hs hbl11
          have HFIN := Lib.hid hfin
          have hsz : decide ((K : Int) < ((strOfNums (decZ (low + 1))).size : Int)) = true := decide_eq_true (by rw [str_size, hlen]; omega)
          have hsz2 : decide (K < (strOfNums (decZ (low + 1))).size) = true := decide_eq_true (by rw [str_size, hlen]; omega)
          clear hfin hlen hs hten
          go_wp2
          go_ret2
          exact HFIN.out
        · obtain ⟨hlen, hfin⟩ := few_fit (w := w) K1 K17 n0 n1 HD.out.1 (Nat.lt_of_le_of_ne HD.out.2.1 hten) (HD.out.2.2.1 (Nat.lt_of_le_of_ne HD.out.2.1 hten)) hbl11
          have HFIN := Lib.hid hfin
          have hsz : decide ((K : Int) < ((strOfNums (decZ (low + 1))).size : Int)) = false := decide_eq_false (by rw [str_size, hlen]; omega)
          have hsz2 : decide (K < (strOfNums (decZ (low + 1))).size) = false := decide_eq_false (by rw [str_size, hlen]; omega)
          clear hfin hlen hten
          go_wp2
          go_ret2
          exact HFIN.out
      · have d1 : decide (R1 = r) = false := decide_eq_false (fun h => g1 (T1.out.1 h))
        rw [d1] at e1e e1n
        have e1x : (FloatKind.f64.format.order R1 r != some .eq) = true := e1n
        clear e1n d1
        have d2 : decide (R2 = r) = false := decide_eq_false (fun h => g2 (T2.out.1 h))
        rw [d2] at e2e e2n
        have e2x : (FloatKind.f64.format.order R2 r != some .eq) = true := e2n
        clear e2n d2
        have hK16 : K ≠ 17 := by
          intro h
          subst h
          rcases few_stop h0 HPT.out n0 with h | h
          · exact g1 (by rw [← HLOW.out]; exact h)
          · exact g2 (by rw [← HLOW.out]; exact h)
        have HNN := Lib.hid (none_next HNO.out (by rw [HLOW.out]; exact g1) (by rw [HLOW.out]; exact g2))
        clear g1 g2
        go_wp2
        go_roundw
        case rel => exact ⟨K + 1, by go_num, by omega, by omega, HNN.out, hbl6⟩
        case measure => simp [intOf]; omega
end Go.Proofs.YtmhbkilidpbenaaGreatDoor
