/- The contract of the reference's Ratio. -/
import Derived.Test.YtmhbkilidpbenaaGreatDoorX
namespace Go.Proofs.YtmhbkilidpbenaaGreatDoor
open Go.RowKit

theorem blen_le {x m : Nat} (h : (x : Int) < pw m) : blen x ≤ 16 * m := by
  rw [pw_two] at h
  unfold blen
  split
  · omega
  · have := (Nat.log2_lt (n := x) (k := 16 * m) (by omega)).2 (by omega)
    omega
theorem rAB_lt {p q m : Nat} {X : Int} (hp : (p : Int) < pw m) (hq : (q : Int) < pw m) (hm : m ≤ 1000000) (h0 : -20000000 ≤ X) (h1 : X ≤ 20000000) : ∃ M, M ≤ 50000000 ∧ (rA p X : Int) < pw M ∧ (rB q X : Int) < pw M :=
  ⟨m + 20000001, by omega, lt_pw_of (mul_lt_pw hp (pow_lt_pw 2 _ (by decide))) (by omega), lt_pw_of (mul_lt_pw hq (pow_lt_pw 2 _ (by decide))) (by omega)⟩
theorem rinv_le {p q m : Nat} {X : Int} (hq : 0 < q) (hp : (p : Int) < pw m) (h : 9007199254740992 * rB q X ≤ rA p X) (hm : m ≤ 1000000) : X ≤ 16000000 := by
  rcases Int.lt_or_le 16000000 X with h1 | h1
  · exfalso
    rw [pw_two] at hp
    unfold rA rB at h
    rw [show (-X).toNat = 0 by omega, Nat.pow_zero, Nat.mul_one] at h
    have h2 : 2 ^ (16 * m) ≤ 2 ^ X.toNat := Nat.pow_le_pow_right (by decide) (by omega)
    have h3 : 1 * 2 ^ X.toNat ≤ q * 2 ^ X.toNat := Nat.mul_le_mul_right _ hq
    omega
  · exact h1
theorem lt_pw_le {L B M : Nat} (h : L < B) (hB : (B : Int) < pw M) : (L : Int) < pw M := by omega
theorem dbl_pw {L M : Nat} (h : (L : Int) < pw M) : ((L + L : Nat) : Int) < pw (M + 1) := by
  rw [pw_succ]
  omega
theorem rung_inf {n : Nat} {E : Int} (h : 971 < E) (hn : 4503599627370496 ≤ n) : min (rungOf n E) 9218868437227405312 = 9218868437227405312 := by
  unfold rungOf
  omega
set_option exponentiation.threshold 3000 in
set_option maxHeartbeats 6400000 in
set_option maxRecDepth 100000 in
theorem ratio_any (vp vq : Value) (p q m : Nat) (w : World) (hp0 : 0 < p) (hq0 : 0 < q) (hp : (p : Int) < pw m) (hq : (q : Int) < pw m) (hm : m ≤ 1000000) (ha : IsN w vp p) (hb : IsN w vq q) :
    Calls Tryz.prog 64 #[vp, vq] w fun e w' => ∃ R : Nat, e = .returned (.float .f64 R) ∧ RatioIs R p q ∧ Below w.heap.size w w' := by
  have hinit := RInv.init hp0 hq0
  have cbp := bits_any vp p m w hp (by omega) ha
  have HI := Lib.hid hinit
  clear hinit
  obtain ⟨A', n, c, us, rfl, hc, hnm, hra, hca, hva⟩ := ha.len hp
  have hn0 : 0 < n := by
    rcases Nat.eq_zero_or_pos n with h | h
    · have := hca.zero.2 (by rw [hra.1]; exact h)
      omega
    · exact h
  have hb0 : ((n : Int) == 0) = false := by simp; omega
  clear hra hca hva
  go_enter Tryz.func64, Tryz.ntmps64
  go_wp2_with fail
  refine cbp.mono ?_
  rintro e1 w1 ⟨rfl, q1, rfl⟩
  have ha1 : IsN (w.drewN q1) _ p := ha
  have hb1 : IsN (w.drewN q1) vq q := hb
  have cbq := bits_any vq q m _ hq (by omega) hb1
  go_wp2_with fail
  refine cbq.mono ?_
  rintro e2 w2 ⟨rfl, q2, rfl⟩
  have hbl0 : Below w.heap.size w ((w.drewN q1).drewN q2) := below_drewN (below_drewN (Below.refl _ _) _) _
  obtain ⟨w0, hw0⟩ : ∃ w0, (w.drewN q1).drewN q2 = w0 := ⟨_, rfl⟩
  have ha2 : IsN w0 (.slice A' n c) p := by rw [← hw0]; exact ha
  have hb2 : IsN w0 vq q := by rw [← hw0]; exact hb
  rw [hw0] at hbl0 ⊢
  clear hw0 cbp cbq ha1 hb1
  have hbp : blen p ≤ 16 * m := blen_le hp
  have hbq : blen q ≤ 16 * m := blen_le hq
  obtain ⟨bp, hbpe⟩ : ∃ x, blen p = x := ⟨_, rfl⟩
  obtain ⟨bq, hbqe⟩ : ∃ x, blen q = x := ⟨_, rfl⟩
  rw [hbpe] at hbp HI ⊢
  rw [hbqe] at hbq HI ⊢
  clear hbpe hbqe
  go_wp2
  go_loopw [5, 6, 7, 8, 9, 10, 11, 12] (fun ev _ _ _ _ _ _ _ wr => ∃ E : Int, ev = .int .i64 E ∧ -20000000 ≤ E ∧ E ≤ 17000000 ∧ RInv p q E ∧ IsN wr (.slice A' n c) p ∧ IsN wr vq q ∧ Below w.heap.size w wr) (fun ev _ _ _ _ _ _ _ _ => (17000001 - intOf ev).toNat)
  case atStart => exact ⟨_, rfl, by omega, by omega, HI.out, ha2, hb2, hbl0⟩
  case round =>
    obtain ⟨E, rfl, hE0, hE1, hR, hva, hvb, hbl⟩ := hrel
    have HR := Lib.hid hR
    have HP := Lib.hid hp
    have HQ := Lib.hid hq
    clear hR HI ha2 hb2 hbl0 w0 hp hq
    by_cases hE : E < -1074
    · have HR2 := Lib.hid (HR.out.clip hE)
      obtain ⟨A, hAe⟩ : ∃ A, rA p (-1074) = A := ⟨_, rfl⟩
      obtain ⟨B, hBe⟩ : ∃ B, rB q (-1074) = B := ⟨_, rfl⟩
      obtain ⟨M, hM, hAm, hBm⟩ : ∃ M, M ≤ 50000000 ∧ (A : Int) < pw M ∧ (B : Int) < pw M := by rw [← hAe, ← hBe]; exact rAB_lt HP.out HQ.out hm (by omega) (by omega)
      have hBpos : 0 < B := by rw [← hBe]; exact rB_pos hq0 _
      have HAe := Lib.hid hAe
      have HBe := Lib.hid hBe
      have HAm := Lib.hid hAm
      have HBm := Lib.hid hBm
      clear hAe hBe hAm hBm
      obtain ⟨T, hT⟩ : ∃ T, 2 ^ (1074 : Int).toNat = T := ⟨_, rfl⟩
      have hTA : p * T = A := by rw [← hT]; exact HAe.out
      have hB0 : B = q := by rw [← HBe.out]; unfold rB; rw [show (-1074 : Int).toNat = 0 by omega, Nat.pow_zero, Nat.mul_one]
      obtain ⟨TM, hTM, hTm⟩ : ∃ TM, TM ≤ 30000000 ∧ (T : Int) < pw TM := ⟨(1074 : Int).toNat + 1, by omega, by rw [← hT]; exact pow_lt_pw 2 _ (by decide)⟩
      obtain ⟨S, hS⟩ : ∃ S, 2 ^ (-1074 : Int).toNat = S := ⟨_, rfl⟩
      have cw1 : ∀ W, Calls Tryz.prog 61 #[.int .u64 2, .int .i64 (-1074)] W fun ee w' => ∃ v, ee = .returned v ∧ IsN w' v S ∧ Below W.heap.size W w' := fun W => by rw [← hS]; exact power_any 2 (-1074) W (by omega) (by omega) (by omega)
      have cw2 : ∀ W, Calls Tryz.prog 61 #[.int .u64 2, .int .i64 (1074)] W fun ee w' => ∃ v, ee = .returned v ∧ IsN w' v T ∧ Below W.heap.size W w' := fun W => by rw [← hT]; exact power_any 2 (1074) W (by omega) (by omega) (by omega)
      have HTm := Lib.hid hTm
      have HTA := Lib.hid hTA
      have HB0 := Lib.hid hB0
      clear hT hS hTm hTA hB0
      go_wp2_with fail
      refine (cw1 _).mono ?_
      rintro e1 w1 ⟨v1, rfl, h1, b1⟩
      have hva1 := hva.below b1
      have hvb1 := hvb.below b1
      have hbl1 := hbl.trans (b1.mono hbl.size)
      clear cw1 h1 b1 hva hvb hbl
      go_wp2_with fail
      refine (cw2 w1).mono ?_
      rintro e2 w2 ⟨v2, rfl, h2, b2⟩
      have hva2 := hva1.below b2
      have hvb2 := hvb1.below b2
      have hbl2 := hbl1.trans (b2.mono hbl1.size)
      clear cw2 b2 hva1 hvb1 hbl1
      go_wp2_with fail
      refine (mul_any _ _ p T m TM w2 HP.out HTm.out (by omega) (by omega) hva2 h2).mono ?_
      rintro e3 w3 ⟨v3, rfl, hA, b3⟩
      rw [HTA.out] at hA
      have hva4 := hva2.below b3
      have hvb4 := hvb2.below b3
      have hblq := hbl2.trans (b3.mono hbl2.size)
      have hB : IsN w3 vq B := by rw [HB0.out]; exact hvb4
      clear b3 hva2 hvb2 hbl2 h2
      have hpre : A < 2305843009213693952 * B := by have h := HR2.out.2; rw [HAe.out, HBe.out] at h; omega
      go_wp2_with fail
      refine (quo_any _ _ A B M w3 HAm.out HBm.out (by omega) hpre hA hB).mono ?_
      rintro e5 w5 ⟨v5, rfl, h5, b5⟩
      obtain ⟨N, hN⟩ : ∃ N, A / B = N := ⟨_, rfl⟩
      obtain ⟨L, hL⟩ : ∃ L, A % B = L := ⟨_, rfl⟩
      have hLB : L < B := by rw [← hL]; exact Nat.mod_lt _ hBpos
      have hN1 : N < 36028797018963968 := by rw [← hN]; have h := HR2.out.2; rw [HAe.out, HBe.out] at h; exact (Nat.div_lt_iff_lt_mul hBpos).2 h
      rw [hN]
      rw [hL] at h5
      have HN := Lib.hid hN
      have HL := Lib.hid hL
      have hbl5 := hblq.trans (b5.mono hblq.size)
      have hva5 := hva4.below b5
      have hvb5 := hvb4.below b5
      have hB5 := hB.below b5
      have HN1 := Lib.hid hN1
      clear hN hL hpre hA hB b5 hva4 hvb4 hN1
      by_cases hbig : 9007199254740992 ≤ N
      · have hge : 9007199254740992 * rB q (-1074) ≤ rA p (-1074) := by rw [HAe.out, HBe.out]; have h := HN.out; exact (Nat.le_div_iff_mul_le hBpos).1 (by rw [h]; exact hbig)
        have HR3 : Hid (RInv p q (-1074 + 1)) := HR2.out.next hge
        have hX16 : -1074 ≤ 16000000 := rinv_le hq0 HP.out hge hm
        have hbt : decide ((9007199254740992 : Int) ≤ (N : Int)) = true := decide_eq_true (by omega)
        clear hbig hge
        go_wp2
        go_roundw
        case rel => exact ⟨-1074 + 1, by go_num, by omega, by omega, HR3.out, hva5, hvb5, hbl5⟩
        case measure => simp [intOf]; omega
      · have hbt : decide ((9007199254740992 : Int) ≤ (N : Int)) = false := decide_eq_false (by omega)
        have HBIG := Lib.hid hbig
        clear hbig
        go_wp2_with fail
        refine (add_any _ _ L L M w5 (lt_pw_le hLB HBm.out) (lt_pw_le hLB HBm.out) (by omega) h5 h5).mono ?_
        rintro e6 w6 ⟨v6, rfl, h6, b6⟩
        have hB6 := hB5.below b6
        have hbl6 := hbl5.trans (b6.mono hbl5.size)
        clear h5 hva5 hvb5 hB5 b6
        go_wp2_with fail
        refine (cmp_any _ _ (L + L) B (M + 1) w6 (dbl_pw (lt_pw_le hLB HBm.out)) (lt_pw_of HBm.out (by omega)) (by omega) h6 hB6).mono ?_
        rintro e7 w7 ⟨cc, rfl, ⟨hc1, hc2⟩, q7, rfl⟩
        have hbl7 : Below w.heap.size w (w6.drewN q7) := below_drewN hbl6 q7
        clear h6 hB6 hbl6
        rcases Nat.lt_trichotomy B (L + L) with hcmp | hcmp | hcmp
        · obtain ⟨hnn, hend⟩ := ratio_end (n := N) (up := (N + 1)) hq0 (by omega) HR2.out (by rw [HAe.out, HBe.out]; exact HN.out) (by have := HBIG.out; omega) (by rw [HAe.out, HBe.out, HL.out]; rw [if_pos (Or.inl (by omega))])
          have ht1 : decide ((0 : Int) < cc) = true := decide_eq_true (by omega)
          have hwr : IntKind.u64.wrap ((N : Int) + 1) = (N : Int) + 1 := IntWalk.u64_in _ (by have := HN1.out; omega)
          have hwn : ((N : Int) + 1).toNat = N + 1 := by omega
          have cl : ∀ W, Calls Tryz.prog 85 #[.float .f64 (floatOfInt .f64 ((N : Int) + 1)), .int .i64 (-1074)] W fun ee w' => ee = .returned (.float .f64 (min (rungOf (N + 1) (-1074)) 9218868437227405312)) ∧ W = w' := fun W => by
            have h := ldexp_nat (N + 1) (-1074) W (by have := HBIG.out; omega) (by omega) (by omega) (by rcases hnn with h | h <;> omega)
            have e : ((N + 1 : Nat) : Int) = (N : Int) + 1 := by omega
            rw [e] at h
            exact h
          have HEND := Lib.hid hend
          clear hend hnn hc1 hc2 hcmp
          go_wp2_with fail
          refine (cl _).mono ?_
          rintro e8 w8 ⟨rfl, rfl⟩
          go_wp2
          go_ret
          exact ⟨_, rfl, HEND.out, hbl7⟩
        · by_cases hpar : N % 2 = 1
          · obtain ⟨hnn, hend⟩ := ratio_end (n := N) (up := (N + 1)) hq0 (by omega) HR2.out (by rw [HAe.out, HBe.out]; exact HN.out) (by have := HBIG.out; omega) (by rw [HAe.out, HBe.out, HL.out]; rw [if_pos (Or.inr ⟨by omega, by omega⟩)])
            have hcc0 : cc = 0 := by omega
            subst hcc0
            have ht2 : ((N : Int) % 2 == 1) = true := by simp; omega
            have hwr : IntKind.u64.wrap ((N : Int) + 1) = (N : Int) + 1 := IntWalk.u64_in _ (by have := HN1.out; omega)
            have hwn : ((N : Int) + 1).toNat = N + 1 := by omega
            have cl : ∀ W, Calls Tryz.prog 85 #[.float .f64 (floatOfInt .f64 ((N : Int) + 1)), .int .i64 (-1074)] W fun ee w' => ee = .returned (.float .f64 (min (rungOf (N + 1) (-1074)) 9218868437227405312)) ∧ W = w' := fun W => by
              have h := ldexp_nat (N + 1) (-1074) W (by have := HBIG.out; omega) (by omega) (by omega) (by rcases hnn with h | h <;> omega)
              have e : ((N + 1 : Nat) : Int) = (N : Int) + 1 := by omega
              rw [e] at h
              exact h
            have HEND := Lib.hid hend
            clear hend hnn hc1 hc2 hcmp hpar
            go_wp2_with fail
            refine (cl _).mono ?_
            rintro e8 w8 ⟨rfl, rfl⟩
            go_wp2
            go_ret
            exact ⟨_, rfl, HEND.out, hbl7⟩
          · obtain ⟨hnn, hend⟩ := ratio_end (n := N) (up := N) hq0 (by omega) HR2.out (by rw [HAe.out, HBe.out]; exact HN.out) (by have := HBIG.out; omega) (by rw [HAe.out, HBe.out, HL.out]; rw [if_neg (by omega)])
            have hcc0 : cc = 0 := by omega
            subst hcc0
            have ht2 : ((N : Int) % 2 == 1) = false := by simp; omega
            have cl : ∀ W, Calls Tryz.prog 85 #[.float .f64 (floatOfInt .f64 (N : Int)), .int .i64 (-1074)] W fun ee w' => ee = .returned (.float .f64 (min (rungOf N (-1074)) 9218868437227405312)) ∧ W = w' := fun W => by
              have h := ldexp_nat N (-1074) W (by have := HBIG.out; omega) (by omega) (by omega) (by rcases hnn with h | h <;> omega)
              exact h
            have HEND := Lib.hid hend
            clear hend hnn hc1 hc2 hcmp hpar
            go_wp2_with fail
            refine (cl _).mono ?_
            rintro e8 w8 ⟨rfl, rfl⟩
            go_wp2
            go_ret
            exact ⟨_, rfl, HEND.out, hbl7⟩
        · obtain ⟨hnn, hend⟩ := ratio_end (n := N) (up := N) hq0 (by omega) HR2.out (by rw [HAe.out, HBe.out]; exact HN.out) (by have := HBIG.out; omega) (by rw [HAe.out, HBe.out, HL.out]; rw [if_neg (by omega)])
          have ht1 : decide ((0 : Int) < cc) = false := decide_eq_false (by omega)
          have ht2 : (cc == 0) = false := by simp; omega
          have cl : ∀ W, Calls Tryz.prog 85 #[.float .f64 (floatOfInt .f64 (N : Int)), .int .i64 (-1074)] W fun ee w' => ee = .returned (.float .f64 (min (rungOf N (-1074)) 9218868437227405312)) ∧ W = w' := fun W => by
            have h := ldexp_nat N (-1074) W (by have := HBIG.out; omega) (by omega) (by omega) (by rcases hnn with h | h <;> omega)
            exact h
          have HEND := Lib.hid hend
          clear hend hnn hc1 hc2 hcmp
          go_wp2_with fail
          refine (cl _).mono ?_
          rintro e8 w8 ⟨rfl, rfl⟩
          go_wp2
          go_ret
          exact ⟨_, rfl, HEND.out, hbl7⟩
    · have HR2 := HR
      by_cases hE3 : E < 0
      · obtain ⟨A, hAe⟩ : ∃ A, rA p (E) = A := ⟨_, rfl⟩
        obtain ⟨B, hBe⟩ : ∃ B, rB q (E) = B := ⟨_, rfl⟩
        obtain ⟨M, hM, hAm, hBm⟩ : ∃ M, M ≤ 50000000 ∧ (A : Int) < pw M ∧ (B : Int) < pw M := by rw [← hAe, ← hBe]; exact rAB_lt HP.out HQ.out hm (by omega) (by omega)
        have hBpos : 0 < B := by rw [← hBe]; exact rB_pos hq0 _
        have HAe := Lib.hid hAe
        have HBe := Lib.hid hBe
        have HAm := Lib.hid hAm
        have HBm := Lib.hid hBm
        clear hAe hBe hAm hBm
        obtain ⟨T, hT⟩ : ∃ T, 2 ^ (-E : Int).toNat = T := ⟨_, rfl⟩
        have hTA : p * T = A := by rw [← hT]; exact HAe.out
        have hB0 : B = q := by rw [← HBe.out]; unfold rB; rw [show (E : Int).toNat = 0 by omega, Nat.pow_zero, Nat.mul_one]
        obtain ⟨TM, hTM, hTm⟩ : ∃ TM, TM ≤ 30000000 ∧ (T : Int) < pw TM := ⟨(-E : Int).toNat + 1, by omega, by rw [← hT]; exact pow_lt_pw 2 _ (by decide)⟩
        obtain ⟨S, hS⟩ : ∃ S, 2 ^ (E : Int).toNat = S := ⟨_, rfl⟩
        have cw1 : ∀ W, Calls Tryz.prog 61 #[.int .u64 2, .int .i64 (E)] W fun ee w' => ∃ v, ee = .returned v ∧ IsN w' v S ∧ Below W.heap.size W w' := fun W => by rw [← hS]; exact power_any 2 (E) W (by omega) (by omega) (by omega)
        have cw2 : ∀ W, Calls Tryz.prog 61 #[.int .u64 2, .int .i64 (-E)] W fun ee w' => ∃ v, ee = .returned v ∧ IsN w' v T ∧ Below W.heap.size W w' := fun W => by rw [← hT]; exact power_any 2 (-E) W (by omega) (by omega) (by omega)
        have HTm := Lib.hid hTm
        have HTA := Lib.hid hTA
        have HB0 := Lib.hid hB0
        clear hT hS hTm hTA hB0
        go_wp2_with fail
        refine (cw1 _).mono ?_
        rintro e1 w1 ⟨v1, rfl, h1, b1⟩
        have hva1 := hva.below b1
        have hvb1 := hvb.below b1
        have hbl1 := hbl.trans (b1.mono hbl.size)
        clear cw1 h1 b1 hva hvb hbl
        go_wp2_with fail
        refine (cw2 w1).mono ?_
        rintro e2 w2 ⟨v2, rfl, h2, b2⟩
        have hva2 := hva1.below b2
        have hvb2 := hvb1.below b2
        have hbl2 := hbl1.trans (b2.mono hbl1.size)
        clear cw2 b2 hva1 hvb1 hbl1
        go_wp2_with fail
        refine (mul_any _ _ p T m TM w2 HP.out HTm.out (by omega) (by omega) hva2 h2).mono ?_
        rintro e3 w3 ⟨v3, rfl, hA, b3⟩
        rw [HTA.out] at hA
        have hva4 := hva2.below b3
        have hvb4 := hvb2.below b3
        have hblq := hbl2.trans (b3.mono hbl2.size)
        have hB : IsN w3 vq B := by rw [HB0.out]; exact hvb4
        clear b3 hva2 hvb2 hbl2 h2
        have hpre : A < 2305843009213693952 * B := by have h := HR2.out.2; rw [HAe.out, HBe.out] at h; omega
        go_wp2_with fail
        refine (quo_any _ _ A B M w3 HAm.out HBm.out (by omega) hpre hA hB).mono ?_
        rintro e5 w5 ⟨v5, rfl, h5, b5⟩
        obtain ⟨N, hN⟩ : ∃ N, A / B = N := ⟨_, rfl⟩
        obtain ⟨L, hL⟩ : ∃ L, A % B = L := ⟨_, rfl⟩
        have hLB : L < B := by rw [← hL]; exact Nat.mod_lt _ hBpos
        have hN1 : N < 36028797018963968 := by rw [← hN]; have h := HR2.out.2; rw [HAe.out, HBe.out] at h; exact (Nat.div_lt_iff_lt_mul hBpos).2 h
        rw [hN]
        rw [hL] at h5
        have HN := Lib.hid hN
        have HL := Lib.hid hL
        have hbl5 := hblq.trans (b5.mono hblq.size)
        have hva5 := hva4.below b5
        have hvb5 := hvb4.below b5
        have hB5 := hB.below b5
        have HN1 := Lib.hid hN1
        clear hN hL hpre hA hB b5 hva4 hvb4 hN1
        by_cases hbig : 9007199254740992 ≤ N
        · have hge : 9007199254740992 * rB q (E) ≤ rA p (E) := by rw [HAe.out, HBe.out]; have h := HN.out; exact (Nat.le_div_iff_mul_le hBpos).1 (by rw [h]; exact hbig)
          have HR3 : Hid (RInv p q (E + 1)) := HR2.out.next hge
          have hX16 : E ≤ 16000000 := rinv_le hq0 HP.out hge hm
          have hbt : decide ((9007199254740992 : Int) ≤ (N : Int)) = true := decide_eq_true (by omega)
          clear hbig hge
          go_wp2
          go_roundw
          case rel => exact ⟨E + 1, by go_num, by omega, by omega, HR3.out, hva5, hvb5, hbl5⟩
          case measure => simp [intOf]; omega
        · have hbt : decide ((9007199254740992 : Int) ≤ (N : Int)) = false := decide_eq_false (by omega)
          have HBIG := Lib.hid hbig
          clear hbig
          go_wp2_with fail
          refine (add_any _ _ L L M w5 (lt_pw_le hLB HBm.out) (lt_pw_le hLB HBm.out) (by omega) h5 h5).mono ?_
          rintro e6 w6 ⟨v6, rfl, h6, b6⟩
          have hB6 := hB5.below b6
          have hbl6 := hbl5.trans (b6.mono hbl5.size)
          clear h5 hva5 hvb5 hB5 b6
          go_wp2_with fail
          refine (cmp_any _ _ (L + L) B (M + 1) w6 (dbl_pw (lt_pw_le hLB HBm.out)) (lt_pw_of HBm.out (by omega)) (by omega) h6 hB6).mono ?_
          rintro e7 w7 ⟨cc, rfl, ⟨hc1, hc2⟩, q7, rfl⟩
          have hbl7 : Below w.heap.size w (w6.drewN q7) := below_drewN hbl6 q7
          clear h6 hB6 hbl6
          rcases Nat.lt_trichotomy B (L + L) with hcmp | hcmp | hcmp
          · obtain ⟨hnn, hend⟩ := ratio_end (n := N) (up := (N + 1)) hq0 (by omega) HR2.out (by rw [HAe.out, HBe.out]; exact HN.out) (by have := HBIG.out; omega) (by rw [HAe.out, HBe.out, HL.out]; rw [if_pos (Or.inl (by omega))])
            have ht1 : decide ((0 : Int) < cc) = true := decide_eq_true (by omega)
            have hwr : IntKind.u64.wrap ((N : Int) + 1) = (N : Int) + 1 := IntWalk.u64_in _ (by have := HN1.out; omega)
            have hwn : ((N : Int) + 1).toNat = N + 1 := by omega
            have cl : ∀ W, Calls Tryz.prog 85 #[.float .f64 (floatOfInt .f64 ((N : Int) + 1)), .int .i64 (E)] W fun ee w' => ee = .returned (.float .f64 (min (rungOf (N + 1) (E)) 9218868437227405312)) ∧ W = w' := fun W => by
              have h := ldexp_nat (N + 1) (E) W (by have := HBIG.out; omega) (by omega) (by omega) (by rcases hnn with h | h <;> omega)
              have e : ((N + 1 : Nat) : Int) = (N : Int) + 1 := by omega
              rw [e] at h
              exact h
            have HEND := Lib.hid hend
            clear hend hnn hc1 hc2 hcmp
            have ht3 : decide ((971 : Int) < E) = false := decide_eq_false (by omega)
            go_wp2_with fail
            refine (cl _).mono ?_
            rintro e8 w8 ⟨rfl, rfl⟩
            go_wp2
            go_ret
            exact ⟨_, rfl, HEND.out, hbl7⟩
          · by_cases hpar : N % 2 = 1
            · obtain ⟨hnn, hend⟩ := ratio_end (n := N) (up := (N + 1)) hq0 (by omega) HR2.out (by rw [HAe.out, HBe.out]; exact HN.out) (by have := HBIG.out; omega) (by rw [HAe.out, HBe.out, HL.out]; rw [if_pos (Or.inr ⟨by omega, by omega⟩)])
              have hcc0 : cc = 0 := by omega
              subst hcc0
              have ht2 : ((N : Int) % 2 == 1) = true := by simp; omega
              have hwr : IntKind.u64.wrap ((N : Int) + 1) = (N : Int) + 1 := IntWalk.u64_in _ (by have := HN1.out; omega)
              have hwn : ((N : Int) + 1).toNat = N + 1 := by omega
              have cl : ∀ W, Calls Tryz.prog 85 #[.float .f64 (floatOfInt .f64 ((N : Int) + 1)), .int .i64 (E)] W fun ee w' => ee = .returned (.float .f64 (min (rungOf (N + 1) (E)) 9218868437227405312)) ∧ W = w' := fun W => by
                have h := ldexp_nat (N + 1) (E) W (by have := HBIG.out; omega) (by omega) (by omega) (by rcases hnn with h | h <;> omega)
                have e : ((N + 1 : Nat) : Int) = (N : Int) + 1 := by omega
                rw [e] at h
                exact h
              have HEND := Lib.hid hend
              clear hend hnn hc1 hc2 hcmp hpar
              have ht3 : decide ((971 : Int) < E) = false := decide_eq_false (by omega)
              go_wp2_with fail
              refine (cl _).mono ?_
              rintro e8 w8 ⟨rfl, rfl⟩
              go_wp2
              go_ret
              exact ⟨_, rfl, HEND.out, hbl7⟩
            · obtain ⟨hnn, hend⟩ := ratio_end (n := N) (up := N) hq0 (by omega) HR2.out (by rw [HAe.out, HBe.out]; exact HN.out) (by have := HBIG.out; omega) (by rw [HAe.out, HBe.out, HL.out]; rw [if_neg (by omega)])
              have hcc0 : cc = 0 := by omega
              subst hcc0
              have ht2 : ((N : Int) % 2 == 1) = false := by simp; omega
              have cl : ∀ W, Calls Tryz.prog 85 #[.float .f64 (floatOfInt .f64 (N : Int)), .int .i64 (E)] W fun ee w' => ee = .returned (.float .f64 (min (rungOf N (E)) 9218868437227405312)) ∧ W = w' := fun W => by
                have h := ldexp_nat N (E) W (by have := HBIG.out; omega) (by omega) (by omega) (by rcases hnn with h | h <;> omega)
                exact h
              have HEND := Lib.hid hend
              clear hend hnn hc1 hc2 hcmp hpar
              have ht3 : decide ((971 : Int) < E) = false := decide_eq_false (by omega)
              go_wp2_with fail
              refine (cl _).mono ?_
              rintro e8 w8 ⟨rfl, rfl⟩
              go_wp2
              go_ret
              exact ⟨_, rfl, HEND.out, hbl7⟩
          · obtain ⟨hnn, hend⟩ := ratio_end (n := N) (up := N) hq0 (by omega) HR2.out (by rw [HAe.out, HBe.out]; exact HN.out) (by have := HBIG.out; omega) (by rw [HAe.out, HBe.out, HL.out]; rw [if_neg (by omega)])
            have ht1 : decide ((0 : Int) < cc) = false := decide_eq_false (by omega)
            have ht2 : (cc == 0) = false := by simp; omega
            have cl : ∀ W, Calls Tryz.prog 85 #[.float .f64 (floatOfInt .f64 (N : Int)), .int .i64 (E)] W fun ee w' => ee = .returned (.float .f64 (min (rungOf N (E)) 9218868437227405312)) ∧ W = w' := fun W => by
              have h := ldexp_nat N (E) W (by have := HBIG.out; omega) (by omega) (by omega) (by rcases hnn with h | h <;> omega)
              exact h
            have HEND := Lib.hid hend
            clear hend hnn hc1 hc2 hcmp
            have ht3 : decide ((971 : Int) < E) = false := decide_eq_false (by omega)
            go_wp2_with fail
            refine (cl _).mono ?_
            rintro e8 w8 ⟨rfl, rfl⟩
            go_wp2
            go_ret
            exact ⟨_, rfl, HEND.out, hbl7⟩
      · obtain ⟨A, hAe⟩ : ∃ A, rA p (E) = A := ⟨_, rfl⟩
        obtain ⟨B, hBe⟩ : ∃ B, rB q (E) = B := ⟨_, rfl⟩
        obtain ⟨M, hM, hAm, hBm⟩ : ∃ M, M ≤ 50000000 ∧ (A : Int) < pw M ∧ (B : Int) < pw M := by rw [← hAe, ← hBe]; exact rAB_lt HP.out HQ.out hm (by omega) (by omega)
        have hBpos : 0 < B := by rw [← hBe]; exact rB_pos hq0 _
        have HAe := Lib.hid hAe
        have HBe := Lib.hid hBe
        have HAm := Lib.hid hAm
        have HBm := Lib.hid hBm
        clear hAe hBe hAm hBm
        obtain ⟨T, hT⟩ : ∃ T, 2 ^ (E : Int).toNat = T := ⟨_, rfl⟩
        have hTB : q * T = B := by rw [← hT]; exact HBe.out
        have hA0 : A = p := by rw [← HAe.out]; unfold rA; rw [show (-E : Int).toNat = 0 by omega, Nat.pow_zero, Nat.mul_one]
        obtain ⟨TM, hTM, hTm⟩ : ∃ TM, TM ≤ 30000000 ∧ (T : Int) < pw TM := ⟨(E : Int).toNat + 1, by omega, by rw [← hT]; exact pow_lt_pw 2 _ (by decide)⟩
        have cw1 : ∀ W, Calls Tryz.prog 61 #[.int .u64 2, .int .i64 (E)] W fun ee w' => ∃ v, ee = .returned v ∧ IsN w' v T ∧ Below W.heap.size W w' := fun W => by rw [← hT]; exact power_any 2 (E) W (by omega) (by omega) (by omega)
        have HTm := Lib.hid hTm
        have HTB := Lib.hid hTB
        have HA0 := Lib.hid hA0
        clear hT hTm hTB hA0
        go_wp2_with fail
        refine (cw1 _).mono ?_
        rintro e1 w1 ⟨v1, rfl, h1, b1⟩
        have hva1 := hva.below b1
        have hvb1 := hvb.below b1
        have hbl1 := hbl.trans (b1.mono hbl.size)
        clear cw1 b1 hva hvb hbl
        go_wp2_with fail
        refine (mul_any _ _ q T m TM w1 HQ.out HTm.out (by omega) (by omega) hvb1 h1).mono ?_
        rintro e3 w3 ⟨v3, rfl, hB, b3⟩
        rw [HTB.out] at hB
        have hva4 := hva1.below b3
        have hvb4 := hvb1.below b3
        have hblq := hbl1.trans (b3.mono hbl1.size)
        have hA : IsN w3 (.slice A' n c) A := by rw [HA0.out]; exact hva4
        clear b3 hva1 hvb1 hbl1 h1
        have hpre : A < 2305843009213693952 * B := by have h := HR2.out.2; rw [HAe.out, HBe.out] at h; omega
        go_wp2_with fail
        refine (quo_any _ _ A B M w3 HAm.out HBm.out (by omega) hpre hA hB).mono ?_
        rintro e5 w5 ⟨v5, rfl, h5, b5⟩
        obtain ⟨N, hN⟩ : ∃ N, A / B = N := ⟨_, rfl⟩
        obtain ⟨L, hL⟩ : ∃ L, A % B = L := ⟨_, rfl⟩
        have hLB : L < B := by rw [← hL]; exact Nat.mod_lt _ hBpos
        have hN1 : N < 36028797018963968 := by rw [← hN]; have h := HR2.out.2; rw [HAe.out, HBe.out] at h; exact (Nat.div_lt_iff_lt_mul hBpos).2 h
        rw [hN]
        rw [hL] at h5
        have HN := Lib.hid hN
        have HL := Lib.hid hL
        have hbl5 := hblq.trans (b5.mono hblq.size)
        have hva5 := hva4.below b5
        have hvb5 := hvb4.below b5
        have hB5 := hB.below b5
        have HN1 := Lib.hid hN1
        clear hN hL hpre hA hB b5 hva4 hvb4 hN1
        by_cases hbig : 9007199254740992 ≤ N
        · have hge : 9007199254740992 * rB q (E) ≤ rA p (E) := by rw [HAe.out, HBe.out]; have h := HN.out; exact (Nat.le_div_iff_mul_le hBpos).1 (by rw [h]; exact hbig)
          have HR3 : Hid (RInv p q (E + 1)) := HR2.out.next hge
          have hX16 : E ≤ 16000000 := rinv_le hq0 HP.out hge hm
          have hbt : decide ((9007199254740992 : Int) ≤ (N : Int)) = true := decide_eq_true (by omega)
          clear hbig hge
          go_wp2
          go_roundw
          case rel => exact ⟨E + 1, by go_num, by omega, by omega, HR3.out, hva5, hvb5, hbl5⟩
          case measure => simp [intOf]; omega
        · have hbt : decide ((9007199254740992 : Int) ≤ (N : Int)) = false := decide_eq_false (by omega)
          have HBIG := Lib.hid hbig
          clear hbig
          go_wp2_with fail
          refine (add_any _ _ L L M w5 (lt_pw_le hLB HBm.out) (lt_pw_le hLB HBm.out) (by omega) h5 h5).mono ?_
          rintro e6 w6 ⟨v6, rfl, h6, b6⟩
          have hB6 := hB5.below b6
          have hbl6 := hbl5.trans (b6.mono hbl5.size)
          clear h5 hva5 hvb5 hB5 b6
          go_wp2_with fail
          refine (cmp_any _ _ (L + L) B (M + 1) w6 (dbl_pw (lt_pw_le hLB HBm.out)) (lt_pw_of HBm.out (by omega)) (by omega) h6 hB6).mono ?_
          rintro e7 w7 ⟨cc, rfl, ⟨hc1, hc2⟩, q7, rfl⟩
          have hbl7 : Below w.heap.size w (w6.drewN q7) := below_drewN hbl6 q7
          clear h6 hB6 hbl6
          by_cases h971 : 971 < E
          · rcases Nat.lt_trichotomy B (L + L) with hcmp | hcmp | hcmp
            · obtain ⟨hnn, hend⟩ := ratio_end (n := N) (up := (N + 1)) hq0 (by omega) HR2.out (by rw [HAe.out, HBe.out]; exact HN.out) (by have := HBIG.out; omega) (by rw [HAe.out, HBe.out, HL.out]; rw [if_pos (Or.inl (by omega))])
              have ht1 : decide ((0 : Int) < cc) = true := decide_eq_true (by omega)
              have hwr : IntKind.u64.wrap ((N : Int) + 1) = (N : Int) + 1 := IntWalk.u64_in _ (by have := HN1.out; omega)
              have hwn : ((N : Int) + 1).toNat = N + 1 := by omega
              have hinf : min (rungOf (N + 1) E) 9218868437227405312 = 9218868437227405312 := rung_inf h971 (by rcases hnn with h | h <;> omega)
              rw [hinf] at hend
              have HEND := Lib.hid hend
              clear hend hinf hnn hc1 hc2 hcmp
              have ht3 : decide ((971 : Int) < E) = true := decide_eq_true (by omega)
              go_wp2_with fail
              refine (inf_any _).mono ?_
              rintro e8 w8 ⟨rfl, rfl⟩
              go_wp2
              go_ret
              exact ⟨_, rfl, HEND.out, hbl7⟩
            · by_cases hpar : N % 2 = 1
              · obtain ⟨hnn, hend⟩ := ratio_end (n := N) (up := (N + 1)) hq0 (by omega) HR2.out (by rw [HAe.out, HBe.out]; exact HN.out) (by have := HBIG.out; omega) (by rw [HAe.out, HBe.out, HL.out]; rw [if_pos (Or.inr ⟨by omega, by omega⟩)])
                have hcc0 : cc = 0 := by omega
                subst hcc0
                have ht2 : ((N : Int) % 2 == 1) = true := by simp; omega
                have hwr : IntKind.u64.wrap ((N : Int) + 1) = (N : Int) + 1 := IntWalk.u64_in _ (by have := HN1.out; omega)
                have hwn : ((N : Int) + 1).toNat = N + 1 := by omega
                have hinf : min (rungOf (N + 1) E) 9218868437227405312 = 9218868437227405312 := rung_inf h971 (by rcases hnn with h | h <;> omega)
                rw [hinf] at hend
                have HEND := Lib.hid hend
                clear hend hinf hnn hc1 hc2 hcmp hpar
                have ht3 : decide ((971 : Int) < E) = true := decide_eq_true (by omega)
                go_wp2_with fail
                refine (inf_any _).mono ?_
                rintro e8 w8 ⟨rfl, rfl⟩
                go_wp2
                go_ret
                exact ⟨_, rfl, HEND.out, hbl7⟩
              · obtain ⟨hnn, hend⟩ := ratio_end (n := N) (up := N) hq0 (by omega) HR2.out (by rw [HAe.out, HBe.out]; exact HN.out) (by have := HBIG.out; omega) (by rw [HAe.out, HBe.out, HL.out]; rw [if_neg (by omega)])
                have hcc0 : cc = 0 := by omega
                subst hcc0
                have ht2 : ((N : Int) % 2 == 1) = false := by simp; omega
                have hinf : min (rungOf N E) 9218868437227405312 = 9218868437227405312 := rung_inf h971 (by rcases hnn with h | h <;> omega)
                rw [hinf] at hend
                have HEND := Lib.hid hend
                clear hend hinf hnn hc1 hc2 hcmp hpar
                have ht3 : decide ((971 : Int) < E) = true := decide_eq_true (by omega)
                go_wp2_with fail
                refine (inf_any _).mono ?_
                rintro e8 w8 ⟨rfl, rfl⟩
                go_wp2
                go_ret
                exact ⟨_, rfl, HEND.out, hbl7⟩
            · obtain ⟨hnn, hend⟩ := ratio_end (n := N) (up := N) hq0 (by omega) HR2.out (by rw [HAe.out, HBe.out]; exact HN.out) (by have := HBIG.out; omega) (by rw [HAe.out, HBe.out, HL.out]; rw [if_neg (by omega)])
              have ht1 : decide ((0 : Int) < cc) = false := decide_eq_false (by omega)
              have ht2 : (cc == 0) = false := by simp; omega
              have hinf : min (rungOf N E) 9218868437227405312 = 9218868437227405312 := rung_inf h971 (by rcases hnn with h | h <;> omega)
              rw [hinf] at hend
              have HEND := Lib.hid hend
              clear hend hinf hnn hc1 hc2 hcmp
              have ht3 : decide ((971 : Int) < E) = true := decide_eq_true (by omega)
              go_wp2_with fail
              refine (inf_any _).mono ?_
              rintro e8 w8 ⟨rfl, rfl⟩
              go_wp2
              go_ret
              exact ⟨_, rfl, HEND.out, hbl7⟩
          · rcases Nat.lt_trichotomy B (L + L) with hcmp | hcmp | hcmp
            · obtain ⟨hnn, hend⟩ := ratio_end (n := N) (up := (N + 1)) hq0 (by omega) HR2.out (by rw [HAe.out, HBe.out]; exact HN.out) (by have := HBIG.out; omega) (by rw [HAe.out, HBe.out, HL.out]; rw [if_pos (Or.inl (by omega))])
              have ht1 : decide ((0 : Int) < cc) = true := decide_eq_true (by omega)
              have hwr : IntKind.u64.wrap ((N : Int) + 1) = (N : Int) + 1 := IntWalk.u64_in _ (by have := HN1.out; omega)
              have hwn : ((N : Int) + 1).toNat = N + 1 := by omega
              have cl : ∀ W, Calls Tryz.prog 85 #[.float .f64 (floatOfInt .f64 ((N : Int) + 1)), .int .i64 (E)] W fun ee w' => ee = .returned (.float .f64 (min (rungOf (N + 1) (E)) 9218868437227405312)) ∧ W = w' := fun W => by
                have h := ldexp_nat (N + 1) (E) W (by have := HBIG.out; omega) (by omega) (by omega) (by rcases hnn with h | h <;> omega)
                have e : ((N + 1 : Nat) : Int) = (N : Int) + 1 := by omega
                rw [e] at h
                exact h
              have HEND := Lib.hid hend
              clear hend hnn hc1 hc2 hcmp
              have ht3 : decide ((971 : Int) < E) = false := decide_eq_false (by omega)
              go_wp2_with fail
              refine (cl _).mono ?_
              rintro e8 w8 ⟨rfl, rfl⟩
              go_wp2
              go_ret
              exact ⟨_, rfl, HEND.out, hbl7⟩
            · by_cases hpar : N % 2 = 1
              · obtain ⟨hnn, hend⟩ := ratio_end (n := N) (up := (N + 1)) hq0 (by omega) HR2.out (by rw [HAe.out, HBe.out]; exact HN.out) (by have := HBIG.out; omega) (by rw [HAe.out, HBe.out, HL.out]; rw [if_pos (Or.inr ⟨by omega, by omega⟩)])
                have hcc0 : cc = 0 := by omega
                subst hcc0
                have ht2 : ((N : Int) % 2 == 1) = true := by simp; omega
                have hwr : IntKind.u64.wrap ((N : Int) + 1) = (N : Int) + 1 := IntWalk.u64_in _ (by have := HN1.out; omega)
                have hwn : ((N : Int) + 1).toNat = N + 1 := by omega
                have cl : ∀ W, Calls Tryz.prog 85 #[.float .f64 (floatOfInt .f64 ((N : Int) + 1)), .int .i64 (E)] W fun ee w' => ee = .returned (.float .f64 (min (rungOf (N + 1) (E)) 9218868437227405312)) ∧ W = w' := fun W => by
                  have h := ldexp_nat (N + 1) (E) W (by have := HBIG.out; omega) (by omega) (by omega) (by rcases hnn with h | h <;> omega)
                  have e : ((N + 1 : Nat) : Int) = (N : Int) + 1 := by omega
                  rw [e] at h
                  exact h
                have HEND := Lib.hid hend
                clear hend hnn hc1 hc2 hcmp hpar
                have ht3 : decide ((971 : Int) < E) = false := decide_eq_false (by omega)
                go_wp2_with fail
                refine (cl _).mono ?_
                rintro e8 w8 ⟨rfl, rfl⟩
                go_wp2
                go_ret
                exact ⟨_, rfl, HEND.out, hbl7⟩
              · obtain ⟨hnn, hend⟩ := ratio_end (n := N) (up := N) hq0 (by omega) HR2.out (by rw [HAe.out, HBe.out]; exact HN.out) (by have := HBIG.out; omega) (by rw [HAe.out, HBe.out, HL.out]; rw [if_neg (by omega)])
                have hcc0 : cc = 0 := by omega
                subst hcc0
                have ht2 : ((N : Int) % 2 == 1) = false := by simp; omega
                have cl : ∀ W, Calls Tryz.prog 85 #[.float .f64 (floatOfInt .f64 (N : Int)), .int .i64 (E)] W fun ee w' => ee = .returned (.float .f64 (min (rungOf N (E)) 9218868437227405312)) ∧ W = w' := fun W => by
                  have h := ldexp_nat N (E) W (by have := HBIG.out; omega) (by omega) (by omega) (by rcases hnn with h | h <;> omega)
                  exact h
                have HEND := Lib.hid hend
                clear hend hnn hc1 hc2 hcmp hpar
                have ht3 : decide ((971 : Int) < E) = false := decide_eq_false (by omega)
                go_wp2_with fail
                refine (cl _).mono ?_
                rintro e8 w8 ⟨rfl, rfl⟩
                go_wp2
                go_ret
                exact ⟨_, rfl, HEND.out, hbl7⟩
            · obtain ⟨hnn, hend⟩ := ratio_end (n := N) (up := N) hq0 (by omega) HR2.out (by rw [HAe.out, HBe.out]; exact HN.out) (by have := HBIG.out; omega) (by rw [HAe.out, HBe.out, HL.out]; rw [if_neg (by omega)])
              have ht1 : decide ((0 : Int) < cc) = false := decide_eq_false (by omega)
              have ht2 : (cc == 0) = false := by simp; omega
              have cl : ∀ W, Calls Tryz.prog 85 #[.float .f64 (floatOfInt .f64 (N : Int)), .int .i64 (E)] W fun ee w' => ee = .returned (.float .f64 (min (rungOf N (E)) 9218868437227405312)) ∧ W = w' := fun W => by
                have h := ldexp_nat N (E) W (by have := HBIG.out; omega) (by omega) (by omega) (by rcases hnn with h | h <;> omega)
                exact h
              have HEND := Lib.hid hend
              clear hend hnn hc1 hc2 hcmp
              have ht3 : decide ((971 : Int) < E) = false := decide_eq_false (by omega)
              go_wp2_with fail
              refine (cl _).mono ?_
              rintro e8 w8 ⟨rfl, rfl⟩
              go_wp2
              go_ret
              exact ⟨_, rfl, HEND.out, hbl7⟩
end Go.Proofs.YtmhbkilidpbenaaGreatDoor
