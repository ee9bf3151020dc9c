/- The contract of readFloat, part 3. Each lemma's conditions stand in its own statement. -/
import Derived.Test.YtbcolebomgcphaaGreatFmtSg
namespace Go.Proofs.YtbcolebomgcphaaGreatFmt
open Go.RowKit Go.Sort

set_option maxRecDepth 100000 in
set_option maxHeartbeats 3200000 in
theorem read_3 (s : ByteArray) (mp : List Int) (n : Nat) (w : World) (hs : s.size = n) (hn : n ≤ 1000) (hm : mp.length ≤ n) (hm0 : 0 < mp.length)
    (hb : ∀ k (h : k < s.size), k < mp.length → (((s[k]'h).toNat : Nat) : Int) = mp.getD k 0) (hz : IsMp mp) (hc0 : mp.getD 0 0 ≠ 46) (hdot : ∀ k, k < mp.length → mp.getD k 0 = 46 → (rdFold rdStart (mp.take k)).dot = false) (h2 : HexNo s)
    (hdig : (rdFold rdStart mp).dig = true) (htr : (rdFold rdStart mp).tr = false) (x E : Int) (G : List Int) (ht : TailEx s mp.length (mp.length + 1 + 1) G) (hsg : ByteAt s (mp.length + 1) 45) (hxv : x = -(valZ G : Int)) (hE0 : (rdFold rdStart mp).m ≠ 0)
    (hE1 : (rdFold rdStart mp).m ≠ 0 → E = (if (rdFold rdStart mp).dot then (rdFold rdStart mp).dp else ((rdFold rdStart mp).nd : Int)) - (rdFold rdStart mp).ndm + x) :
    Calls Tryz.prog 186 #[.string s] w (RfIs w (rdFold rdStart mp).m E n) := by
  have h0 : 0 < s.size := by omega
  have e0 := hb 0 h0 hm0
  have r0 : 48 ≤ mp.getD 0 0 ∧ mp.getD 0 0 ≤ 57 := by
    rcases hz (mp.getD 0 0) (by rw [List.getD, List.getElem?_eq_getElem hm0]; exact List.getElem_mem _) with h | h
    · exact h
    · exact absurd h hc0
  obtain ⟨x0, hx⟩ : ∃ x, s[0]'h0 = x := ⟨_, rfl⟩
  rw [hx] at e0
  obtain ⟨c, hc⟩ : ∃ c, x0.toNat = c := ⟨_, rfl⟩
  rw [hc] at e0
  obtain ⟨r1, r2⟩ := r0
  rw [← e0] at r1 r2
  have HS := Lib.hid hs
  have HB := Lib.hid hb
  have HZ := Lib.hid hz
  have HD := Lib.hid hdot
  have t1 : ((c : Int) == 43) = false := by simp; omega
  have t2 : ((c : Int) == 45) = false := by simp; omega
  have t3 : decide ((s.size : Int) ≤ 0) = false := decide_eq_false (by omega)
  have hne : s ≠ ByteArray.empty := by
    intro g
    rw [g] at h0
    simp at h0
  have t5 : decide (s = ByteArray.empty) = false := decide_eq_false hne
  have H2 := Lib.hid h2
  have HDg := Lib.hid hdig
  have HTr := Lib.hid htr
  have HT := Lib.hid ht
  have HX0 := Lib.hid hxv
  have HSg := Lib.hid hsg
  have HE0 := Lib.hid hE0
  have HE1 := Lib.hid hE1
  clear hs hb hz e0 hc0 hne hdot h2 hdig htr ht hxv hE0 hE1 hsg
  go_enter Tryz.func186, Tryz.ntmps186
  go_wp2
  go_step3
  go_upto_region 12 with fail
  go_cut [54] from 36 to 54 (fun b wx => b = .bool false ∧ wx = w)
  case first =>
    rcases H2.out with g | ⟨c0, ⟨c0h, c0e⟩, g⟩
    · have t4 : decide ((2 : Int) < (s.size : Int)) = false := decide_eq_false (by omega)
      go_wp2
      go_meet
      case rel => exact ⟨rfl, rfl⟩
    · obtain rfl : c0 = c := by rw [← c0e, ← hc, ← hx]
      rcases g with g | ⟨d, ⟨dh, de⟩, g⟩
      · have t4 : ((c0 : Int) == 48) = false := beq_false_of_ne (by omega)
        by_cases h2 : (2 : Int) < (s.size : Int)
        · have t6 : decide ((2 : Int) < (s.size : Int)) = true := decide_eq_true h2
          go_wp2
          go_meet
          case rel => exact ⟨rfl, rfl⟩
        · have t6 : decide ((2 : Int) < (s.size : Int)) = false := decide_eq_false h2
          go_wp2
          go_meet
          case rel => exact ⟨rfl, rfl⟩
      · obtain ⟨y, hy⟩ : ∃ y, s[1]'dh = y := ⟨_, rfl⟩
        rw [hy] at de
        have cl := Tryz.internal_strconv_lower (d : Int) w
        by_cases h48 : c0 = 48
        · subst h48
          by_cases h2 : (2 : Int) < (s.size : Int)
          · have t6 : decide ((2 : Int) < (s.size : Int)) = true := decide_eq_true h2
            go_wp2_with fail
            refine cl.mono ?_
            rintro e w1 ⟨rfl, rfl⟩
            go_wp2
            go_meet
            case rel => exact ⟨rfl, rfl⟩
          · have t6 : decide ((2 : Int) < (s.size : Int)) = false := decide_eq_false h2
            go_wp2
            go_meet
            case rel => exact ⟨rfl, rfl⟩
        · have t4 : ((c0 : Int) == 48) = false := beq_false_of_ne (by omega)
          by_cases h2 : (2 : Int) < (s.size : Int)
          · have t6 : decide ((2 : Int) < (s.size : Int)) = true := decide_eq_true h2
            go_wp2
            go_meet
            case rel => exact ⟨rfl, rfl⟩
          · have t6 : decide ((2 : Int) < (s.size : Int)) = false := decide_eq_false h2
            go_wp2
            go_meet
            case rel => exact ⟨rfl, rfl⟩
  case rest =>
  obtain ⟨rfl, rfl⟩ := hcut
  go_wp2
  go_step3
  go_wp2
  go_loop [2, 5, 7, 9, 13, 14, 15, 16, 17] (fun m tr i us dot dig nd ndm dp => ∃ k : Nat, k ≤ mp.length ∧ i = .int .i64 k ∧ us = .bool false ∧ m = .int .u64 (rdFold rdStart (mp.take k)).m ∧ tr = .bool (rdFold rdStart (mp.take k)).tr ∧ dot = .bool (rdFold rdStart (mp.take k)).dot ∧
    dig = .bool (rdFold rdStart (mp.take k)).dig ∧ nd = .int .i64 (rdFold rdStart (mp.take k)).nd ∧ ndm = .int .i64 (rdFold rdStart (mp.take k)).ndm ∧ dp = .int .i64 (rdFold rdStart (mp.take k)).dp) (fun _ _ i _ _ _ _ _ _ => mp.length - (intOf i).toNat)
  case atStart => exact ⟨0, Nat.zero_le _, rfl, rfl, rfl, rfl, rfl, rfl, rfl, rfl, rfl⟩
  case round =>
    obtain ⟨k, hk, rfl, rfl, rfl, rfl, rfl, rfl, rfl, rfl, rfl⟩ := hrel
    by_cases hlt : k < mp.length
    · have hks : k < s.size := by have := HS.out; omega
      have ez := HB.out k hks hlt
      obtain ⟨y, hy⟩ : ∃ y, s[k]'hks = y := ⟨_, rfl⟩
      rw [hy] at ez
      have hfs := rdFold_snoc rdStart (mp.take k) (mp.getD k 0)
      rw [← take_succ_getD mp k hlt] at hfs
      have hin := rd_inv mp HZ.out k hk
      have hdt := HD.out k hlt
      have hzz := HZ.out (mp.getD k 0) (by rw [List.getD, List.getElem?_eq_getElem hlt]; exact List.getElem_mem _)
      obtain ⟨st, hste⟩ : ∃ st, rdFold rdStart (mp.take k) = st := ⟨_, rfl⟩
      rw [hste] at hfs hin hdt ⊢
      rw [← ez] at hfs hzz hdt
      obtain ⟨z, hzn⟩ : ∃ z, y.toNat = z := ⟨_, rfl⟩
      rw [hzn] at hfs hzz hdt
      have HF := Lib.hid hfs
      obtain ⟨i1, i2, i3, i4, i5, i6⟩ := hin
      have u1 : ((z : Int) == 95) = false := beq_false_of_ne (by omega)
      clear hfs hste ez
      rcases hzz with ⟨z0, z1⟩ | z46
      · have hc2 : (z : Int) ≠ 46 := by omega
        have v0 : ((z : Int) == 46) = false := beq_false_of_ne (by omega)
        have v1 : decide ((48 : Int) ≤ (z : Int)) = true := decide_eq_true z0
        have v2 : decide ((z : Int) ≤ 57) = true := decide_eq_true z1
        by_cases q1 : z = 48 ∧ st.nd = 0
        · obtain ⟨qa, qb⟩ := q1
          subst qa
          rw [qb]
          clear hdt z0 z1
          go_wp2
          go_round
          case rel =>
            have hf := HF.out
            refine ⟨k + 1, by omega, by go_num, rfl, ?_⟩
            rw [hf]
            have g : rdStep st ((48 : Nat) : Int) = ⟨st.dot, true, st.nd, st.ndm, st.dp - 1, st.m, st.tr⟩ := by
              unfold rdStep
              rw [if_neg (by decide), if_pos ⟨by decide, qb⟩]
            rw [g, qb]
            exact ⟨rfl, rfl, rfl, rfl, rfl, rfl, by go_num⟩
          case measure => simp [intOf]; omega
        · have v3 : (((z : Int) == 48) && ((st.nd : Int) == 0)) = false := by simp; omega
          have v4 : ¬((z : Int) = 48 ∧ (st.nd : Int) = 0) := by omega
          by_cases q2 : st.ndm < 19
          · have p19 : (10 : Nat) ^ st.ndm ≤ 10 ^ 18 := Nat.pow_le_pow_right (by decide) (by omega)
            have p20 : st.m < 1000000000000000000 := by omega
            have v5 : decide ((st.ndm : Int) < 19) = true := decide_eq_true (by omega)
            clear hdt q1 p19
            have gz := rd_step_dig st (z : Int) hc2 v4 q2
            have hf := HF.out
            rw [gz] at hf
            clear HF gz
            have HF := Lib.hid hf
            clear hf
            go_wp2
            all_goals
              refine ⟨⟨k + 1, by omega, by go_num, rfl, ?_⟩, by simp [intOf]; omega⟩
              have hf := HF.out
              rw [hf]
              refine ⟨?_, rfl, rfl, rfl, by go_num, by go_num, rfl⟩
              congr 1
              show _ = (((st.m * 10 + ((z : Int) - 48).toNat : Nat) : Int))
              omega
          · have v5 : decide ((st.ndm : Int) < 19) = false := decide_eq_false (by omega)
            have gz := rd_step_more st (z : Int) hc2 v4 q2
            have hf := HF.out
            rw [gz] at hf
            clear HF gz
            by_cases q3 : z = 48
            · have v6 : ((z : Int) != 48) = false := by simp; omega
              rw [v6, Bool.or_false] at hf
              have HF := Lib.hid hf
              clear hf hdt q1
              go_wp2
              refine ⟨⟨k + 1, by omega, by go_num, rfl, ?_⟩, by simp [intOf]; omega⟩
              rw [HF.out]
              exact ⟨rfl, rfl, rfl, rfl, by go_num, rfl, rfl⟩
            · have v6 : ((z : Int) != 48) = true := by simp; omega
              rw [v6, Bool.or_true] at hf
              have HF := Lib.hid hf
              clear hf hdt q1
              go_wp2
              refine ⟨⟨k + 1, by omega, by go_num, rfl, ?_⟩, by simp [intOf]; omega⟩
              rw [HF.out]
              exact ⟨rfl, rfl, rfl, rfl, by go_num, rfl, rfl⟩
      · have hd0 := hdt z46
        obtain rfl : z = 46 := by omega
        clear z46 hdt i1 u1
        rw [hd0]
        go_wp2
        go_round
        case rel =>
          have hf := HF.out
          refine ⟨k + 1, by omega, by go_num, rfl, ?_⟩
          rw [hf]
          exact ⟨rfl, rfl, rfl, rfl, rfl, rfl, rfl⟩
        case measure => simp [intOf]; omega
    · have hke : k = mp.length := by omega
      subst hke
      rw [List.take_length]
      have hin := rd_inv mp HZ.out mp.length (Nat.le_refl _)
      rw [List.take_length] at hin
      have hdig := HDg.out
      have htr := HTr.out
      have hE0 := HE0.out
      have hE1 := HE1.out
      have htl := HT.out
      have hsg := HSg.out
      clear HZ HD HDg HTr HE0 HE1 HT HB H2
      obtain ⟨st, hste⟩ : ∃ st, rdFold rdStart mp = st := ⟨_, rfl⟩
      rw [hste] at hin hdig htr hE0 hE1 ⊢
      obtain ⟨p, hp⟩ : ∃ p, mp.length = p := ⟨_, rfl⟩
      rw [hp] at hin htl hlt hk hsg ⊢
      obtain ⟨i1, i2, i3, i4, i5, i6⟩ := hin
      rw [hdig, htr]
      have HST := Lib.hid hste
      clear hste hdig htr
      have HE1 := Lib.hid hE1
      have hmz : ((st.m : Int) != 0) = true := by simp [hE0]
      have hE := hE1 hE0
      obtain ⟨⟨x1h, x1e⟩, hq, hG0, hG, hGb, hG9⟩ := htl
      obtain ⟨y1, y1x⟩ : ∃ y, s[p]'x1h = y := ⟨_, rfl⟩
      rw [y1x] at x1e
      have b0 : (((s[p + 1 + 1]'(by omega)).toNat : Nat) : Int) = G.getD 0 0 := by have := hGb 0 (by omega); simpa using this
      have b1 := hG.getD hG0
      rw [← b0] at b1
      have x3h : p + 1 + 1 < s.size := by omega
      obtain ⟨y3, y3x⟩ : ∃ y, s[p + 1 + 1]'x3h = y := ⟨_, rfl⟩
      rw [y3x] at b1
      obtain ⟨c3, c3e⟩ : ∃ c, y3.toNat = c := ⟨_, rfl⟩
      rw [c3e] at b1
      obtain ⟨b2, b3⟩ := b1
      have n1 : ((c3 : Int) == 43) = false := beq_false_of_ne (by omega)
      have n2 : ((c3 : Int) == 45) = false := beq_false_of_ne (by omega)
      have m1 : decide ((c3 : Int) < 48) = false := decide_eq_false (by omega)
      have m2 : decide ((57 : Int) < (c3 : Int)) = false := decide_eq_false (by omega)
      obtain ⟨x2h, x2e⟩ := hsg
      obtain ⟨y2, y2x⟩ : ∃ y, s[p + 1]'x2h = y := ⟨_, rfl⟩
      rw [y2x] at x2e
      have cl := fun W => Tryz.internal_strconv_lower 101 W
      have o1 := or101
      obtain ⟨d, hd⟩ : ∃ d, st.dot = d := ⟨_, rfl⟩
      rw [hd] at hE ⊢
      have HGb := Lib.hid hGb
      have HG := Lib.hid hG
      have HG9 := Lib.hid hG9
      have HQ := Lib.hid hq
      have hps : p < s.size := x1h
      have hsz : s.size ≤ 1000 := by have := HS.out; omega
      clear hE0 hE1 HE1 hd hGb hG hG9 hq b0 hlt hk
      cases d
      · rw [if_neg (by decide)] at hE
        have HE := Lib.hid hE
        clear hE
        go_wp2_with fail
        refine (cl _).mono ?_
        rintro e w1 ⟨rfl, rfl⟩
        clear cl
        go_wp2_with fail
        go_loop [7, 9, 20] (fun i us ev => ∃ k : Nat, k ≤ G.length ∧ i = .int .i64 ((p + 1 + 1 + k : Nat) : Int) ∧ us = .bool false ∧ ev = .int .i64 (valZ (G.take k))) (fun i _ _ => s.size - (intOf i).toNat)
        case atStart => exact ⟨0, Nat.zero_le _, by go_num, rfl, rfl⟩
        case round =>
          obtain ⟨k, hk, rfl, rfl, rfl⟩ := hrel
          have hev : valZ (G.take k) ≤ 9999 := Nat.le_trans (valZ_take G k) HG9.out
          by_cases hlt : k < G.length
          · have hks : p + 1 + 1 + k < s.size := by have := HQ.out; omega
            have ez := HGb.out k hks
            have er := HG.out.getD hlt
            have hfs := valZ_snoc (G.take k) (G.getD k 0)
            rw [← take_succ_getD G k hlt, ← ez] at hfs
            rw [← ez] at er
            obtain ⟨y, hy⟩ : ∃ y, s[p + 1 + 1 + k]'hks = y := ⟨_, rfl⟩
            rw [hy] at hfs er
            obtain ⟨z, hzn⟩ : ∃ z, y.toNat = z := ⟨_, rfl⟩
            rw [hzn] at hfs er
            obtain ⟨ev, hee⟩ : ∃ ev, valZ (G.take k) = ev := ⟨_, rfl⟩
            rw [hee] at hfs hev ⊢
            obtain ⟨z0, z1⟩ := er
            have u1 : ((z : Int) == 95) = false := beq_false_of_ne (by omega)
            have v1 : decide ((48 : Int) ≤ (z : Int)) = true := decide_eq_true z0
            have v2 : decide ((z : Int) ≤ 57) = true := decide_eq_true z1
            have v3 : decide ((ev : Int) < 10000) = true := decide_eq_true (by omega)
            have HF := Lib.hid hfs
            clear hfs hee ez
            go_wp2
            refine ⟨⟨k + 1, by omega, by go_num, rfl, ?_⟩, ?_⟩
            · rw [HF.out]
              exact congrArg (Value.int .i64) (by omega)
            · show s.size - ((p : Int) + 1 + 1 + k + 1).toNat < s.size - (((p + 1 + 1 + k : Nat)) : Int).toNat
              omega
          · obtain rfl : k = G.length := by omega
            rw [List.take_length] at hev ⊢
            have hl : (((p + 1 + 1 + G.length : Nat)) : Int) = (s.size : Int) := by have := HQ.out; omega
            rw [hl]
            have x1 : decide ((s.size : Int) < (s.size : Int)) = false := decide_eq_false (by omega)
            obtain ⟨ev, hee⟩ : ∃ ev, valZ G = ev := ⟨_, rfl⟩
            have HV := Lib.hid hee
            rw [hee] at hev ⊢
            clear hee hl hlt
            go_wp2
            have hEE : E = (st.nd : Int) + -ev - st.ndm := by rw [HE.out, HX0.out, HV.out]; omega
            refine bodyPost_ret (v := .tuple #[.int .u64 st.m, .int .i64 ((st.nd : Int) + -ev - st.ndm), .bool false, .bool false, .bool false, .int .i64 s.size, .bool true]) (by simp [results, Tryz.results186, go_sem]) rfl ⟨by rw [HS.out, HST.out, hEE], Below.refl _ _⟩
      · rw [if_pos rfl] at hE
        have HE := Lib.hid hE
        clear hE
        go_wp2_with fail
        refine (cl _).mono ?_
        rintro e w1 ⟨rfl, rfl⟩
        clear cl
        go_wp2_with fail
        go_loop [7, 9, 20] (fun i us ev => ∃ k : Nat, k ≤ G.length ∧ i = .int .i64 ((p + 1 + 1 + k : Nat) : Int) ∧ us = .bool false ∧ ev = .int .i64 (valZ (G.take k))) (fun i _ _ => s.size - (intOf i).toNat)
        case atStart => exact ⟨0, Nat.zero_le _, by go_num, rfl, rfl⟩
        case round =>
          obtain ⟨k, hk, rfl, rfl, rfl⟩ := hrel
          have hev : valZ (G.take k) ≤ 9999 := Nat.le_trans (valZ_take G k) HG9.out
          by_cases hlt : k < G.length
          · have hks : p + 1 + 1 + k < s.size := by have := HQ.out; omega
            have ez := HGb.out k hks
            have er := HG.out.getD hlt
            have hfs := valZ_snoc (G.take k) (G.getD k 0)
            rw [← take_succ_getD G k hlt, ← ez] at hfs
            rw [← ez] at er
            obtain ⟨y, hy⟩ : ∃ y, s[p + 1 + 1 + k]'hks = y := ⟨_, rfl⟩
            rw [hy] at hfs er
            obtain ⟨z, hzn⟩ : ∃ z, y.toNat = z := ⟨_, rfl⟩
            rw [hzn] at hfs er
            obtain ⟨ev, hee⟩ : ∃ ev, valZ (G.take k) = ev := ⟨_, rfl⟩
            rw [hee] at hfs hev ⊢
            obtain ⟨z0, z1⟩ := er
            have u1 : ((z : Int) == 95) = false := beq_false_of_ne (by omega)
            have v1 : decide ((48 : Int) ≤ (z : Int)) = true := decide_eq_true z0
            have v2 : decide ((z : Int) ≤ 57) = true := decide_eq_true z1
            have v3 : decide ((ev : Int) < 10000) = true := decide_eq_true (by omega)
            have HF := Lib.hid hfs
            clear hfs hee ez
            go_wp2
            refine ⟨⟨k + 1, by omega, by go_num, rfl, ?_⟩, ?_⟩
            · rw [HF.out]
              exact congrArg (Value.int .i64) (by omega)
            · show s.size - ((p : Int) + 1 + 1 + k + 1).toNat < s.size - (((p + 1 + 1 + k : Nat)) : Int).toNat
              omega
          · obtain rfl : k = G.length := by omega
            rw [List.take_length] at hev ⊢
            have hl : (((p + 1 + 1 + G.length : Nat)) : Int) = (s.size : Int) := by have := HQ.out; omega
            rw [hl]
            have x1 : decide ((s.size : Int) < (s.size : Int)) = false := decide_eq_false (by omega)
            obtain ⟨ev, hee⟩ : ∃ ev, valZ G = ev := ⟨_, rfl⟩
            have HV := Lib.hid hee
            rw [hee] at hev ⊢
            clear hee hl hlt
            go_wp2
            have hEE : E = st.dp + -ev - st.ndm := by rw [HE.out, HX0.out, HV.out]; omega
            refine bodyPost_ret (v := .tuple #[.int .u64 st.m, .int .i64 (st.dp + -ev - st.ndm), .bool false, .bool false, .bool false, .int .i64 s.size, .bool true]) (by simp [results, Tryz.results186, go_sem]) rfl ⟨by rw [HS.out, HST.out, hEE], Below.refl _ _⟩
end Go.Proofs.YtbcolebomgcphaaGreatFmt
