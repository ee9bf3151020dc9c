/- The contracts of decimal, readFloat, value and Read at a written number's text. Each lemma's conditions stand in its own statement. The contracts of value and Read at a written number's text, at 0. Each lemma's conditions stand in its own statement. -/
import Derived.Test.YtbcolebomgcphaaGreatFmtRl
import Derived.Test.YtbcolebomgcphaaGreatFmtTg
import Derived.Test.YtbcolebomgcphaaGreatFmtSj0
import Derived.Test.YtbcolebomgcphaaGreatFmtSj1
import Derived.Test.YtbcolebomgcphaaGreatFmtSj2
import Derived.Test.YtbcolebomgcphaaGreatFmtSj3
namespace Go.Proofs.YtbcolebomgcphaaGreatFmt
open Go.RowKit Go.Sort

def IsB (l : List Int) : Prop := ∀ z ∈ l, 0 ≤ z ∧ z < 256
theorem byte_at {l : List Int} (hl : IsB l) {k c : Nat} (hk : k < l.length) (hc : l.getD k 0 = (c : Int)) : ByteAt (strOfNums l) k c := by
  have h : k < (strOfNums l).size := by rw [str_size]; exact hk
  exact ⟨h, by have := str_byte l hl k h; omega⟩
theorem byte_seg {l : List Int} (hl : IsB l) (P R : List Int) (c k : Nat) (hk : P.length = k) (e : l = P ++ (c : Int) :: R) : ByteAt (strOfNums l) k c :=
  byte_at hl (by rw [e]; simp; omega) (by rw [e, getD_right _ _ _ (by omega), hk, Nat.sub_self]; rfl)
theorem dgt_seg {l : List Int} (hl : IsB l) (P G R : List Int) (a b : Nat) (ha : P.length = a) (hb : a + G.length = b) (hG : IsDig G) (e : l = P ++ (G ++ R)) (j : Nat) (h0 : a ≤ j) (h1 : j < b) : DgtAt (strOfNums l) j := by
  have hk : j < l.length := by rw [e, List.length_append, List.length_append]; omega
  have h : j < (strOfNums l).size := by rw [str_size]; exact hk
  have hb := str_byte l hl j h
  have e2 : l.getD j 0 = G.getD (j - a) 0 := by rw [e, getD_right _ _ _ (by omega), getD_left _ _ _ (by omega), ha]
  rw [e2] at hb
  have hd := hG.getD (k := j - a) (by omega)
  exact ⟨h, by omega, by omega⟩
theorem dec_text (mp ex : List Int) (x : Int) (hsh : MpShape mp) (hex : ExT ex x) (hl : IsB (mp ++ ex)) (hn : (mp ++ ex).length ≤ 1000) (W : World) :
    Calls Tryz.prog 19 #[.string (strOfNums (mp ++ ex))] W (DcIs W (strOfNums (mp ++ ex)).size) := by
  obtain ⟨l, hle⟩ : ∃ l, mp ++ ex = l := ⟨_, rfl⟩
  rw [hle] at hl hn ⊢
  have hsz : (strOfNums l).size = l.length := str_size _
  have hG := IsDig.dec x.natAbs
  have hG0 := dec_pos x.natAbs
  obtain ⟨G, hGe⟩ : ∃ G, decZ x.natAbs = G := ⟨_, rfl⟩
  have hex' : ex = [] ∨ ex = 101 :: G ∨ ex = 101 :: 43 :: G ∨ ex = 101 :: 45 :: G := by
    rw [← hGe]
    rcases hex with ⟨e, _⟩ | ⟨_, _, ⟨e, _⟩ | ⟨e, _⟩ | ⟨e, _⟩⟩
    · exact .inl e
    · exact .inr (.inr (.inr e))
    · exact .inr (.inr (.inl e))
    · exact .inr (.inl e)
  rw [hGe] at hG hG0
  clear hex hGe
  obtain ⟨A, B, hA, hA0, hB, hmp⟩ := hsh
  obtain ⟨a, ha⟩ : ∃ a, A.length = a := ⟨_, rfl⟩
  obtain ⟨b, hb⟩ : ∃ b, B.length = b := ⟨_, rfl⟩
  obtain ⟨g, hg⟩ : ∃ g, G.length = g := ⟨_, rfl⟩
  rw [ha] at hA0
  rw [hg] at hG0
  rcases hmp with hmp | hmp
  · rcases hex' with hex | hex | hex | hex
    · rw [hmp, hex] at hle
      have hll : l.length = a := by rw [← hle]; simp [ha]
      rw [hll] at hsz hn
      have dA := dgt_seg hl [] A ([]) 0 a rfl (by omega) hA (by rw [← hle]; simp)
      exact decimal_00 _ a W (by omega) hA0 dA (by omega)
    · rw [hmp, hex] at hle
      have hll : l.length = a + 1 + g := by rw [← hle]; simp [ha, hg]; omega
      rw [hll] at hsz hn
      have dA := dgt_seg hl [] A (101 :: G) 0 a rfl (by omega) hA (by rw [← hle]; simp)
      have bE := byte_seg hl (A) (G) 101 (a) (by simp [ha]) (by rw [← hle]; simp)
      have dG := dgt_seg hl (A ++ [101]) G [] (a + 1) (a + 1 + g) (by simp [ha]) (by omega) hG (by rw [← hle]; simp)
      exact decimal_01 _ a (a) (a + 1) W (by omega) hA0 dA rfl bE rfl (by omega) (fun j h1 h2 => dG j h1 (by rwa [hsz] at h2))
    · rw [hmp, hex] at hle
      have hll : l.length = a + 2 + g := by rw [← hle]; simp [ha, hg]; omega
      rw [hll] at hsz hn
      have dA := dgt_seg hl [] A (101 :: 43 :: G) 0 a rfl (by omega) hA (by rw [← hle]; simp)
      have bE := byte_seg hl (A) (43 :: G) 101 (a) (by simp [ha]) (by rw [← hle]; simp)
      have bS := byte_seg hl (A ++ [101]) G 43 (a + 1) (by simp [ha]) (by rw [← hle]; simp)
      have dG := dgt_seg hl (A ++ [101, 43]) G [] (a + 2) (a + 2 + g) (by simp [ha]) (by omega) hG (by rw [← hle]; simp)
      exact decimal_02 _ a (a) (a + 2) W (by omega) hA0 dA rfl bE bS rfl (by omega) (fun j h1 h2 => dG j h1 (by rwa [hsz] at h2))
    · rw [hmp, hex] at hle
      have hll : l.length = a + 2 + g := by rw [← hle]; simp [ha, hg]; omega
      rw [hll] at hsz hn
      have dA := dgt_seg hl [] A (101 :: 45 :: G) 0 a rfl (by omega) hA (by rw [← hle]; simp)
      have bE := byte_seg hl (A) (45 :: G) 101 (a) (by simp [ha]) (by rw [← hle]; simp)
      have bS := byte_seg hl (A ++ [101]) G 45 (a + 1) (by simp [ha]) (by rw [← hle]; simp)
      have dG := dgt_seg hl (A ++ [101, 45]) G [] (a + 2) (a + 2 + g) (by simp [ha]) (by omega) hG (by rw [← hle]; simp)
      exact decimal_03 _ a (a) (a + 2) W (by omega) hA0 dA rfl bE bS rfl (by omega) (fun j h1 h2 => dG j h1 (by rwa [hsz] at h2))
  · rcases hex' with hex | hex | hex | hex
    · rw [hmp, hex] at hle
      have hll : l.length = a + 1 + b := by rw [← hle]; simp [ha, hb]; omega
      rw [hll] at hsz hn
      have dA := dgt_seg hl [] A (46 :: B ++ ([])) 0 a rfl (by omega) hA (by rw [← hle]; simp)
      have bD := byte_seg hl A (B ++ ([])) 46 a ha (by rw [← hle]; simp)
      have dB := dgt_seg hl (A ++ [46]) B ([]) (a + 1) (a + 1 + b) (by simp [ha]) (by omega) hB (by rw [← hle]; simp)
      exact decimal_10 _ a W (by omega) hA0 dA bD (by omega) (fun j h1 h2 => dB j h1 (by rwa [hsz] at h2))
    · rw [hmp, hex] at hle
      have hll : l.length = a + 1 + b + 1 + g := by rw [← hle]; simp [ha, hb, hg]; omega
      rw [hll] at hsz hn
      have dA := dgt_seg hl [] A (46 :: B ++ (101 :: G)) 0 a rfl (by omega) hA (by rw [← hle]; simp)
      have bD := byte_seg hl A (B ++ (101 :: G)) 46 a ha (by rw [← hle]; simp)
      have dB := dgt_seg hl (A ++ [46]) B (101 :: G) (a + 1) (a + 1 + b) (by simp [ha]) (by omega) hB (by rw [← hle]; simp)
      have bE := byte_seg hl (A ++ [46] ++ B) (G) 101 (a + 1 + b) (by simp [ha, hb]; omega) (by rw [← hle]; simp)
      have dG := dgt_seg hl (A ++ [46] ++ B ++ [101]) G [] (a + 1 + b + 1) (a + 1 + b + 1 + g) (by simp [ha, hb]; omega) (by omega) hG (by rw [← hle]; simp)
      exact decimal_11 _ a (a + 1 + b) (a + 1 + b + 1) W (by omega) hA0 dA bD (by omega) dB bE rfl (by omega) (fun j h1 h2 => dG j h1 (by rwa [hsz] at h2))
    · rw [hmp, hex] at hle
      have hll : l.length = a + 1 + b + 2 + g := by rw [← hle]; simp [ha, hb, hg]; omega
      rw [hll] at hsz hn
      have dA := dgt_seg hl [] A (46 :: B ++ (101 :: 43 :: G)) 0 a rfl (by omega) hA (by rw [← hle]; simp)
      have bD := byte_seg hl A (B ++ (101 :: 43 :: G)) 46 a ha (by rw [← hle]; simp)
      have dB := dgt_seg hl (A ++ [46]) B (101 :: 43 :: G) (a + 1) (a + 1 + b) (by simp [ha]) (by omega) hB (by rw [← hle]; simp)
      have bE := byte_seg hl (A ++ [46] ++ B) (43 :: G) 101 (a + 1 + b) (by simp [ha, hb]; omega) (by rw [← hle]; simp)
      have bS := byte_seg hl (A ++ [46] ++ B ++ [101]) G 43 (a + 1 + b + 1) (by simp [ha, hb]; omega) (by rw [← hle]; simp)
      have dG := dgt_seg hl (A ++ [46] ++ B ++ [101, 43]) G [] (a + 1 + b + 2) (a + 1 + b + 2 + g) (by simp [ha, hb]; omega) (by omega) hG (by rw [← hle]; simp)
      exact decimal_12 _ a (a + 1 + b) (a + 1 + b + 2) W (by omega) hA0 dA bD (by omega) dB bE bS rfl (by omega) (fun j h1 h2 => dG j h1 (by rwa [hsz] at h2))
    · rw [hmp, hex] at hle
      have hll : l.length = a + 1 + b + 2 + g := by rw [← hle]; simp [ha, hb, hg]; omega
      rw [hll] at hsz hn
      have dA := dgt_seg hl [] A (46 :: B ++ (101 :: 45 :: G)) 0 a rfl (by omega) hA (by rw [← hle]; simp)
      have bD := byte_seg hl A (B ++ (101 :: 45 :: G)) 46 a ha (by rw [← hle]; simp)
      have dB := dgt_seg hl (A ++ [46]) B (101 :: 45 :: G) (a + 1) (a + 1 + b) (by simp [ha]) (by omega) hB (by rw [← hle]; simp)
      have bE := byte_seg hl (A ++ [46] ++ B) (45 :: G) 101 (a + 1 + b) (by simp [ha, hb]; omega) (by rw [← hle]; simp)
      have bS := byte_seg hl (A ++ [46] ++ B ++ [101]) G 45 (a + 1 + b + 1) (by simp [ha, hb]; omega) (by rw [← hle]; simp)
      have dG := dgt_seg hl (A ++ [46] ++ B ++ [101, 45]) G [] (a + 1 + b + 2) (a + 1 + b + 2 + g) (by simp [ha, hb]; omega) (by omega) hG (by rw [← hle]; simp)
      exact decimal_13 _ a (a + 1 + b) (a + 1 + b + 2) W (by omega) hA0 dA bD (by omega) dB bE bS rfl (by omega) (fun j h1 h2 => dG j h1 (by rwa [hsz] at h2))
theorem tail_ex {l G : List Int} {p q : Nat} (hl : IsB l) (P : List Int) (hP : P.length = q) (hG : IsDig G) (hG0 : 0 < G.length) (h9 : valZ G ≤ 9999) (e : l = P ++ G) (b : ByteAt (strOfNums l) p 101) : TailEx (strOfNums l) p q G := by
  have hsz : (strOfNums l).size = l.length := str_size _
  have hll : l.length = q + G.length := by rw [e, List.length_append, hP]
  refine ⟨b, by omega, hG0, hG, fun j h => ?_, h9⟩
  rw [str_byte l hl, e, getD_right _ _ _ (by omega), hP, Nat.add_sub_cancel_left]
/-- readFloat: the digits' number and the power of ten. -/
theorem readf_text (mp ex : List Int) (x : Int) (D : Nat) (j : Int) (hsh : MpShape mp) (hex : ExT ex x) (hr : RdIs mp x D j) (h0 : 0 < D) (hl : IsB (mp ++ ex)) (hn : (mp ++ ex).length ≤ 1000) (hx : HexNo (strOfNums (mp ++ ex))) :
    ∃ (k : Nat) (E : Int), E + k = j ∧ D * 10 ^ k < 10000000000000000000 ∧ (k = 0 ∨ (0 ≤ E ∧ E ≤ 2)) ∧ ∀ W, Calls Tryz.prog 186 #[.string (strOfNums (mp ++ ex))] W (RfIs W (D * 10 ^ k) E (strOfNums (mp ++ ex)).size) := by
  obtain ⟨k, r1, r2, r3, r4, _, r6, r7⟩ := hr
  have hM : 0 < D * 10 ^ k := Nat.mul_pos h0 (Nat.pow_pos (by decide))
  have hsz : (strOfNums (mp ++ ex)).size = (mp ++ ex).length := str_size _
  have hsz2 : (mp ++ ex).length = mp.length + ex.length := List.length_append
  have hp := hsh.pos
  have hb : ∀ k (h : k < (strOfNums (mp ++ ex)).size), k < mp.length → ((((strOfNums (mp ++ ex))[k]'h).toNat : Nat) : Int) = mp.getD k 0 := fun k h hk => by
    rw [str_byte _ hl, getD_left _ _ _ hk]
  have hhd := hsh.head
  refine ⟨k, (if (rdFold rdStart mp).dot then (rdFold rdStart mp).dp else ((rdFold rdStart mp).nd : Int)) - (rdFold rdStart mp).ndm + x, by omega, r7, by omega, fun W => ?_⟩
  rw [← r3] at hM ⊢
  have hG := IsDig.dec x.natAbs
  have hG0 := dec_pos x.natAbs
  have hGv := valZ_dec x.natAbs
  rcases hex with ⟨e, hx0⟩ | ⟨x1, x2, ⟨e, hs⟩ | ⟨e, hs⟩ | ⟨e, hs⟩⟩
  · subst e
    exact read_0 _ mp _ W rfl (by omega) (by omega) hp hb hsh.isMp (by omega) hsh.dot hx r1 r2 x _ ⟨by rw [hsz]; simp, hx0⟩ (fun g => absurd g (by omega)) (fun _ => rfl)
  · obtain ⟨G, hGe⟩ : ∃ G, decZ x.natAbs = G := ⟨_, rfl⟩
    rw [hGe] at e hG hG0 hGv
    subst e
    exact read_3 _ mp _ W rfl (by omega) (by omega) hp hb hsh.isMp (by omega) hsh.dot hx r1 r2 x _ G
      (tail_ex hl (mp ++ [101, 45]) (by simp) hG hG0 (by omega) (by simp) (byte_seg hl mp (45 :: G) 101 _ rfl rfl)) (byte_seg hl (mp ++ [101]) G 45 _ (by simp) (by simp)) (by omega) (by omega) (fun _ => rfl)
  · obtain ⟨G, hGe⟩ : ∃ G, decZ x.natAbs = G := ⟨_, rfl⟩
    rw [hGe] at e hG hG0 hGv
    subst e
    exact read_2 _ mp _ W rfl (by omega) (by omega) hp hb hsh.isMp (by omega) hsh.dot hx r1 r2 x _ G
      (tail_ex hl (mp ++ [101, 43]) (by simp) hG hG0 (by omega) (by simp) (byte_seg hl mp (43 :: G) 101 _ rfl rfl)) (byte_seg hl (mp ++ [101]) G 43 _ (by simp) (by simp)) (by omega) (by omega) (fun _ => rfl)
  · obtain ⟨G, hGe⟩ : ∃ G, decZ x.natAbs = G := ⟨_, rfl⟩
    rw [hGe] at e hG hG0 hGv
    subst e
    exact read_1 _ mp _ W rfl (by omega) (by omega) hp hb hsh.isMp (by omega) hsh.dot hx r1 r2 x _ G
      (tail_ex hl (mp ++ [101]) (by simp) hG hG0 (by omega) (by simp) (byte_seg hl mp G 101 _ rfl rfl)) (by omega) (by omega) (fun _ => rfl)
end Go.Proofs.YtbcolebomgcphaaGreatFmt

namespace Go.Proofs.YtbcolebomgcphaaGreatFmt
open Go.RowKit Go.Sort

def RqIs (D : Nat) (j : Int) (y : Nat) : Prop := PsIs D j y ∧ y ≤ 9218868437227405312
theorem isB_of_dig {l : List Int} (h : ∀ z ∈ l, Dr.PlainU z) : IsB l := fun z hz => by have := h z hz; unfold Dr.PlainU at this; omega
theorem plain_mp {mp : List Int} (h : MpShape mp) : ∀ z ∈ mp, Dr.PlainU z := fun z hz => by
  unfold Dr.PlainU
  rcases h.isMp z hz with g | g <;> omega
theorem plain_dig {l : List Int} (h : IsDig l) : ∀ z ∈ l, Dr.PlainU z := fun z hz => by
  unfold Dr.PlainU
  have := h z hz
  omega
theorem plain_ex {ex : List Int} {x : Int} (h : ExT ex x) : ∀ z ∈ ex, Dr.PlainU z := by
  have hd := plain_dig (IsDig.dec x.natAbs)
  intro z hz
  rcases h with ⟨e, _⟩ | ⟨_, _, ⟨e, _⟩ | ⟨e, _⟩ | ⟨e, _⟩⟩
  · rw [e] at hz; simp at hz
  · rw [e] at hz
    rcases List.mem_cons.1 hz with g | hz
    · unfold Dr.PlainU; omega
    · rcases List.mem_cons.1 hz with g | hz
      · unfold Dr.PlainU; omega
      · exact hd z hz
  · rw [e] at hz
    rcases List.mem_cons.1 hz with g | hz
    · unfold Dr.PlainU; omega
    · rcases List.mem_cons.1 hz with g | hz
      · unfold Dr.PlainU; omega
      · exact hd z hz
  · rw [e] at hz
    rcases List.mem_cons.1 hz with g | hz
    · unfold Dr.PlainU; omega
    · exact hd z hz
theorem plain_app {a b : List Int} (ha : ∀ z ∈ a, Dr.PlainU z) (hb : ∀ z ∈ b, Dr.PlainU z) : ∀ z ∈ a ++ b, Dr.PlainU z := fun z hz => (List.mem_append.1 hz).elim (ha z) (hb z)
theorem hexNo_of {l : List Int} (hl : IsB l) (h0 : 0 < l.length) (h : NoHex l) : HexNo (strOfNums l) := by
  have h1 := hl (l.getD 0 0) (by rw [List.getD, List.getElem?_eq_getElem h0]; exact List.getElem_mem _)
  right
  refine ⟨(l.getD 0 0).toNat, byte_at hl h0 (by omega), ?_⟩
  rcases h with h | ⟨h2, h3⟩
  · exact .inl (by omega)
  · exact .inr ⟨46, byte_at hl h2 h3, by decide⟩
theorem hex_call {l : List Int} (hl : IsB l) (h0 : 0 < l.length) (hn : l.length ≤ 1000) (h : NoHex l) (W : World) : Calls Tryz.prog 15 #[.string (strOfNums l)] W (HxNo W) := by
  have hsz : (strOfNums l).size = l.length := str_size l
  rcases Nat.lt_or_ge l.length 3 with g | g
  · exact hex_short _ W (by omega)
  · have h1 := hl (l.getD 0 0) (by rw [List.getD, List.getElem?_eq_getElem h0]; exact List.getElem_mem _)
    rcases Nat.lt_trichotomy (l.getD 0 0).toNat 48 with e | e | e
    · exact hex_first _ W (by omega) (by omega) (l.getD 0 0).toNat (byte_at hl h0 (by omega)) (by omega)
    · rcases h with h | ⟨h2, h3⟩
      · omega
      · exact hex_point _ W (by omega) (by omega) (byte_at hl h0 (by omega)) (byte_at hl h2 h3)
    · exact hex_first _ W (by omega) (by omega) (l.getD 0 0).toNat (byte_at hl h0 (by omega)) (by omega)
set_option exponentiation.threshold 3000 in
/-- value: the nearest word. -/
theorem value_text (mp ex : List Int) (x : Int) (D : Nat) (j : Int) (hsh : MpShape mp) (hex : ExT ex x) (hr : RdIs mp x D j) (h0 : 0 < D) (hD : D < 144115188075855872) (hj0 : -1000 ≤ j) (hj1 : j ≤ 1000)
    (hn : (mp ++ ex).length ≤ 1000) (hh : NoHex (mp ++ ex)) (W : World) (hT : RdTab W) (hE : ErTab W) : Calls Tryz.prog 20 #[.string (strOfNums (mp ++ ex))] W (VlIs (RqIs D j) W) := by
  have hl := isB_of_dig (plain_app (plain_mp hsh) (plain_ex hex))
  have hsz : (strOfNums (mp ++ ex)).size = (mp ++ ex).length := str_size _
  have hlen : (mp ++ ex).length = mp.length + ex.length := List.length_append
  have hp := hsh.pos
  obtain ⟨k, E, e1, e2, e3, cr⟩ := readf_text mp ex x D j hsh hex hr h0 hl hn (hexNo_of hl (by omega) hh)
  have hk : k < 20 := by
    rcases Nat.lt_or_ge k 20 with g | g
    · exact g
    · exfalso
      have h1 : 10 ^ 20 ≤ 10 ^ k := Nat.pow_le_pow_right (by decide) g
      have h2 : 10 ^ k ≤ D * 10 ^ k := Nat.le_mul_of_pos_left _ h0
      have h3 : (10 : Nat) ^ 20 = 100000000000000000000 := by decide
      omega
  have hb : D * 10 ^ k < 144115188075855872 ∨ (0 ≤ E ∧ E ≤ 4) := by
    rcases e3 with g | g
    · subst g; exact .inl (by simpa using hD)
    · exact .inr ⟨g.1, by omega⟩
  have hdb := str_byte (mp ++ ex) hl 0 (by omega)
  rw [getD_left _ _ _ hp] at hdb
  have hhd := hsh.head
  have cs := special_digit (strOfNums (mp ++ ex)) W (by omega) (by omega) (by omega) (by omega)
  have ca := atof64_any _ (D * 10 ^ k) (strOfNums (mp ++ ex)).size E W (Nat.mul_pos h0 (Nat.pow_pos (by decide))) e2 (by omega) (by omega) hb hT cs cr
  refine value_any (RqIs D j) _ _ W rfl (by omega) hE (ca.mono ?_)
  rintro e w' ⟨y, er, rfl, her, hps, hle, hbl⟩
  exact ⟨y, er, rfl, her, ⟨hps.zeros e1, hle⟩, hbl⟩
theorem pre_no (c d : UInt8) (l : List UInt8) (h : c ≠ d) : Lib.hasPrefix (c :: l) [d] = false := by
  unfold Lib.hasPrefix
  simp [List.isPrefixOf]
  exact fun g => absurd g.symm h
theorem pre_yes (c : UInt8) (l : List UInt8) : Lib.hasPrefix (c :: l) [c] = true := by
  unfold Lib.hasPrefix
  simp [List.isPrefixOf]
theorem str_cons (c : Int) (l : List Int) : (strOfNums (c :: l)).data.toList = byt c :: (strOfNums l).data.toList := by rw [str_data, str_data]; rfl
theorem byt_inj {a b : Int} (ha : 0 ≤ a ∧ a < 256) (hb : 0 ≤ b ∧ b < 256) (h : byt a = byt b) : a = b := by
  have := congrArg UInt8.toNat h
  unfold byt at this
  rw [UInt8.toNat_ofNat', UInt8.toNat_ofNat'] at this
  omega
theorem signed_dig (c : Int) (l : List Int) (hc : 48 ≤ c ∧ c ≤ 57) (W : World) : Calls Tryz.prog 17 #[.string (strOfNums (c :: l))] W (SgIs W 4607182418800017408 (strOfNums (c :: l))) := by
  refine signed_plain _ W ?_ ?_
  · rw [str_cons]
    exact pre_no _ _ _ (fun h => by have := byt_inj (a := c) (b := 45) (by omega) (by omega) h; omega)
  · rw [str_cons]
    exact pre_no _ _ _ (fun h => by have := byt_inj (a := c) (b := 43) (by omega) (by omega) h; omega)
theorem signed_neg (l : List Int) (hn : l.length ≤ 900) (W : World) : Calls Tryz.prog 17 #[.string (strOfNums (45 :: l))] W (SgIs W 13830554455654793216 (strOfNums l)) := by
  have hsz : (strOfNums (45 :: l)).size = l.length + 1 := by rw [str_size]; rfl
  refine signed_minus _ _ W ?_ (by omega) (by omega) ?_
  · rw [str_cons]
    exact pre_yes 45 _
  · exact str_drop (45 :: l) 1
theorem not_inf (c : Int) (l : List Int) (hc : 48 ≤ c ∧ c ≤ 57) : ((strOfNums (c :: l)).toList == [73, 110, 102, 105, 110, 105, 116, 121]) = false := by
  rw [ByteArray.toList_eq, str_cons]
  have h : byt c ≠ 73 := fun h => by have := byt_inj (a := c) (b := 73) (by omega) (by omega) h; omega
  simp [h]
theorem isB_first {l : List Int} {c : Int} {r : List Int} (e : l = c :: r) : l.getD 0 0 = c := by rw [e]; rfl
/-- Read: the nearest word. -/
theorem read_text_pos (mp ex : List Int) (x : Int) (D : Nat) (j : Int) (hsh : MpShape mp) (hex : ExT ex x) (hr : RdIs mp x D j) (h0 : 0 < D) (hD : D < 144115188075855872) (hj0 : -1000 ≤ j) (hj1 : j ≤ 1000)
    (hn : (mp ++ ex).length ≤ 900) (hh : NoHex (mp ++ ex)) (w : World) (hU : Lib.Utf8Tabs 7 8 w) (hT : RdTab w) (hE : ErTab w) : Calls Tryz.prog 6 #[.string (strOfNums (mp ++ ex))] w (VlIs (fun z => ∃ y, RqIs D j y ∧ z = y) w) := by
  have hpl := plain_app (plain_mp hsh) (plain_ex hex)
  have hl := isB_of_dig hpl
  have hsz : (strOfNums (mp ++ ex)).size = (mp ++ ex).length := str_size _
  have hlen : (mp ++ ex).length = mp.length + ex.length := List.length_append
  have hp := hsh.pos
  have hhd := hsh.head
  rw [← getD_left mp ex 0 hp] at hhd
  have cV := fun W => value_text mp ex x D j hsh hex hr h0 hD hj0 hj1 (by omega) hh W
  have cD := dec_text mp ex x hsh hex hl (by omega)
  have h1 : 0 < (mp ++ ex).length := by omega
  obtain ⟨l, hle⟩ : ∃ l, mp ++ ex = l := ⟨_, rfl⟩
  rw [hle] at hpl hl hsz hhd cV cD hh hn h1 ⊢
  obtain ⟨c, r, e⟩ : ∃ c r, l = c :: r := by
    cases l with
    | nil => simp at h1
    | cons c r => exact ⟨c, r, rfl⟩
  rw [isB_first e] at hhd
  refine rd_num _ (strOfNums l) 4607182418800017408 (fun y => y) (RqIs D j) w (Dr.trim_same l w hU hpl h1 (by omega)) (by omega) (hex_call hl h1 (by omega) hh) ?_ ?_ (by omega) cD hT hE cV (fun y hy => one_mul hy.2)
  · rw [e]; exact signed_dig c r hhd
  · rw [e]; exact not_inf c r hhd
theorem read_text_neg (mp ex : List Int) (x : Int) (D : Nat) (j : Int) (hsh : MpShape mp) (hex : ExT ex x) (hr : RdIs mp x D j) (h0 : 0 < D) (hD : D < 144115188075855872) (hj0 : -1000 ≤ j) (hj1 : j ≤ 1000)
    (hn : (mp ++ ex).length ≤ 900) (hh : NoHex (mp ++ ex)) (w : World) (hU : Lib.Utf8Tabs 7 8 w) (hT : RdTab w) (hE : ErTab w) : Calls Tryz.prog 6 #[.string (strOfNums (45 :: (mp ++ ex)))] w (VlIs (fun z => ∃ y, RqIs D j y ∧ z = 9223372036854775808 + y) w) := by
  have hpl := plain_app (plain_mp hsh) (plain_ex hex)
  have hl := isB_of_dig hpl
  have hsz : (strOfNums (mp ++ ex)).size = (mp ++ ex).length := str_size _
  have hlen : (mp ++ ex).length = mp.length + ex.length := List.length_append
  have hp := hsh.pos
  have hhd := hsh.head
  rw [← getD_left mp ex 0 hp] at hhd
  have cV := fun W => value_text mp ex x D j hsh hex hr h0 hD hj0 hj1 (by omega) hh W
  have cD := dec_text mp ex x hsh hex hl (by omega)
  have h1 : 0 < (mp ++ ex).length := by omega
  obtain ⟨l, hle⟩ : ∃ l, mp ++ ex = l := ⟨_, rfl⟩
  rw [hle] at hpl hl hsz hhd cV cD hn h1 ⊢
  obtain ⟨c, r, e⟩ : ∃ c r, l = c :: r := by
    cases l with
    | nil => simp at h1
    | cons c r => exact ⟨c, r, rfl⟩
  rw [isB_first e] at hhd
  have hpl2 : ∀ z ∈ (45 :: l : List Int), Dr.PlainU z := fun z hz => by
    rcases List.mem_cons.1 hz with g | hz
    · unfold Dr.PlainU; omega
    · exact hpl z hz
  have h2 : (45 :: l : List Int).length = l.length + 1 := rfl
  have hsz2 : (strOfNums (45 :: l)).size = l.length + 1 := str_size _
  refine rd_num _ (strOfNums l) 13830554455654793216 (fun y => 9223372036854775808 + y) (RqIs D j) w (Dr.trim_same (45 :: l) w hU hpl2 (by omega) (by omega)) (by omega) (hex_call (isB_of_dig hpl2) (by omega) (by omega) (.inl (show (45 : Int) ≠ 48 by decide))) (signed_neg l (by omega)) ?_ (by omega) cD hT hE cV (fun y hy => mone_mul hy.2)
  rw [e]; exact not_inf c r hhd
theorem shape_zero : MpShape [48] := ⟨[48], [], fun z hz => by simp at hz; omega, by decide, fun z hz => by simp at hz, .inl rfl⟩
theorem value_zero (W : World) (hT : RdTab W) (hE : ErTab W) : Calls Tryz.prog 20 #[.string (strOfNums [48])] W (VlIs (fun y => y = 0) W) := by
  have hsz : (strOfNums [48]).size = 1 := by decide
  have hl : IsB [48] := isB_of_dig (plain_mp shape_zero)
  have cr : ∀ W, Calls Tryz.prog 186 #[.string (strOfNums [48])] W (RfIs W 0 0 (strOfNums [48]).size) := fun W =>
    read_0 _ [48] _ W rfl (by omega) (by simp [hsz]) (by decide) (fun k h _ => str_byte _ hl k h) shape_zero.isMp (by decide) shape_zero.dot (.inl (by omega)) (by decide) (by decide) 0 0 ⟨by rw [hsz]; rfl, rfl⟩ (fun _ => rfl) (fun g => absurd (by decide) g)
  have hb := str_byte [48] hl 0 (by omega)
  have cs := special_digit (strOfNums [48]) W (by omega) (by omega) (by have : ([48] : List Int).getD 0 0 = 48 := rfl; omega) (by have : ([48] : List Int).getD 0 0 = 48 := rfl; omega)
  refine value_any (fun y => y = 0) _ _ W rfl (by omega) hE ((atof64_zero _ _ W hT cs cr).mono ?_)
  rintro e w' ⟨rfl, hbl⟩
  exact ⟨0, .nilIface, rfl, .inl rfl, rfl, hbl⟩
theorem read_zero_text (w : World) (hU : Lib.Utf8Tabs 7 8 w) (hT : RdTab w) (hE : ErTab w) : Calls Tryz.prog 6 #[.string (strOfNums [48])] w (VlIs (fun z => ∃ y, y = 0 ∧ z = y) w) := by
  have hpl := plain_mp shape_zero
  have hl := isB_of_dig hpl
  have hsz : (strOfNums [48]).size = 1 := by decide
  exact rd_num _ (strOfNums [48]) 4607182418800017408 (fun y => y) (fun y => y = 0) w (Dr.trim_same [48] w hU hpl (by decide) (by decide)) (by omega) (fun W => hex_short _ W (by omega)) (signed_dig 48 [] (by decide)) (not_inf 48 [] (by decide)) (by omega)
    (dec_text [48] [] 0 shape_zero (.inl ⟨rfl, rfl⟩) hl (by decide)) hT hE value_zero (fun y hy => by subst hy; exact one_mul (by decide))
end Go.Proofs.YtbcolebomgcphaaGreatFmt
