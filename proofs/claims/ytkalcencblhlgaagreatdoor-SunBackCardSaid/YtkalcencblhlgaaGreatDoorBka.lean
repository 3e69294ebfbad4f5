/- A sky's text that was printed is parsed as it was told; without its last byte it is not. Conditions: skies without an error. (Turned from salt's.) -/
import Derived.Test.YtkalcencblhlgaaGreatDoorPsr
namespace Go.Ev
open Go Go.Proofs
set_option maxRecDepth 100000
def catL (c : UInt8) : List (List UInt8) → List UInt8
 | [] => []
 | L :: l => L ++ (c :: catL c l)
theorem catL_snoc (c : UInt8) (L : List UInt8) : ∀ l, catL c (l ++ [L]) = catL c l ++ (L ++ [c])
 | [] => by simp [catL]
 | M :: l => by simp [catL, catL_snoc c L l]
theorem get_of {s : ByteArray} {q : Nat} {b : UInt8} (h : s.data.toList[q]? = some b) : s.get! q = b := by
 have hlt : q < s.size := by
  have := (List.getElem?_eq_some_iff.1 h).1
  rw [Array.length_toList] at this
  exact this
 rw [get_list hlt] at h
 exact Option.some.inj h
theorem size_list (s : ByteArray) : s.size = s.data.toList.length := by rw [Array.length_toList]; rfl
theorem nxt_in {s : ByteArray} {c : UInt8} {P L X : List UInt8} (hs : s.data.toList = P ++ (L ++ (c :: X))) (hL : ∀ b ∈ L, b ≠ c) : nxt s c P.length = P.length + L.length := by
 have hsz : s.size = P.length + (L.length + (X.length + 1)) := by rw [size_list, hs]; simp
 refine nxt_uniq (by omega) (by omega) (fun r h1 h2 he => ?_) fun _ => ?_
 ·have hr : s.data.toList[r]? = some (L[r - P.length]'(by omega)) := by
   rw [hs, List.getElem?_append_right h1, List.getElem?_append_left (by omega), List.getElem?_eq_getElem]
  rw [get_of hr] at he
  exact hL _ (List.getElem_mem _) he
 ·refine get_of ?_
  rw [hs, List.getElem?_append_right (by omega), List.getElem?_append_right (by omega)]
  simp
theorem nxt_out {s : ByteArray} {c : UInt8} {P R : List UInt8} (hs : s.data.toList = P ++ R) (hR : ∀ b ∈ R, b ≠ c) : nxt s c P.length = s.size := by
 have hsz : s.size = P.length + R.length := by rw [size_list, hs]; simp
 refine nxt_uniq (by omega) (Nat.le_refl _) (fun r h1 h2 he => ?_) fun h => by omega
 have hr : s.data.toList[r]? = some (R[r - P.length]'(by omega)) := by
  rw [hs, List.getElem?_append_right h1, List.getElem?_eq_getElem]
 rw [get_of hr] at he
 exact hR _ (List.getElem_mem _) he
theorem ext_mid {s : ByteArray} {P L X : List UInt8} (hs : s.data.toList = P ++ (L ++ X)) : s.extract P.length (P.length + L.length) = ⟨L.toArray⟩ := by
 refine ByteArray.ext (Array.toList_inj.1 ?_)
 rw [ByteArray.data_extract, Array.toList_extract, List.extract_eq_take_drop, hs]
 simp
theorem parts_main (c : UInt8) (s : ByteArray) : ∀ (Ls : List (List UInt8)) (P R : List UInt8), s.data.toList = P ++ (catL c Ls ++ R) → (∀ L ∈ Ls, ∀ b ∈ L, b ≠ c) → (∀ b ∈ R, b ≠ c) →
  (∀ j L, Ls[j]? = some L → s.extract (beg s c P.length j) (nxt s c (beg s c P.length j)) = ⟨L.toArray⟩ ∧ nxt s c (beg s c P.length j) < s.size) ∧ s.extract (beg s c P.length Ls.length) (nxt s c (beg s c P.length Ls.length)) = ⟨R.toArray⟩ ∧ nxt s c (beg s c P.length Ls.length) = s.size ∧ beg s c P.length Ls.length + R.length = s.size
 | [], P, R, hs, _, hR => by
  have hs : s.data.toList = P ++ R := hs
  have hsz : s.size = P.length + R.length := by rw [size_list, hs]; simp
  have hn := nxt_out hs hR
  refine ⟨fun j L h => (by simp at h), ?_, hn, ?_⟩
  ·show s.extract P.length (nxt s c P.length) = _
   rw [hn, hsz]
   exact ext_mid (X := []) (by rw [hs, List.append_nil])
  ·show P.length + R.length = s.size
   omega
 | L :: l, P, R, hs, hLs, hR => by
  have hs : s.data.toList = P ++ ((L ++ (c :: catL c l)) ++ R) := hs
  have hs1 : s.data.toList = P ++ (L ++ (c :: (catL c l ++ R))) := by rw [hs]; simp
  have hs2 : s.data.toList = (P ++ (L ++ [c])) ++ (catL c l ++ R) := by rw [hs]; simp
  have hn := nxt_in hs1 (hLs L (by simp))
  have hP : (P ++ (L ++ [c])).length = nxt s c P.length + 1 := by rw [hn]; simp; omega
  obtain ⟨a1, a2, a3, a4⟩ := parts_main c s l (P ++ (L ++ [c])) R hs2 (fun M hM => hLs M (by simp [hM])) hR
  rw [hP] at a1 a2 a3 a4
  have hsz : s.size = P.length + (L.length + ((catL c l ++ R).length + 1)) := by rw [size_list, hs1]; simp
  refine ⟨fun j M hM => ?_, ?_, ?_, ?_⟩
  ·cases j with
   | zero =>
    simp only [List.getElem?_cons_zero, Option.some.injEq] at hM
    subst hM
    refine ⟨?_, ?_⟩
    ·show s.extract P.length (nxt s c P.length) = _
     rw [hn]
     exact ext_mid hs1
    ·show nxt s c P.length < _
     omega
   | succ j =>
    rw [beg_next]
    exact a1 j M (by simpa using hM)
  ·rw [List.length_cons, beg_next]; exact a2
  ·rw [List.length_cons, beg_next]; exact a3
  ·rw [List.length_cons, beg_next]; exact a4
theorem text_parts {c : UInt8} {s : ByteArray} {Ls : List (List UInt8)} {R : List UInt8} (hs : s.data.toList = catL c Ls ++ R) (hLs : ∀ L ∈ Ls, ∀ b ∈ L, b ≠ c) (hR : ∀ b ∈ R, b ≠ c) :
  cntA s c = Ls.length ∧ (∀ j L, Ls[j]? = some L → Proofs.part s c j = ⟨L.toArray⟩) ∧ Proofs.part s c Ls.length = ⟨R.toArray⟩ ∧ beg s c 0 Ls.length + R.length = s.size := by
 obtain ⟨a1, a2, a3, a4⟩ := parts_main c s Ls [] R hs hLs hR
 have hc : cntA s c = Ls.length := by
  rcases Nat.lt_trichotomy (cntA s c) Ls.length with h | h | h
  ·have h1 := (a1 (cntA s c) _ (List.getElem?_eq_getElem h)).2
   have h2 := (part_last s c).1
   simp only [List.length_nil] at h1
   omega
  ·exact h
  ·have h1 := part_in s c h
   simp only [List.length_nil] at a3
   omega
 exact ⟨hc, fun j L h => (a1 j L h).1, a2, a4⟩
theorem text_words {s : ByteArray} {Ls : List (List UInt8)} {R : List UInt8} (hs : s.data.toList = catL 32 Ls ++ R) (hLs : ∀ L ∈ Ls, ∀ b ∈ L, b ≠ 32) (hR : ∀ b ∈ R, b ≠ 32) :
  wrdN s 32 = Ls.length + 1 ∧ (∀ j L, (Ls ++ [R])[j]? = some L → wd s j = ⟨L.toArray⟩) := by
 obtain ⟨h1, h2, h3, _⟩ := text_parts hs hLs hR
 refine ⟨by rw [wrdN_is, h1], fun j L hj => ?_⟩
 unfold wd
 rcases Nat.lt_trichotomy j Ls.length with h | h | h
 ·rw [wrdF_is s 32 (by omega)]
  exact h2 j L (by rw [List.getElem?_append_left h] at hj; exact hj)
 ·subst h
  rw [wrdF_is s 32 (by omega), h3]
  rw [List.getElem?_append_right (Nat.le_refl _)] at hj
  simp at hj
  rw [hj]
 ·rw [List.getElem?_eq_none (by simp; omega)] at hj
  cases hj
theorem dig_byte (u : Nat) (h : u < 10) : (UInt8.ofNat (48 + u)).toNat = 48 + u := by
 rw [UInt8.toNat_ofNat_of_lt' (by show 48 + u < 256; omega)]
theorem dec_dig : ∀ (k u : Nat) (b : UInt8), b ∈ decW k u → 48 ≤ b.toNat ∧ b.toNat ≤ 57
 | 0, _, b, h => by simp [decW] at h
 | k + 1, u, b, h => by
  unfold decW at h
  split at h
  ·rename_i hu
   rw [Nat.blt_eq] at hu
   simp only [List.mem_singleton] at h
   subst h
   rw [dig_byte u hu]; omega
  ·rcases List.mem_append.1 h with h | h
   ·exact dec_dig k _ b h
   ·simp only [List.mem_singleton] at h
    subst h
    rw [dig_byte _ (Nat.mod_lt _ (by decide))]
    have := Nat.mod_lt u (show 10 > 0 by decide)
    omega
theorem dec_val (s : ByteArray) : ∀ (k u : Nat) (t : List UInt8), u < 10 ^ k → 0 < k → s.data.toList = decW k u ++ t → valN s (decW k u).length = (u : Int)
 | 0, _, _, _, h, _ => by omega
 | k + 1, u, t, hu, _, hs => by
  unfold decW at hs ⊢
  split at hs
  ·rename_i hlt
   rw [Nat.blt_eq] at hlt
   have h0 : s.get! 0 = UInt8.ofNat (48 + u) := get_of (by rw [hs]; rfl)
   show 10 * valN s 0 + ((byt s 0 : Int) - 48) = _
   unfold byt
   rw [h0, dig_byte u hlt]
   show 10 * (0 : Int) + (((48 + u : Nat) : Int) - 48) = _
   omega
  ·rename_i hlt
   have hge : 10 ≤ u := by
    rcases Nat.lt_or_ge u 10 with h | h
    ·rw [(show Nat.blt u 10 = true by rw [Nat.blt_eq]; exact h)] at hlt; cases hlt
    ·exact h
   have hk : 0 < k := by
    rcases Nat.eq_zero_or_pos k with h | h
    ·subst h; simp at hu; omega
    ·exact h
   have hm := Nat.mod_lt u (show 10 > 0 by decide)
   have ih := dec_val s k (u / 10) ([UInt8.ofNat (48 + u % 10)] ++ t) (by rw [Nat.pow_succ] at hu; omega) hk (by rw [hs, List.append_assoc])
   have hb : s.get! (decW k (u / 10)).length = UInt8.ofNat (48 + u % 10) := get_of (by
    rw [hs, List.append_assoc, List.getElem?_append_right (Nat.le_refl _)]
    simp)
   show valN s (decW k (u / 10) ++ [UInt8.ofNat (48 + u % 10)]).length = _
   rw [List.length_append]
   show 10 * valN s (decW k (u / 10)).length + ((byt s (decW k (u / 10)).length : Int) - 48) = _
   unfold byt
   rw [ih, hb, dig_byte _ hm]
   omega
theorem dec_short : ∀ (m k u : Nat), u < 10 ^ m → 0 < m → (decW k u).length ≤ m
 | 0, _, _, _, h => by omega
 | m + 1, 0, _, _, _ => by simp [decW]
 | m + 1, k + 1, u, hu, _ => by
  unfold decW
  split
  ·simp
  ·rename_i hlt
   have hge : 10 ≤ u := by
    rcases Nat.lt_or_ge u 10 with h | h
    ·rw [(show Nat.blt u 10 = true by rw [Nat.blt_eq]; exact h)] at hlt; cases hlt
    ·exact h
   have hm : 0 < m := by
    rcases Nat.eq_zero_or_pos m with h | h
    ·subst h; simp at hu; omega
    ·exact h
   have := dec_short m k (u / 10) (by rw [Nat.pow_succ] at hu; omega) hm
   rw [List.length_append]
   simp
   exact this
theorem dec_head : ∀ (k u : Nat), 0 < k → u < 10 ^ k → ∃ b l, decW k u = b :: l ∧ (b.toNat = 48 → u = 0 ∧ l = [])
 | 0, _, h, _ => by omega
 | k + 1, u, _, hu => by
  unfold decW
  split
  ·rename_i hlt
   rw [Nat.blt_eq] at hlt
   exact ⟨_, [], rfl, fun h => by rw [dig_byte u hlt] at h; exact ⟨by omega, rfl⟩⟩
  ·rename_i hlt
   have hge : 10 ≤ u := by
    rcases Nat.lt_or_ge u 10 with h | h
    ·rw [(show Nat.blt u 10 = true by rw [Nat.blt_eq]; exact h)] at hlt; cases hlt
    ·exact h
   have hk : 0 < k := by
    rcases Nat.eq_zero_or_pos k with h | h
    ·subst h; simp at hu; omega
    ·exact h
   obtain ⟨b, l, e, hb⟩ := dec_head k (u / 10) hk (by rw [Nat.pow_succ] at hu; omega)
   exact ⟨b, l ++ [UInt8.ofNat (48 + u % 10)], by rw [e]; rfl, fun h => by have := (hb h).1; omega⟩
theorem txt_dec {n : Int} (h0 : 0 ≤ n) : (txtB n).data.toList = decW 20 n.toNat := by
 obtain ⟨u, rfl⟩ := Int.eq_ofNat_of_zero_le h0
 show (itoaW (u : Int)).toArray.toList = _
 rw [List.toList_toArray]
 rfl
theorem txt_no {n : Int} (h0 : 0 ≤ n) {c : UInt8} (hc : c.toNat < 48) : ∀ b ∈ (txtB n).data.toList, b ≠ c := fun b hb he => by
 rw [txt_dec h0] at hb
 have := (dec_dig _ _ b hb).1
 rw [he] at this
 omega
theorem txt_neg {u : Nat} (h : 0 < u) : (txtB (-(u : Int))).data.toList = 45 :: decW 20 u := by
 obtain ⟨k, rfl⟩ : ∃ k, u = k + 1 := ⟨u - 1, by omega⟩
 show (itoaW (-((k + 1 : Nat) : Int))).toArray.toList = _
 rw [List.toList_toArray]
 rfl
theorem txt_low (n : Int) {c : UInt8} (hc : c.toNat < 45) : ∀ b ∈ (txtB n).data.toList, b ≠ c := fun b hb he => by
 rcases Int.lt_or_le n 0 with h | h
 ·obtain ⟨u, rfl⟩ : ∃ u : Nat, n = -(u : Int) := ⟨n.natAbs, by omega⟩
  rw [txt_neg (by omega)] at hb
  rcases List.mem_cons.1 hb with rfl | hb
  ·rw [← he] at hc
   exact absurd hc (by decide)
  ·have := (dec_dig _ _ b hb).1
   rw [he] at this
   omega
 ·exact txt_no (c := c) h (by omega) b hb he
theorem dig_txt {u : Nat} (h1 : u < 1000000000) {s : ByteArray} (hd : s.data.toList = decW 20 u) : Proofs.intD s = ((u : Int), true) := by
 have hlt : u < 10 ^ 20 := Nat.lt_of_lt_of_le h1 (by decide)
 have hlt2 : u < 10 ^ 9 := Nat.lt_of_lt_of_le h1 (by decide)
 have hsz : s.size = (decW 20 u).length := by rw [size_list, hd]
 have hs10 : s.size ≤ 9 := by rw [hsz]; exact dec_short 9 20 u hlt2 (by decide)
 have hdig : ∀ j, j < s.size → digB (byt s j) = true := fun j hj => by
  have hj2 : j < s.data.toList.length := by rw [← size_list]; exact hj
  have hg := get_of (s := s) (q := j) (List.getElem?_eq_getElem hj2)
  unfold byt
  rw [hg]
  refine digB_iff.2 (dec_dig 20 u _ ?_)
  rw [← hd]
  exact List.getElem_mem _
 obtain ⟨b, l, e, hb⟩ := dec_head 20 u (by decide) hlt
 have hv : valN s s.size = (u : Int) := by
  rw [hsz]
  exact dec_val s 20 u [] hlt (by decide) (by rw [hd, List.append_nil])
 rw [Proofs.intD_good hs10 hdig (by rw [hsz, e]; simp) fun h => ?_, hv]
 have h2 : s.get! 0 = b := get_of (by rw [hd, e]; rfl)
 unfold byt at h
 rw [h2] at h
 have := (hb h).2
 rw [hsz, e, this]; rfl
def nuB (x : Int) : Prop := -999999999 ≤ x ∧ x ≤ 999999999
theorem int_txt {n : Int} (h0 : nuB n) : gS (txtB n) = true ∧ vS (txtB n) = n := by
 have key : ∀ {a : ByteArray} {v : Int}, intS a = (v, true) → gS a = true ∧ vS a = v := fun {a v} h => by
  unfold gS vS
  rw [h]
  exact ⟨rfl, rfl⟩
 unfold nuB at h0
 refine key ?_
 rcases Int.lt_or_le n 0 with h | h
 ·obtain ⟨u, rfl⟩ : ∃ u : Nat, n = -(u : Int) := ⟨n.natAbs, by omega⟩
  have hl := txt_neg (u := u) (by omega)
  have hsz : (txtB (-(u : Int))).size = (decW 20 u).length + 1 := by rw [size_list, hl]; rfl
  have h0 : (txtB (-(u : Int))).get! 0 = 45 := get_of (by rw [hl]; rfl)
  have hn : negB (txtB (-(u : Int))) = true := by
   unfold negB
   rw [show Int.toNat 0 = 0 from rfl, h0, hsz]
   simp
  have hr : (restB (txtB (-(u : Int)))).data.toList = decW 20 u := by
   unfold restB
   rw [hn]
   simp only
   rw [ByteArray.data_extract, Array.toList_extract, List.extract_eq_take_drop, hsz, hl]
   simp
  have hd := dig_txt (u := u) (by omega) hr
  unfold intS inTx
  rw [hn]
  simp only
  unfold gD vD
  rw [hd]
  have : ((u : Int) == 0) = false := by rw [beq_eq_false_iff_ne]; omega
  simp only [this, Bool.not_false, Bool.and_true]
 ·obtain ⟨u, rfl⟩ := Int.eq_ofNat_of_zero_le h
  have hl := txt_dec h
  rw [Int.toNat_natCast] at hl
  obtain ⟨b, l, e, hb⟩ := dec_head 20 u (by decide) (Nat.lt_of_lt_of_le (show u < 1000000000 by omega) (by decide))
  have h0 : (txtB (u : Int)).get! 0 = b := get_of (by rw [hl, e]; rfl)
  have hbd := (dec_dig 20 u b (by rw [e]; simp)).1
  have hn : negB (txtB (u : Int)) = false := by
   unfold negB
   rw [show Int.toNat 0 = 0 from rfl, h0]
   have : ((b.toNat : Int) == 45) = false := by rw [beq_eq_false_iff_ne]; omega
   rw [this, Bool.and_false]
  unfold intS inTx restB
  rw [hn]
  exact dig_txt (by omega) hl
def lnL0 (nm : ByteArray) : List UInt8 := sSkyW.data.toList ++ (32 :: nm.data.toList)
def lnL1 (t x y z : Int) : List UInt8 := sSun.data.toList ++ (32 :: ((txtB t).data.toList ++ (32 :: ((txtB x).data.toList ++ (32 :: ((txtB y).data.toList ++ (32 :: (txtB z).data.toList)))))))
theorem app3_list (a b c : ByteArray) : (a ++ (b ++ c)).data.toList = (a ++ b).data.toList ++ c.data.toList := by
 rw [app_list, app_list, app_list, List.append_assoc]
section
variable (nm : ByteArray) (g0 g1 g2 g3 : Nat → Int)
def lnsL : Nat → List (List UInt8)
 | 0 => [lnL0 nm]
 | k + 1 => lnsL k ++ [lnL1 (g0 k) (g1 k) (g2 k) (g3 k)]
theorem lnsL_len : ∀ n, (lnsL nm g0 g1 g2 g3 n).length = n + 1
 | 0 => rfl
 | n + 1 => by
  show (lnsL nm g0 g1 g2 g3 n ++ [_]).length = _
  rw [List.length_append, lnsL_len n]; rfl
theorem lnsL_zero : ∀ n, (lnsL nm g0 g1 g2 g3 n)[0]? = some (lnL0 nm)
 | 0 => rfl
 | n + 1 => by
  show (lnsL nm g0 g1 g2 g3 n ++ [_])[0]? = _
  rw [List.getElem?_append_left (by rw [lnsL_len]; omega)]
  exact lnsL_zero n
theorem lnsL_succ (j : Nat) : ∀ n, j < n → (lnsL nm g0 g1 g2 g3 n)[j + 1]? = some (lnL1 (g0 j) (g1 j) (g2 j) (g3 j))
 | 0, h => by omega
 | n + 1, h => by
  show (lnsL nm g0 g1 g2 g3 n ++ [lnL1 (g0 n) (g1 n) (g2 n) (g3 n)])[j + 1]? = _
  by_cases e : j = n
  ·subst e
   rw [List.getElem?_append_right (by rw [lnsL_len]; omega), lnsL_len]
   simp
  ·rw [List.getElem?_append_left (by rw [lnsL_len]; omega)]
   exact lnsL_succ j n (by omega)
theorem line_list (t x y z : Int) : (lnB t x y z).data.toList = lnL1 t x y z ++ [10] := by
 unfold lnB linB lnL1
 rw [app_list]
 show (sSun.data.toList ++ (blankB.data.toList ++ ((txtB t).data.toList ++ (blankB.data.toList ++ ((txtB x).data.toList ++ (blankB.data.toList ++ ((txtB y).data.toList ++ (blankB.data.toList ++ (txtB z).data.toList)))))))) ++ nlB.data.toList = _
 rfl
theorem head_list : ((sSky ++ nm) ++ nlB).data.toList = lnL0 nm ++ [10] := by
 unfold lnL0
 rw [app_list, app_list]
 rfl
theorem txA_list : ∀ n, (((sSky ++ nm) ++ nlB) ++ jnA (LF lnB g0 g1 g2 g3) n).data.toList = catL 10 (lnsL nm g0 g1 g2 g3 n)
 | 0 => by
  show (((sSky ++ nm) ++ nlB) ++ _).data.toList = lnL0 nm ++ [10]
  rw [app_list, head_list]
  show (lnL0 nm ++ [10]) ++ [] = _
  rw [List.append_nil]
 | n + 1 => by
  show (((sSky ++ nm) ++ nlB) ++ (jnA (LF lnB g0 g1 g2 g3) n ++ LF lnB g0 g1 g2 g3 n)).data.toList = catL 10 (lnsL nm g0 g1 g2 g3 n ++ [lnL1 (g0 n) (g1 n) (g2 n) (g3 n)])
  rw [app3_list, txA_list n, catL_snoc]
  show _ ++ (lnB (g0 n) (g1 n) (g2 n) (g3 n)).data.toList = _
  rw [line_list]
theorem txS_list (n : Nat) : (txS nm n g0 g1 g2 g3).data.toList = catL 10 (lnsL nm g0 g1 g2 g3 n) := by
 show (((sSky ++ nm) ++ nlB) ++ jnB (LF lnB g0 g1 g2 g3) n).data.toList = _
 rw [jn_is]
 exact txA_list nm g0 g1 g2 g3 n
end
theorem no_sky : ∀ b ∈ sSkyW.data.toList, b ≠ 10 ∧ b ≠ 32 := by decide
theorem no_sun : ∀ b ∈ sSun.data.toList, b ≠ 10 ∧ b ≠ 32 := by decide
theorem name_no : ∀ {l : List UInt8} {f : Bool}, Proofs.Tryz.nameOk l f = true → ∀ b ∈ l, 48 ≤ b.toNat
 | [], _, _, b, hb => by cases hb
 | a :: l, f, h, b, hb => by
  unfold Proofs.Tryz.nameOk at h
  rw [Bool.and_eq_true] at h
  rcases List.mem_cons.1 hb with rfl | hb
  ·have h1 := h.1
   unfold Proofs.Tryz.nameByte at h1
   simp only [Bool.or_eq_true, Bool.and_eq_true, Nat.ble_eq] at h1
   rcases h1 with (h1 | h1) | ⟨_, h1 | h1⟩
   ·omega
   ·omega
   ·have := Nat.eq_of_beq_eq_true h1
    omega
   ·omega
  ·exact name_no h.2 b hb
theorem nm_facts {nm : ByteArray} (h : Proofs.Tryz.isNameW nm = true) : (∀ c : UInt8, c.toNat < 48 → ∀ b ∈ nm.data.toList, b ≠ c) ∧ ((nm.toList == sNil.toList) = false) ∧ nm.size ≤ 24 := by
 unfold Proofs.Tryz.isNameW at h
 simp only [Bool.and_eq_true, Bool.not_eq_true', Nat.ble_eq] at h
 obtain ⟨⟨h1, h2⟩, h3⟩ := h
 refine ⟨fun c hc b hb he => ?_, ?_, h3⟩
 ·have := name_no h1 b hb
  rw [he] at this
  omega
 ·cases hb : nm.toList == sNil.toList with
  | false => rfl
  | true =>
   rw [beq_iff_eq] at hb
   rw [list_inj hb] at h2
   cases h2
theorem ln0_no {nm : ByteArray} (h : Proofs.Tryz.isNameW nm = true) : ∀ b ∈ lnL0 nm, b ≠ 10 := fun b hb => by
 rcases List.mem_append.1 hb with hb | hb
 ·exact (no_sky b hb).1
 ·rcases List.mem_cons.1 hb with rfl | hb
  ·decide
  ·exact (nm_facts h).1 10 (by decide) b hb
theorem ln1_no (t x y z : Int) : ∀ b ∈ lnL1 t x y z, b ≠ 10 := fun b hb => by
 have hd : (32 : UInt8) ≠ 10 := by decide
 rcases List.mem_append.1 hb with hb | hb
 ·exact (no_sun b hb).1
 ·rcases List.mem_cons.1 hb with rfl | hb
  ·exact hd
  ·rcases List.mem_append.1 hb with hb | hb
   ·exact txt_low t (by decide) b hb
   ·rcases List.mem_cons.1 hb with rfl | hb
    ·exact hd
    ·rcases List.mem_append.1 hb with hb | hb
     ·exact txt_low x (by decide) b hb
     ·rcases List.mem_cons.1 hb with rfl | hb
      ·exact hd
      ·rcases List.mem_append.1 hb with hb | hb
       ·exact txt_low y (by decide) b hb
       ·rcases List.mem_cons.1 hb with rfl | hb
        ·exact hd
        ·exact txt_low z (by decide) b hb
theorem lns_no {nm : ByteArray} (h : Proofs.Tryz.isNameW nm = true) (g0 g1 g2 g3 : Nat → Int) : ∀ n, ∀ L ∈ lnsL nm g0 g1 g2 g3 n, ∀ b ∈ L, b ≠ 10
 | 0, L, hL => by
  rw [List.mem_singleton.1 hL]
  exact ln0_no h
 | n + 1, L, hL => by
  rcases List.mem_append.1 hL with hL | hL
  ·exact lns_no h g0 g1 g2 g3 n L hL
  ·rw [List.mem_singleton.1 hL]
   exact ln1_no _ _ _ _
theorem back_list (s : ByteArray) : (⟨s.data.toList.toArray⟩ : ByteArray) = s := ByteArray.ext (by simp)
theorem ln0_ok {nm : ByteArray} (h : Proofs.Tryz.isNameW nm = true) : okB 0 ⟨(lnL0 nm).toArray⟩ = true ∧ wd ⟨(lnL0 nm).toArray⟩ 1 = nm := by
 obtain ⟨a1, a2⟩ := text_words (s := ⟨(lnL0 nm).toArray⟩) (Ls := [sSkyW.data.toList]) (R := nm.data.toList) (by simp [lnL0, catL]) (fun L hL b hb => by rw [List.mem_singleton.1 hL] at hb; exact (no_sky b hb).2) ((nm_facts h).1 32 (by decide))
 have w0 := a2 0 _ rfl
 have w1 := a2 1 _ rfl
 rw [back_list] at w0 w1
 refine ⟨?_, w1⟩
 rw [okB_zero, a1, w0, w1, (nm_facts h).2.1]
 simp
theorem ln1_ok {t x y z : Int} (ht : nuB t) (hx : nuB x) (hy : nuB y) (hz : nuB z) (j : Nat) : okB (j + 1) ⟨(lnL1 t x y z).toArray⟩ = true ∧ vS (wd ⟨(lnL1 t x y z).toArray⟩ 1) = t ∧ vS (wd ⟨(lnL1 t x y z).toArray⟩ 2) = x ∧ vS (wd ⟨(lnL1 t x y z).toArray⟩ 3) = y ∧ vS (wd ⟨(lnL1 t x y z).toArray⟩ 4) = z := by
 obtain ⟨a1, a2⟩ := text_words (s := ⟨(lnL1 t x y z).toArray⟩) (Ls := [sSun.data.toList, (txtB t).data.toList, (txtB x).data.toList, (txtB y).data.toList]) (R := (txtB z).data.toList) (by simp [lnL1, catL]) (fun L hL b hb => by
  simp only [List.mem_cons, List.not_mem_nil, or_false] at hL
  rcases hL with rfl | rfl | rfl | rfl
  ·exact (no_sun b hb).2
  ·exact txt_low t (by decide) b hb
  ·exact txt_low x (by decide) b hb
  ·exact txt_low y (by decide) b hb) (txt_low z (by decide))
 have w0 := a2 0 _ rfl
 have w1 := a2 1 _ rfl
 have w2 := a2 2 _ rfl
 have w3 := a2 3 _ rfl
 have w4 := a2 4 _ rfl
 rw [back_list] at w0 w1 w2 w3 w4
 obtain ⟨p1, p2⟩ := int_txt ht
 obtain ⟨q1, q2⟩ := int_txt hx
 obtain ⟨r1, r2⟩ := int_txt hy
 obtain ⟨k1, k2⟩ := int_txt hz
 refine ⟨?_, by rw [w1]; exact p2, by rw [w2]; exact q2, by rw [w3]; exact r2, by rw [w4]; exact k2⟩
 rw [okB_one, a1, w0, w1, w2, w3, w4, p1, q1, r1, k1]
 simp
end Go.Ev
namespace Go.Ev
open Go Go.Proofs
set_option maxRecDepth 100000
section
variable {nm : ByteArray} {n : Nat} {g0 g1 g2 g3 f0 f1 f2 f3 : Nat → Int} (h0 : ∀ j, j < n → g0 j = f0 j) (h1 : ∀ j, j < n → g1 j = f1 j) (h2 : ∀ j, j < n → g2 j = f2 j) (h3 : ∀ j, j < n → g3 j = f3 j)
include h0 h1 h2 h3
theorem rowQ_congr {k : Nat} (hk : k < n) : rowQ g0 g1 g2 g3 k = rowQ f0 f1 f2 f3 k := by
 have z : 0 + Int.toNat 0 = 0 := rfl
 unfold rowQ rowF qrE neq0
 rw [z, h0 k hk, h1 k hk, h2 k hk, h3 k hk, h0 (k - 1) (by omega), h1 0 (by omega), h2 0 (by omega), h3 0 (by omega)]
theorem skyE_congr : skyE nm n g0 g1 g2 g3 = skyE nm n f0 f1 f2 f3 := by
 unfold skyE skyF
 rw [fnz_cong (f := rowQ g0 g1 g2 g3) (g := rowQ f0 f1 f2 f3) n 0 (fun j hj => by omega) fun i _ hi _ => rowQ_congr h0 h1 h2 h3 (by omega)]
end
theorem e0_none {s : ByteArray} (h1 : s.size ≤ 4096) (h2 : 0 < s.size) : e0S s = 0 := by
 refine (e0_no (s := s) (by simp only [decide_eq_false_iff_not]; omega) ?_).2.2
 cases hb : s.toList == sNil.toList with
 | false => rfl
 | true =>
  rw [beq_iff_eq] at hb
  rw [list_inj hb] at h2
  exact absurd h2 (by decide)
section
variable {nm : ByteArray} {n : Nat} {g0 g1 g2 g3 : Nat → Int} (h : skyE nm n g0 g1 g2 g3 = 0) (hn : n ≤ 12)
include h
theorem sky_nu {j : Nat} (hj : j < n) : nuB (g0 j) ∧ nuB (g1 j) ∧ nuB (g2 j) ∧ nuB (g3 j) := by
 have hs := (sky_ok h).1
 have a := hs.tick j hj
 obtain ⟨⟨b, c, d⟩, _⟩ := hs.ray j hj
 unfold nuB
 omega
include hn
theorem txS_size : (txS nm n g0 g1 g2 g3).size ≤ 2000 := by
 have h3 := (nm_facts (sky_ok h).2).2.2
 show (((sSky ++ nm) ++ nlB) ++ jnB (LF lnB g0 g1 g2 g3) n).size ≤ 2000
 rw [jn_is, ByteArray.size_append, ByteArray.size_append, ByteArray.size_append]
 have h1 := jn_size (F := LF lnB g0 g1 g2 g3) (b := 92) (fun k => LF_size g0 g1 g2 g3 k) n
 have e1 : sSky.size = 4 := rfl
 have e2 : nlB.size = 1 := rfl
 omega
theorem print_told : psE (txS nm n g0 g1 g2 g3) = 0 ∧ psAt (txS nm n g0 g1 g2 g3) = 0 ∧ nlP (txS nm n g0 g1 g2 g3) = n ∧ nmP (txS nm n g0 g1 g2 g3) = nm ∧ (∀ j, j < n → f0P (txS nm n g0 g1 g2 g3) j = g0 j ∧ f1P (txS nm n g0 g1 g2 g3) j = g1 j ∧ f2P (txS nm n g0 g1 g2 g3) j = g2 j ∧ f3P (txS nm n g0 g1 g2 g3) j = g3 j) ∧ wrdN (txS nm n g0 g1 g2 g3) 10 = n + 2 := by
 have hsz2 := txS_size h hn
 obtain ⟨hs, hnm⟩ := sky_ok h
 have hlist := txS_list nm g0 g1 g2 g3 n
 have hnu := fun {j : Nat} (hj : j < n) => sky_nu h hj
 generalize hT : txS nm n g0 g1 g2 g3 = s at *
 obtain ⟨b1, b2, b3, b4⟩ := text_parts (s := s) (R := []) (by rw [hlist, List.append_nil]) (lns_no hnm g0 g1 g2 g3 n) (fun b hb => by cases hb)
 rw [lnsL_len] at b1 b3 b4
 have hp0 : Proofs.part s 10 0 = ⟨(lnL0 nm).toArray⟩ := b2 0 _ (lnsL_zero nm g0 g1 g2 g3 n)
 have hp1 : ∀ j, j < n → Proofs.part s 10 (j + 1) = ⟨(lnL1 (g0 j) (g1 j) (g2 j) (g3 j)).toArray⟩ := fun j hj => b2 (j + 1) _ (lnsL_succ nm g0 g1 g2 g3 j n hj)
 have hpos : 0 < s.size := by
  have := part_in s 10 (show 0 < cntA s 10 by omega)
  omega
 have h0 := e0_none (by omega) hpos
 have hl : linN s = n + 1 := by
  unfold linN
  rw [b1, if_neg (by simp only [List.length_nil] at b4; omega)]
 have hok : ∀ j, j < n → _ := fun j hj => ln1_ok (hnu hj).1 (hnu hj).2.1 (hnu hj).2.2.1 (hnu hj).2.2.2 j
 have hbad : badAt s = none := bad_no (by
  rw [hl]
  intro j hj
  unfold lnOk
  rw [blt_ok (by omega), Bool.true_and]
  cases j with
  | zero => rw [hp0]; exact (ln0_ok hnm).1
  | succ j => rw [hp1 j (by omega)]; exact (hok j (by omega)).1)
 have hnl : nlP s = n := by unfold nlP; omega
 have hrm : nmP s = nm := by unfold nmP; rw [hp0]; exact (ln0_ok hnm).2
 have hf : ∀ j, j < n → f0P s j = g0 j ∧ f1P s j = g1 j ∧ f2P s j = g2 j ∧ f3P s j = g3 j := fun j hj => by
  unfold f0P f1P f2P f3P
  rw [hp1 j hj]
  exact (hok j hj).2
 have hE : skyE nm n (f0P s) (f1P s) (f2P s) (f3P s) = 0 := (skyE_congr (fun j hj => (hf j hj).1) (fun j hj => (hf j hj).2.1) (fun j hj => (hf j hj).2.2.1) fun j hj => (hf j hj).2.2.2).trans h
 refine ⟨?_, ?_, hnl, hrm, hf, by rw [wrdN_is, b1]⟩
 ·unfold psE
  rw [h0, hbad, hnl, hrm]
  exact hE
 ·unfold psAt
  rw [h0, hbad, hnl, hrm, hE]
  rfl
theorem cut_told : psE ((txS nm n g0 g1 g2 g3).extract 0 ((txS nm n g0 g1 g2 g3).size - 1)) = 25 ∧ psAt ((txS nm n g0 g1 g2 g3).extract 0 ((txS nm n g0 g1 g2 g3).size - 1)) = (n : Int) := by
 have hsz := txS_size h hn
 obtain ⟨hsk, hnm⟩ := sky_ok h
 have h2 := hsk.two
 have hnu := fun {j : Nat} (hj : j < n) => sky_nu h hj
 obtain ⟨k, rfl⟩ : ∃ k, n = k + 1 := ⟨n - 1, by omega⟩
 have hlist := txS_list nm g0 g1 g2 g3 (k + 1)
 have hL0 : lnL1 (g0 k) (g1 k) (g2 k) (g3 k) ≠ [] := by simp [lnL1]
 have hLn := ln1_no (g0 k) (g1 k) (g2 k) (g3 k)
 rw [show lnsL nm g0 g1 g2 g3 (k + 1) = lnsL nm g0 g1 g2 g3 k ++ [lnL1 (g0 k) (g1 k) (g2 k) (g3 k)] from rfl, catL_snoc] at hlist
 obtain ⟨s, hs⟩ : ∃ s, s = (txS nm (k + 1) g0 g1 g2 g3).extract 0 ((txS nm (k + 1) g0 g1 g2 g3).size - 1) := ⟨_, rfl⟩
 have hsl : s.data.toList = catL 10 (lnsL nm g0 g1 g2 g3 k) ++ lnL1 (g0 k) (g1 k) (g2 k) (g3 k) := by
  rw [hs, ByteArray.data_extract, Array.toList_extract, List.extract_eq_take_drop, size_list, hlist]
  have e : ∀ (X : List UInt8) (c : UInt8), List.take ((X ++ [c]).length - 1 - 0) (List.drop 0 (X ++ [c])) = X := fun X c => by simp
  rw [show catL 10 (lnsL nm g0 g1 g2 g3 k) ++ (lnL1 (g0 k) (g1 k) (g2 k) (g3 k) ++ [10]) = (catL 10 (lnsL nm g0 g1 g2 g3 k) ++ lnL1 (g0 k) (g1 k) (g2 k) (g3 k)) ++ [10] by simp]
  exact e _ _
 rw [← hs]
 obtain ⟨b1, b2, b3, b4⟩ := text_parts hsl (lns_no hnm g0 g1 g2 g3 k) hLn
 rw [lnsL_len] at b1 b3 b4
 have hLp : 0 < (lnL1 (g0 k) (g1 k) (g2 k) (g3 k)).length := List.length_pos_iff.2 hL0
 have hsz2 : s.size ≤ 4096 := by
  rw [hs, ByteArray.size_extract]
  omega
 have h0 := e0_none hsz2 (by omega)
 have hlast : beg s 10 0 (cntA s 10) < s.size := by rw [b1]; omega
 have hl : linN s = k + 1 + 1 := by unfold linN; rw [if_pos hlast, b1]
 have hgood : goodK s (k + 1) := fun j hj => by
  unfold lnOk
  rw [blt_ok (by omega), Bool.true_and]
  cases j with
  | zero =>
   rw [b2 0 _ (lnsL_zero nm g0 g1 g2 g3 k)]
   exact (ln0_ok hnm).1
  | succ j =>
   rw [b2 (j + 1) _ (lnsL_succ nm g0 g1 g2 g3 j k (by omega))]
   exact (ln1_ok (hnu (by omega)).1 (hnu (by omega)).2.1 (hnu (by omega)).2.2.1 (hnu (by omega)).2.2.2 j).1
 have hb : badAt s = some (k + 1) := bad_at hgood (by omega) (by rw [← b1]; exact lnOk_last hlast)
 constructor
 ·unfold psE
  rw [h0, hb]
  rfl
 ·unfold psAt
  rw [h0, hb]
  rfl
end
def partsL (s : ByteArray) (c : UInt8) : Nat → List (List UInt8)
 | 0 => []
 | k + 1 => partsL s c k ++ [(Proofs.part s c k).data.toList]
theorem ext_split (s : ByteArray) {p q : Nat} (h1 : p ≤ q) (h2 : q ≤ s.size) : (s.extract 0 q).data.toList = (s.extract 0 p).data.toList ++ (s.extract p q).data.toList := by
 rw [ByteArray.data_extract, ByteArray.data_extract, ByteArray.data_extract, Array.toList_extract, Array.toList_extract, Array.toList_extract, List.extract_eq_take_drop, List.extract_eq_take_drop, List.extract_eq_take_drop]
 simp only [Nat.sub_zero, List.drop_zero]
 rw [← List.take_add]
 congr 1
 omega
theorem ext_one (s : ByteArray) {p : Nat} (h : p < s.size) : (s.extract p (p + 1)).data.toList = [s.get! p] := by
 rw [ByteArray.data_extract, Array.toList_extract, List.extract_eq_take_drop]
 have hp : p < s.data.toList.length := by rw [← size_list]; exact h
 rw [List.drop_eq_getElem_cons hp, show p + 1 - p = 1 by omega, List.take_succ_cons, List.take_zero, get_of (List.getElem?_eq_getElem hp)]
theorem parts_pre (s : ByteArray) (c : UInt8) : ∀ k, k ≤ cntA s c → (s.extract 0 (beg s c 0 k)).data.toList = catL c (partsL s c k)
 | 0, _ => by
  show (s.extract 0 0).data.toList = []
  rw [ext_over (Nat.le_refl _)]
 | k + 1, hk => by
  have h1 := part_in s c (j := k) (by omega)
  have h2 := nxt_ge s c (beg s c 0 k)
  have h3 := (nxt_spec s c (p := beg s c 0 k) (by omega)).2.2.2 h1
  have e : beg s c 0 (k + 1) = nxt s c (beg s c 0 k) + 1 := rfl
  rw [e, ext_split s (p := nxt s c (beg s c 0 k)) (by omega) (by omega), ext_split s (p := beg s c 0 k) (q := nxt s c (beg s c 0 k)) h2 (by omega), ext_one s h1, h3, parts_pre s c k (by omega)]
  show _ = catL c (partsL s c k ++ [(Proofs.part s c k).data.toList])
  rw [catL_snoc]
  unfold Proofs.part
  rw [List.append_assoc]
theorem parts_all (s : ByteArray) (c : UInt8) : s.data.toList = catL c (partsL s c (cntA s c)) ++ (Proofs.part s c (cntA s c)).data.toList := by
 obtain ⟨h1, h2⟩ := part_last s c
 rw [← parts_pre s c _ (Nat.le_refl _)]
 unfold Proofs.part
 rw [h1, ← ext_split s h2 (Nat.le_refl _), ext_all]
theorem dec_back (s : ByteArray) : ∀ (m k : Nat), m < k → (∀ j, j ≤ m → digB (byt s j) = true) → (byt s 0 = 48 → m = 0) → ∃ u : Nat, valN s (m + 1) = (u : Int) ∧ u < 10 ^ (m + 1) ∧ (0 < m → 10 ^ m ≤ u) ∧ decW k u = (List.range (m + 1)).map fun j => s.get! j
 | 0, 0, h, _, _ => by omega
 | 0, k + 1, _, hd, _ => by
  have h0 := digB_iff.1 (hd 0 (Nat.le_refl _))
  refine ⟨byt s 0 - 48, ?_, by omega, fun h => by omega, ?_⟩
  ·show 10 * (0 : Int) + ((byt s 0 : Int) - 48) = _
   omega
  ·unfold decW
   rw [show Nat.blt (byt s 0 - 48) 10 = true by rw [Nat.blt_eq]; omega]
   show [UInt8.ofNat (48 + (byt s 0 - 48))] = [s.get! 0]
   rw [show 48 + (byt s 0 - 48) = byt s 0 by omega]
   unfold byt
   rw [UInt8.ofNat_toNat]
 | m + 1, 0, h, _, _ => by omega
 | m + 1, k + 1, h, hd, hz => by
  have hm := digB_iff.1 (hd (m + 1) (Nat.le_refl _))
  obtain ⟨u, e1, e2, e3, e4⟩ := dec_back s m k (by omega) (fun j hj => hd j (by omega)) (fun h => by have := hz h; omega)
  have hpos : 1 ≤ u := by
   rcases Nat.eq_zero_or_pos m with hm0 | hm0
   ·subst hm0
    have h0 := digB_iff.1 (hd 0 (by omega))
    have hne : byt s 0 ≠ 48 := fun h => by have := hz h; omega
    have e1' : 10 * (0 : Int) + ((byt s 0 : Int) - 48) = (u : Int) := e1
    omega
   ·exact Nat.le_trans (Nat.one_le_pow _ _ (by omega)) (e3 hm0)
  have hbig : 10 ^ (m + 1) ≤ 10 * u := by
   rcases Nat.eq_zero_or_pos m with hm0 | hm0
   ·subst hm0; omega
   ·have := e3 hm0
    rw [Nat.pow_succ]
    omega
  refine ⟨10 * u + (byt s (m + 1) - 48), ?_, ?_, fun _ => by omega, ?_⟩
  ·show 10 * valN s (m + 1) + ((byt s (m + 1) : Int) - 48) = _
   rw [e1]
   omega
  ·rw [Nat.pow_succ]
   omega
  ·unfold decW
   have hlt : Nat.blt (10 * u + (byt s (m + 1) - 48)) 10 = false := by
    cases hb : Nat.blt (10 * u + (byt s (m + 1) - 48)) 10 with
    | false => rfl
    | true => rw [Nat.blt_eq] at hb; omega
   rw [hlt]
   show decW k ((10 * u + (byt s (m + 1) - 48)) / 10) ++ [UInt8.ofNat (48 + (10 * u + (byt s (m + 1) - 48)) % 10)] = _
   rw [show (10 * u + (byt s (m + 1) - 48)) / 10 = u by omega, show 48 + (10 * u + (byt s (m + 1) - 48)) % 10 = byt s (m + 1) by omega, e4, List.range_succ (n := m + 1), List.map_append]
   unfold byt
   rw [UInt8.ofNat_toNat]
   rfl
theorem all_get (s : ByteArray) : (List.range s.size).map (fun j => s.get! j) = s.data.toList := by
 refine List.ext_getElem? fun j => ?_
 rw [List.getElem?_map]
 rcases Nat.lt_or_ge j s.size with h | h
 ·rw [List.getElem?_range h, get_list h]; rfl
 ·rw [List.getElem?_eq_none (by simpa using h), List.getElem?_eq_none (by rw [← size_list]; exact h)]
  rfl
theorem dig_back {s : ByteArray} (h : (Proofs.intD s).2 = true) : ∃ u : Nat, (Proofs.intD s).1 = (u : Int) ∧ s.data.toList = decW 20 u := by
 unfold Proofs.intD at h ⊢
 split at h
 ·rename_i hc
  rw [Bool.and_eq_true, Bool.and_eq_true] at hc
  obtain ⟨⟨h1, h2⟩, h3⟩ := hc
  have h1 := Nat.le_of_ble_eq_true h1
  obtain ⟨h4, h5⟩ := canonB_iff.1 h3
  have hd := allDig_at h2
  obtain ⟨u, e1, _, _, e4⟩ := dec_back s (s.size - 1) 20 (by omega) (fun j hj => hd j (by omega)) (fun h => by have := h5 h; omega)
  rw [show s.size - 1 + 1 = s.size by omega] at e1 e4
  exact ⟨u, e1, by rw [e4, all_get]⟩
 ·cases h
theorem txt_back {s : ByteArray} (h : gS s = true) : txtB (vS s) = s := by
 refine ba_ext ?_
 unfold gS intS inTx at h
 unfold vS intS inTx
 cases hn : negB s with
 | false =>
  rw [hn] at h
  have hr : restB s = s := by unfold restB; rw [hn]
  rw [hr] at h ⊢
  obtain ⟨u, e1, e2⟩ := dig_back h
  show (txtB (Proofs.intD s).1).data.toList = _
  rw [e1, txt_dec (by omega), Int.toNat_natCast, e2]
 | true =>
  rw [hn] at h
  simp only at h ⊢
  have hs : 0 < s.size ∧ s.get! 0 = 45 := by
   unfold negB at hn
   rw [Bool.and_eq_true, decide_eq_true_eq, beq_iff_eq] at hn
   refine ⟨hn.1, UInt8.toNat_inj.1 ?_⟩
   have h2 : ((s.get! 0).toNat : Int) = 45 := hn.2
   show (s.get! 0).toNat = 45
   omega
  have hr : restB s = s.extract 1 s.size := by unfold restB; rw [hn]
  cases hc : gD (restB s) && !(vD (restB s) == 0) with
  | false => rw [hc] at h; cases h
  | true =>
   rw [Bool.and_eq_true] at hc
   obtain ⟨u, e1, e2⟩ := dig_back hc.1
   have hu : vD (restB s) = (u : Int) := e1
   have hnz : u ≠ 0 := fun e => by
    rw [hu, e] at hc
    exact absurd hc.2 (by decide)
   show (txtB (-(vD (restB s)))).data.toList = _
   rw [hu, txt_neg (by omega), ← e2, hr]
   have h1 := ext_split s (p := 1) (q := s.size) (by omega) (Nat.le_refl _)
   rw [ext_all] at h1
   rw [h1, ext_one s (p := 0) hs.1, hs.2]
   rfl
end Go.Ev
namespace Go.Ev
open Go Go.Proofs
set_option maxRecDepth 100000
theorem badK_all {g : Nat → Bool} : ∀ (m k i : Nat), badK g m k = none → k ≤ i → i < k + m → g i = true
 | 0, k, i, _, h1, h2 => by omega
 | m + 1, k, i, h, h1, h2 => by
  unfold badK at h
  split at h
  ·rename_i hk
   by_cases e : k = i
   ·subst e; exact hk
   ·exact badK_all m (k + 1) i h (by omega) (by omega)
  ·cases h
theorem bad_all {s : ByteArray} (h : badAt s = none) {j : Nat} (hj : j < linN s) : lnOk s j = true := badK_all _ _ j h (Nat.zero_le _) (by omega)
theorem part_wd (b : ByteArray) {j : Nat} (h : j ≤ cntA b 32) : Proofs.part b 32 j = wd b j := (wrdF_is b 32 h).symm
theorem ok0_list {b : ByteArray} (h : okB 0 b = true) : b.data.toList = lnL0 (wd b 1) := by
 rw [okB_zero, Bool.and_eq_true, Bool.and_eq_true, beq_iff_eq] at h
 obtain ⟨h1, h2, _⟩ := h
 have h1 := Nat.eq_of_beq_eq_true h1
 rw [wrdN_is] at h1
 have hc : cntA b 32 = 1 := by omega
 have hp := parts_all b 32
 rw [hc, part_wd b (by omega)] at hp
 rw [hp]
 show catL 32 ([] ++ [(Proofs.part b 32 0).data.toList]) ++ (wd b 1).data.toList = _
 rw [part_wd b (by omega), list_inj h2]
 rfl
theorem ok1_list {b : ByteArray} {j : Nat} (h : okB (j + 1) b = true) : b.data.toList = lnL1 (vS (wd b 1)) (vS (wd b 2)) (vS (wd b 3)) (vS (wd b 4)) := by
 rw [okB_one] at h
 simp only [Bool.and_eq_true, beq_iff_eq] at h
 obtain ⟨h1, h2, g1, g2, g3, g4⟩ := h
 have h1 := Nat.eq_of_beq_eq_true h1
 rw [wrdN_is] at h1
 have hc : cntA b 32 = 4 := by omega
 have hp := parts_all b 32
 rw [hc, part_wd b (by omega)] at hp
 rw [hp]
 unfold lnL1
 rw [txt_back g1, txt_back g2, txt_back g3, txt_back g4]
 show catL 32 ([] ++ [(Proofs.part b 32 0).data.toList] ++ [(Proofs.part b 32 1).data.toList] ++ [(Proofs.part b 32 2).data.toList] ++ [(Proofs.part b 32 3).data.toList]) ++ (wd b 4).data.toList = _
 rw [part_wd b (by omega), part_wd b (by omega), part_wd b (by omega), part_wd b (by omega), list_inj h2]
 simp [catL]
theorem back_told {s : ByteArray} (h : psE s = 0) : skyE (nmP s) (nlP s) (f0P s) (f1P s) (f2P s) (f3P s) = 0 ∧ txS (nmP s) (nlP s) (f0P s) (f1P s) (f2P s) (f3P s) = s := by
 obtain ⟨m, hm⟩ := ps_ok h
 unfold psE at h
 split at h
 ·rename_i hb
  rw [h] at hb
  cases hb
 ·split at h
  ·cases h
  ·rename_i hn
   refine ⟨h, ba_ext ?_⟩
   obtain ⟨hl, hlast⟩ := lin_right hn
   have hcnt : cntA s 10 = nlP s + 1 := by unfold nlP at hm ⊢; omega
   have hok : ∀ j, j < cntA s 10 → okB j (Proofs.part s 10 j) = true := fun j hj => (lnOk_in (bad_all hn (by omega))).2
   have key : ∀ k, k < cntA s 10 → partsL s 10 (k + 1) = lnsL (nmP s) (f0P s) (f1P s) (f2P s) (f3P s) k := by
    intro k
    induction k with
    | zero =>
     intro hk
     show [] ++ [(Proofs.part s 10 0).data.toList] = [lnL0 (nmP s)]
     rw [ok0_list (hok 0 hk)]
     rfl
    | succ k ih =>
     intro hk
     show partsL s 10 (k + 1) ++ [(Proofs.part s 10 (k + 1)).data.toList] = lnsL (nmP s) (f0P s) (f1P s) (f2P s) (f3P s) k ++ [lnL1 (f0P s k) (f1P s k) (f2P s k) (f3P s k)]
     rw [ih (by omega), ok1_list (hok (k + 1) hk)]
     rfl
   have hall := parts_all s 10
   have hemp : (Proofs.part s 10 (cntA s 10)).data.toList = [] := by
    obtain ⟨p1, p2⟩ := part_last s 10
    unfold Proofs.part
    rw [p1, ext_over (by omega)]
   rw [hemp, List.append_nil, hcnt, key _ (by omega)] at hall
   rw [txS_list, hall]
end Go.Ev
