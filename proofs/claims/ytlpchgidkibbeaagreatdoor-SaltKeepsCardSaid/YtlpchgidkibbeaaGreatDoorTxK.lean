/- A text that was printed is parsed as it was told; without its last byte it is not. Conditions: tanks without an error. -/
import Derived.Test.YtlpchgidkibbeaaGreatDoorPars
import Derived.Test.YtlpchgidkibbeaaGreatDoorIsT
namespace Go.Ev
open Go Go.Proofs
set_option maxRecDepth 100000
def catL (c : UInt8) : List (List UInt8) → List UInt8
 | [] => []
 | L :: l => L ++ (c :: catL c l)
theorem catL_snoc (c : UInt8) (L : List UInt8) : ∀ l, catL c (l ++ [L]) = catL c l ++ (L ++ [c])
 | [] => by simp [catL]
 | M :: l => by simp [catL, catL_snoc c L l]
theorem get_of {s : ByteArray} {q : Nat} {b : UInt8} (h : s.data.toList[q]? = some b) : s.get! q = b := by
 have hlt : q < s.size := by
  have := (List.getElem?_eq_some_iff.1 h).1
  rw [Array.length_toList] at this
  exact this
 rw [get_list hlt] at h
 exact Option.some.inj h
theorem size_list (s : ByteArray) : s.size = s.data.toList.length := by rw [Array.length_toList]; rfl
theorem nxt_in {s : ByteArray} {c : UInt8} {P L X : List UInt8} (hs : s.data.toList = P ++ (L ++ (c :: X))) (hL : ∀ b ∈ L, b ≠ c) : nxt s c P.length = P.length + L.length := by
 have hsz : s.size = P.length + (L.length + (X.length + 1)) := by rw [size_list, hs]; simp
 refine nxt_uniq (by omega) (by omega) (fun r h1 h2 he => ?_) fun _ => ?_
 ·have hr : s.data.toList[r]? = some (L[r - P.length]'(by omega)) := by
   rw [hs, List.getElem?_append_right h1, List.getElem?_append_left (by omega), List.getElem?_eq_getElem]
  rw [get_of hr] at he
  exact hL _ (List.getElem_mem _) he
 ·refine get_of ?_
  rw [hs, List.getElem?_append_right (by omega), List.getElem?_append_right (by omega)]
  simp
theorem nxt_out {s : ByteArray} {c : UInt8} {P R : List UInt8} (hs : s.data.toList = P ++ R) (hR : ∀ b ∈ R, b ≠ c) : nxt s c P.length = s.size := by
 have hsz : s.size = P.length + R.length := by rw [size_list, hs]; simp
 refine nxt_uniq (by omega) (Nat.le_refl _) (fun r h1 h2 he => ?_) fun h => by omega
 have hr : s.data.toList[r]? = some (R[r - P.length]'(by omega)) := by
  rw [hs, List.getElem?_append_right h1, List.getElem?_eq_getElem]
 rw [get_of hr] at he
 exact hR _ (List.getElem_mem _) he
theorem ext_mid {s : ByteArray} {P L X : List UInt8} (hs : s.data.toList = P ++ (L ++ X)) : s.extract P.length (P.length + L.length) = ⟨L.toArray⟩ := by
 refine ByteArray.ext (Array.toList_inj.1 ?_)
 rw [ByteArray.data_extract, Array.toList_extract, List.extract_eq_take_drop, hs]
 simp
theorem parts_main (c : UInt8) (s : ByteArray) : ∀ (Ls : List (List UInt8)) (P R : List UInt8), s.data.toList = P ++ (catL c Ls ++ R) → (∀ L ∈ Ls, ∀ b ∈ L, b ≠ c) → (∀ b ∈ R, b ≠ c) →
  (∀ j L, Ls[j]? = some L → s.extract (beg s c P.length j) (nxt s c (beg s c P.length j)) = ⟨L.toArray⟩ ∧ nxt s c (beg s c P.length j) < s.size) ∧ s.extract (beg s c P.length Ls.length) (nxt s c (beg s c P.length Ls.length)) = ⟨R.toArray⟩ ∧ nxt s c (beg s c P.length Ls.length) = s.size ∧ beg s c P.length Ls.length + R.length = s.size
 | [], P, R, hs, _, hR => by
  have hs : s.data.toList = P ++ R := hs
  have hsz : s.size = P.length + R.length := by rw [size_list, hs]; simp
  have hn := nxt_out hs hR
  refine ⟨fun j L h => (by simp at h), ?_, hn, ?_⟩
  ·show s.extract P.length (nxt s c P.length) = _
   rw [hn, hsz]
   exact ext_mid (X := []) (by rw [hs, List.append_nil])
  ·show P.length + R.length = s.size
   omega
 | L :: l, P, R, hs, hLs, hR => by
  have hs : s.data.toList = P ++ ((L ++ (c :: catL c l)) ++ R) := hs
  have hs1 : s.data.toList = P ++ (L ++ (c :: (catL c l ++ R))) := by rw [hs]; simp
  have hs2 : s.data.toList = (P ++ (L ++ [c])) ++ (catL c l ++ R) := by rw [hs]; simp
  have hn := nxt_in hs1 (hLs L (by simp))
  have hP : (P ++ (L ++ [c])).length = nxt s c P.length + 1 := by rw [hn]; simp; omega
  obtain ⟨a1, a2, a3, a4⟩ := parts_main c s l (P ++ (L ++ [c])) R hs2 (fun M hM => hLs M (by simp [hM])) hR
  rw [hP] at a1 a2 a3 a4
  have hsz : s.size = P.length + (L.length + ((catL c l ++ R).length + 1)) := by rw [size_list, hs1]; simp
  refine ⟨fun j M hM => ?_, ?_, ?_, ?_⟩
  ·cases j with
   | zero =>
    simp only [List.getElem?_cons_zero, Option.some.injEq] at hM
    subst hM
    refine ⟨?_, ?_⟩
    ·show s.extract P.length (nxt s c P.length) = _
     rw [hn]
     exact ext_mid hs1
    ·show nxt s c P.length < _
     omega
   | succ j =>
    rw [beg_next]
    exact a1 j M (by simpa using hM)
  ·rw [List.length_cons, beg_next]; exact a2
  ·rw [List.length_cons, beg_next]; exact a3
  ·rw [List.length_cons, beg_next]; exact a4
theorem text_parts {c : UInt8} {s : ByteArray} {Ls : List (List UInt8)} {R : List UInt8} (hs : s.data.toList = catL c Ls ++ R) (hLs : ∀ L ∈ Ls, ∀ b ∈ L, b ≠ c) (hR : ∀ b ∈ R, b ≠ c) :
  cntA s c = Ls.length ∧ (∀ j L, Ls[j]? = some L → Proofs.part s c j = ⟨L.toArray⟩) ∧ Proofs.part s c Ls.length = ⟨R.toArray⟩ ∧ beg s c 0 Ls.length + R.length = s.size := by
 obtain ⟨a1, a2, a3, a4⟩ := parts_main c s Ls [] R hs hLs hR
 have hc : cntA s c = Ls.length := by
  rcases Nat.lt_trichotomy (cntA s c) Ls.length with h | h | h
  ·have h1 := (a1 (cntA s c) _ (List.getElem?_eq_getElem h)).2
   have h2 := (part_last s c).1
   simp only [List.length_nil] at h1
   omega
  ·exact h
  ·have h1 := part_in s c h
   simp only [List.length_nil] at a3
   omega
 exact ⟨hc, fun j L h => (a1 j L h).1, a2, a4⟩
theorem text_words {s : ByteArray} {Ls : List (List UInt8)} {R : List UInt8} (hs : s.data.toList = catL 32 Ls ++ R) (hLs : ∀ L ∈ Ls, ∀ b ∈ L, b ≠ 32) (hR : ∀ b ∈ R, b ≠ 32) :
  wrdN s 32 = Ls.length + 1 ∧ (∀ j L, (Ls ++ [R])[j]? = some L → wd s j = ⟨L.toArray⟩) := by
 obtain ⟨h1, h2, h3, _⟩ := text_parts hs hLs hR
 refine ⟨by rw [wrdN_is, h1], fun j L hj => ?_⟩
 unfold wd
 rcases Nat.lt_trichotomy j Ls.length with h | h | h
 ·rw [wrdF_is s 32 (by omega)]
  exact h2 j L (by rw [List.getElem?_append_left h] at hj; exact hj)
 ·subst h
  rw [wrdF_is s 32 (by omega), h3]
  rw [List.getElem?_append_right (Nat.le_refl _)] at hj
  simp at hj
  rw [hj]
 ·rw [List.getElem?_eq_none (by simp; omega)] at hj
  cases hj
theorem dig_byte (u : Nat) (h : u < 10) : (UInt8.ofNat (48 + u)).toNat = 48 + u := by
 rw [UInt8.toNat_ofNat_of_lt' (by show 48 + u < 256; omega)]
theorem dec_dig : ∀ (k u : Nat) (b : UInt8), b ∈ decW k u → 48 ≤ b.toNat ∧ b.toNat ≤ 57
 | 0, _, b, h => by simp [decW] at h
 | k + 1, u, b, h => by
  unfold decW at h
  split at h
  ·rename_i hu
   rw [Nat.blt_eq] at hu
   simp only [List.mem_singleton] at h
   subst h
   rw [dig_byte u hu]; omega
  ·rcases List.mem_append.1 h with h | h
   ·exact dec_dig k _ b h
   ·simp only [List.mem_singleton] at h
    subst h
    rw [dig_byte _ (Nat.mod_lt _ (by decide))]
    have := Nat.mod_lt u (show 10 > 0 by decide)
    omega
theorem dec_val (s : ByteArray) : ∀ (k u : Nat) (t : List UInt8), u < 10 ^ k → 0 < k → s.data.toList = decW k u ++ t → valN s (decW k u).length = (u : Int)
 | 0, _, _, _, h, _ => by omega
 | k + 1, u, t, hu, _, hs => by
  unfold decW at hs ⊢
  split at hs
  ·rename_i hlt
   rw [Nat.blt_eq] at hlt
   have h0 : s.get! 0 = UInt8.ofNat (48 + u) := get_of (by rw [hs]; rfl)
   show 10 * valN s 0 + ((byt s 0 : Int) - 48) = _
   unfold byt
   rw [h0, dig_byte u hlt]
   show 10 * (0 : Int) + (((48 + u : Nat) : Int) - 48) = _
   omega
  ·rename_i hlt
   have hge : 10 ≤ u := by
    rcases Nat.lt_or_ge u 10 with h | h
    ·rw [(show Nat.blt u 10 = true by rw [Nat.blt_eq]; exact h)] at hlt; cases hlt
    ·exact h
   have hk : 0 < k := by
    rcases Nat.eq_zero_or_pos k with h | h
    ·subst h; simp at hu; omega
    ·exact h
   have hm := Nat.mod_lt u (show 10 > 0 by decide)
   have ih := dec_val s k (u / 10) ([UInt8.ofNat (48 + u % 10)] ++ t) (by rw [Nat.pow_succ] at hu; omega) hk (by rw [hs, List.append_assoc])
   have hb : s.get! (decW k (u / 10)).length = UInt8.ofNat (48 + u % 10) := get_of (by
    rw [hs, List.append_assoc, List.getElem?_append_right (Nat.le_refl _)]
    simp)
   show valN s (decW k (u / 10) ++ [UInt8.ofNat (48 + u % 10)]).length = _
   rw [List.length_append]
   show 10 * valN s (decW k (u / 10)).length + ((byt s (decW k (u / 10)).length : Int) - 48) = _
   unfold byt
   rw [ih, hb, dig_byte _ hm]
   omega
theorem dec_short : ∀ (m k u : Nat), u < 10 ^ m → 0 < m → (decW k u).length ≤ m
 | 0, _, _, _, h => by omega
 | m + 1, 0, _, _, _ => by simp [decW]
 | m + 1, k + 1, u, hu, _ => by
  unfold decW
  split
  ·simp
  ·rename_i hlt
   have hge : 10 ≤ u := by
    rcases Nat.lt_or_ge u 10 with h | h
    ·rw [(show Nat.blt u 10 = true by rw [Nat.blt_eq]; exact h)] at hlt; cases hlt
    ·exact h
   have hm : 0 < m := by
    rcases Nat.eq_zero_or_pos m with h | h
    ·subst h; simp at hu; omega
    ·exact h
   have := dec_short m k (u / 10) (by rw [Nat.pow_succ] at hu; omega) hm
   rw [List.length_append]
   simp
   exact this
theorem dec_head : ∀ (k u : Nat), 0 < k → u < 10 ^ k → ∃ b l, decW k u = b :: l ∧ (b.toNat = 48 → u = 0 ∧ l = [])
 | 0, _, h, _ => by omega
 | k + 1, u, _, hu => by
  unfold decW
  split
  ·rename_i hlt
   rw [Nat.blt_eq] at hlt
   exact ⟨_, [], rfl, fun h => by rw [dig_byte u hlt] at h; exact ⟨by omega, rfl⟩⟩
  ·rename_i hlt
   have hge : 10 ≤ u := by
    rcases Nat.lt_or_ge u 10 with h | h
    ·rw [(show Nat.blt u 10 = true by rw [Nat.blt_eq]; exact h)] at hlt; cases hlt
    ·exact h
   have hk : 0 < k := by
    rcases Nat.eq_zero_or_pos k with h | h
    ·subst h; simp at hu; omega
    ·exact h
   obtain ⟨b, l, e, hb⟩ := dec_head k (u / 10) hk (by rw [Nat.pow_succ] at hu; omega)
   exact ⟨b, l ++ [UInt8.ofNat (48 + u % 10)], by rw [e]; rfl, fun h => by have := (hb h).1; omega⟩
theorem txt_dec {n : Int} (h0 : 0 ≤ n) : (txtB n).data.toList = decW 20 n.toNat := by
 obtain ⟨u, rfl⟩ := Int.eq_ofNat_of_zero_le h0
 show (itoaW (u : Int)).toArray.toList = _
 rw [List.toList_toArray]
 rfl
theorem txt_no {n : Int} (h0 : 0 ≤ n) {c : UInt8} (hc : c.toNat < 48) : ∀ b ∈ (txtB n).data.toList, b ≠ c := fun b hb he => by
 rw [txt_dec h0] at hb
 have := (dec_dig _ _ b hb).1
 rw [he] at this
 omega
theorem int_txt {n : Int} (h0 : 0 ≤ n) (h1 : n ≤ 1000000000) : gP (txtB n) = true ∧ vP (txtB n) = n := by
 obtain ⟨u, rfl⟩ := Int.eq_ofNat_of_zero_le h0
 have hd := txt_dec h0
 rw [show ((u : Int)).toNat = u from Int.toNat_natCast u] at hd
 have hlt : u < 10 ^ 20 := Nat.lt_of_le_of_lt (show u ≤ 1000000000 by omega) (by decide)
 have hlt2 : u < 10 ^ 10 := Nat.lt_of_le_of_lt (show u ≤ 1000000000 by omega) (by decide)
 have hsz : (txtB (u : Int)).size = (decW 20 u).length := by rw [size_list, hd]
 have hs10 : (txtB (u : Int)).size ≤ 10 := by rw [hsz]; exact dec_short 10 20 u hlt2 (by decide)
 have hdig : ∀ j, j < (txtB (u : Int)).size → digB (byt (txtB (u : Int)) j) = true := fun j hj => by
  have hj2 : j < (txtB (u : Int)).data.toList.length := by rw [← size_list]; exact hj
  have hg := get_of (s := txtB (u : Int)) (q := j) (List.getElem?_eq_getElem hj2)
  unfold byt
  rw [hg]
  refine digB_iff.2 (dec_dig 20 u _ ?_)
  rw [← hd]
  exact List.getElem_mem _
 have hg := intP_good hs10 hdig
 obtain ⟨b, l, e, hb⟩ := dec_head 20 u (by decide) hlt
 have hcan : canonB (txtB (u : Int)) = true := by
  refine canonB_iff.2 ⟨by rw [hsz, e]; simp, fun h => ?_⟩
  have h2 : (txtB (u : Int)).get! 0 = b := get_of (by rw [hd, e]; rfl)
  unfold byt at h
  rw [h2] at h
  have := (hb h).2
  rw [hsz, e, this]; rfl
 have hv : valN (txtB (u : Int)) (txtB (u : Int)).size = (u : Int) := by
  rw [hsz]
  exact dec_val (txtB (u : Int)) 20 u [] hlt (by decide) (by rw [hd, List.append_nil])
 unfold gP vP
 rw [hg]
 exact ⟨hcan, hv⟩
def lnL0 (room : Int) : List UInt8 := sTank.data.toList ++ (32 :: (txtB room).data.toList)
def lnL1 (x y : Int) : List UInt8 := sLayer.data.toList ++ (32 :: ((txtB x).data.toList ++ (32 :: (txtB y).data.toList)))
def lnsL (room : Int) (z1 z2 : Nat → Int) : Nat → List (List UInt8)
 | 0 => [lnL0 room]
 | k + 1 => lnsL room z1 z2 k ++ [lnL1 (z1 k) (z2 k)]
theorem lnsL_len (room : Int) (z1 z2 : Nat → Int) : ∀ n, (lnsL room z1 z2 n).length = n + 1
 | 0 => rfl
 | n + 1 => by
  show (lnsL room z1 z2 n ++ [lnL1 (z1 n) (z2 n)]).length = _
  rw [List.length_append, lnsL_len room z1 z2 n]; rfl
theorem lnsL_zero (room : Int) (z1 z2 : Nat → Int) : ∀ n, (lnsL room z1 z2 n)[0]? = some (lnL0 room)
 | 0 => rfl
 | n + 1 => by
  show (lnsL room z1 z2 n ++ [lnL1 (z1 n) (z2 n)])[0]? = _
  rw [List.getElem?_append_left (by rw [lnsL_len]; omega)]
  exact lnsL_zero room z1 z2 n
theorem lnsL_succ (room : Int) (z1 z2 : Nat → Int) (j : Nat) : ∀ n, j < n → (lnsL room z1 z2 n)[j + 1]? = some (lnL1 (z1 j) (z2 j))
 | 0, h => by omega
 | n + 1, h => by
  show (lnsL room z1 z2 n ++ [lnL1 (z1 n) (z2 n)])[j + 1]? = _
  by_cases e : j = n
  ·subst e
   rw [List.getElem?_append_right (by rw [lnsL_len]; omega), lnsL_len]
   simp
  ·rw [List.getElem?_append_left (by rw [lnsL_len]; omega)]
   exact lnsL_succ room z1 z2 j n (by omega)
theorem line_list0 (room : Int) : (linB sTank [room]).data.toList = lnL0 room ++ [10] := by
 unfold linB lnL0
 rw [app_list]
 show (sTank.data.toList ++ (blankB.data.toList ++ (txtB room).data.toList)) ++ nlB.data.toList = _
 rfl
theorem line_list1 (x y : Int) : (linB sLayer [x, y]).data.toList = lnL1 x y ++ [10] := by
 unfold linB lnL1
 rw [app_list]
 show (sLayer.data.toList ++ (blankB.data.toList ++ ((txtB x).data.toList ++ (blankB.data.toList ++ (txtB y).data.toList)))) ++ nlB.data.toList = _
 rfl
theorem txP_list (room : Int) (z1 z2 : Nat → Int) : ∀ n, (txP room z1 z2 n).data.toList = catL 10 (lnsL room z1 z2 n)
 | 0 => by
  show (linB sTank [room]).data.toList = _
  rw [line_list0]
  rfl
 | n + 1 => by
  show (txP room z1 z2 n ++ linB sLayer [z1 n, z2 n]).data.toList = catL 10 (lnsL room z1 z2 n ++ [lnL1 (z1 n) (z2 n)])
  rw [app_list, txP_list room z1 z2 n, line_list1, catL_snoc]
theorem no_tank : ∀ b ∈ sTank.data.toList, b ≠ 10 ∧ b ≠ 32 := by decide
theorem no_layer : ∀ b ∈ sLayer.data.toList, b ≠ 10 ∧ b ≠ 32 := by decide
theorem ln0_no {room : Int} (h : 0 ≤ room) : ∀ b ∈ lnL0 room, b ≠ 10 := fun b hb => by
 rcases List.mem_append.1 hb with hb | hb
 ·exact (no_tank b hb).1
 ·rcases List.mem_cons.1 hb with rfl | hb
  ·decide
  ·exact txt_no h (by decide) b hb
theorem ln1_no {x y : Int} (hx : 0 ≤ x) (hy : 0 ≤ y) : ∀ b ∈ lnL1 x y, b ≠ 10 := fun b hb => by
 rcases List.mem_append.1 hb with hb | hb
 ·exact (no_layer b hb).1
 ·rcases List.mem_cons.1 hb with rfl | hb
  ·decide
  ·rcases List.mem_append.1 hb with hb | hb
   ·exact txt_no hx (by decide) b hb
   ·rcases List.mem_cons.1 hb with rfl | hb
    ·decide
    ·exact txt_no hy (by decide) b hb
theorem lns_no {room : Int} {z1 z2 : Nat → Int} (h : 0 ≤ room) : ∀ n, (∀ j, j < n → 0 ≤ z1 j ∧ 0 ≤ z2 j) → ∀ L ∈ lnsL room z1 z2 n, ∀ b ∈ L, b ≠ 10
 | 0, _, L, hL => by
  rw [List.mem_singleton.1 hL]
  exact ln0_no h
 | n + 1, hz, L, hL => by
  rcases List.mem_append.1 hL with hL | hL
  ·exact lns_no h n (fun j hj => hz j (by omega)) L hL
  ·rw [List.mem_singleton.1 hL]
   exact ln1_no (hz n (by omega)).1 (hz n (by omega)).2
theorem back_list (s : ByteArray) : (⟨s.data.toList.toArray⟩ : ByteArray) = s := ByteArray.ext (by simp)
theorem ln0_ok {room : Int} (h0 : 0 ≤ room) (h1 : room ≤ 1000000000) : okB 0 ⟨(lnL0 room).toArray⟩ = true ∧ vP (wd ⟨(lnL0 room).toArray⟩ 1) = room := by
 obtain ⟨a1, a2⟩ := text_words (s := ⟨(lnL0 room).toArray⟩) (Ls := [sTank.data.toList]) (R := (txtB room).data.toList) (by simp [lnL0, catL]) (fun L hL b hb => by rw [List.mem_singleton.1 hL] at hb; exact (no_tank b hb).2) (txt_no h0 (by decide))
 have w0 := a2 0 _ rfl
 have w1 := a2 1 _ rfl
 rw [back_list] at w0 w1
 obtain ⟨g1, g2⟩ := int_txt h0 h1
 refine ⟨?_, by rw [w1]; exact g2⟩
 rw [okB_zero, a1, w0, w1, g1]
 simp
theorem ln1_ok {x y : Int} (hx0 : 0 ≤ x) (hx1 : x ≤ 1000000000) (hy0 : 0 ≤ y) (hy1 : y ≤ 1000000000) (j : Nat) : okB (j + 1) ⟨(lnL1 x y).toArray⟩ = true ∧ vP (wd ⟨(lnL1 x y).toArray⟩ 1) = x ∧ vP (wd ⟨(lnL1 x y).toArray⟩ 2) = y := by
 obtain ⟨a1, a2⟩ := text_words (s := ⟨(lnL1 x y).toArray⟩) (Ls := [sLayer.data.toList, (txtB x).data.toList]) (R := (txtB y).data.toList) (by simp [lnL1, catL]) (fun L hL b hb => by
  simp only [List.mem_cons, List.not_mem_nil, or_false] at hL
  rcases hL with rfl | rfl
  ·exact (no_layer b hb).2
  ·exact txt_no hx0 (by decide) b hb) (txt_no hy0 (by decide))
 have w0 := a2 0 _ rfl
 have w1 := a2 1 _ rfl
 have w2 := a2 2 _ rfl
 rw [back_list] at w0 w1 w2
 obtain ⟨g1, g2⟩ := int_txt hx0 hx1
 obtain ⟨k1, k2⟩ := int_txt hy0 hy1
 refine ⟨?_, by rw [w1]; exact g2, by rw [w2]; exact k2⟩
 rw [okB_one, a1, w0, w1, w2, g1, k1]
 simp
theorem sumA_congr {a b : Nat → Int} : ∀ n, (∀ j, j < n → a j = b j) → sumA a n = sumA b n
 | 0, _ => rfl
 | n + 1, h => by
  show w64 (sumA a n + a n) = w64 (sumA b n + b n)
  rw [sumA_congr n fun j hj => h j (by omega), h n (by omega)]
theorem fnz_congr {g g' : Nat → Int} : ∀ (m k : Nat), (∀ j, k ≤ j → j < k + m → g j = g' j) → fnz g m k = fnz g' m k
 | 0, _, _ => rfl
 | m + 1, k, h => by
  unfold fnz
  rw [h k (Nat.le_refl _) (by omega), fnz_congr m (k + 1) fun j h1 h2 => h j (by omega) (by omega)]
theorem layE_congr {a b a' b' : Nat → Int} {n k : Nat} (hk : k < n) (h1 : ∀ j, j < n → a j = a' j) (h2 : ∀ j, j < n → b j = b' j) : layE a b k = layE a' b' k := by
 unfold layE rowE cold
 rw [h1 k hk, h2 k hk, h1 (k - 1) (by omega), h2 (k - 1) (by omega)]
theorem tankE_congr {a b a' b' : Nat → Int} {n : Nat} {room : Int} (h1 : ∀ j, j < n → a j = a' j) (h2 : ∀ j, j < n → b j = b' j) : tankE n room a b = tankE n room a' b' := by
 unfold tankE endE
 rw [sumA_congr n h1, sumA_congr n h2, fnz_congr n 0 fun j _ hj => layE_congr (by omega) h1 h2]
theorem same_congr {a b a' b' : Nat → Int} {n : Nat} {room : Int} (h1 : ∀ j, j < n → a j = a' j) (h2 : ∀ j, j < n → b j = b' j) : sameT n n room room a b a' b' = true := by
 unfold sameT
 rw [show (room != room) = false by simp, show ((n : Int) != (n : Int)) = false by simp]
 simp only
 rw [fnz_congr (g' := fun _ => 0) n 0 fun j _ hj => by unfold smG eqR; rw [h1 j (by omega), h2 j (by omega)]; simp, fnz0 (fun _ => rfl)]
theorem e0_none {s : ByteArray} (h1 : s.size ≤ 4096) (h2 : 0 < s.size) : e0S s = 0 := by
 unfold e0S
 have a : decide ((s.size : Int) > 4096) = false := by simp only [decide_eq_false_iff_not]; omega
 have b : (s.toList == sNil.toList) = false := by
  cases hb : s.toList == sNil.toList with
  | false => rfl
  | true =>
   rw [beq_iff_eq, ByteArray.toList_eq, ByteArray.toList_eq] at hb
   have : s.data.toList.length = 0 := by rw [hb]; rfl
   rw [← size_list] at this
   omega
 rw [a, b]
 rfl
section
variable {n : Nat} {room : Int} {z1 z2 : Nat → Int} (h : tankE n room z1 z2 = 0)
include h
theorem print_told : psE (txP room z1 z2 n) = 0 ∧ psAt (txP room z1 z2 n) = 0 ∧ nlP (txP room z1 z2 n) = n ∧ rmP (txP room z1 z2 n) = room ∧ (∀ j, j < n → f1P (txP room z1 z2 n) j = z1 j ∧ f2P (txP room z1 z2 n) j = z2 j) ∧ cntA (txP room z1 z2 n) 10 = n + 1 := by
 obtain ⟨⟨hr1, hr2⟩, hn⟩ := tank_room h
 have hrows := tank_rows h
 have hlist := txP_list room z1 z2 n
 obtain ⟨b1, b2, b3, b4⟩ := text_parts (s := txP room z1 z2 n) (R := []) (by rw [hlist, List.append_nil]) (lns_no (by omega) n fun j hj => by have := hrows j hj; omega) (fun b hb => by cases hb)
 rw [lnsL_len] at b1 b3 b4
 have hsz := txP_size room z1 z2 n
 have hsz2 : (txP room z1 z2 n).size ≤ 4096 := by
  rw [tx_same]
  have := txQ_size room z1 z2 n
  omega
 have hp0 : Proofs.part (txP room z1 z2 n) 10 0 = ⟨(lnL0 room).toArray⟩ := b2 0 _ (lnsL_zero room z1 z2 n)
 have hp1 : ∀ j, j < n → Proofs.part (txP room z1 z2 n) 10 (j + 1) = ⟨(lnL1 (z1 j) (z2 j)).toArray⟩ := fun j hj => b2 (j + 1) _ (lnsL_succ room z1 z2 j n hj)
 have hpos : 0 < (txP room z1 z2 n).size := by
  have := part_in (txP room z1 z2 n) 10 (show 0 < cntA (txP room z1 z2 n) 10 by omega)
  omega
 have h0 := e0_none hsz2 hpos
 have hl : linN (txP room z1 z2 n) = n + 1 := by
  unfold linN
  rw [b1, if_neg (by simp only [List.length_nil] at b4; omega)]
 have hbad : badAt (txP room z1 z2 n) = none := bad_no (by
  rw [hl]
  intro j hj
  unfold lnOk
  rw [blt_ok (by omega), Bool.true_and]
  cases j with
  | zero => rw [hp0]; exact (ln0_ok (by omega) (by omega)).1
  | succ j =>
   have := hrows j (by omega)
   rw [hp1 j (by omega)]
   exact (ln1_ok (by omega) (by omega) (by omega) (by omega) j).1)
 have hnl : nlP (txP room z1 z2 n) = n := by unfold nlP; omega
 have hrm : rmP (txP room z1 z2 n) = room := by unfold rmP; rw [hp0]; exact (ln0_ok (by omega) (by omega)).2
 have hf : ∀ j, j < n → f1P (txP room z1 z2 n) j = z1 j ∧ f2P (txP room z1 z2 n) j = z2 j := fun j hj => by
  have := hrows j hj
  unfold f1P f2P
  rw [hp1 j hj]
  exact (ln1_ok (by omega) (by omega) (by omega) (by omega) j).2
 have hE : tankE n room (f1P (txP room z1 z2 n)) (f2P (txP room z1 z2 n)) = 0 := (tankE_congr (fun j hj => (hf j hj).1) fun j hj => (hf j hj).2).trans h
 refine ⟨?_, ?_, hnl, hrm, hf, b1⟩
 ·unfold psE
  rw [h0, hbad, hnl, hrm]
  exact hE
 ·unfold psAt
  rw [h0, hbad, hnl, hrm, hE]
  rfl
theorem cut_told : psE ((txP room z1 z2 n).extract 0 ((txP room z1 z2 n).size - 1)) = 25 ∧ psAt ((txP room z1 z2 n).extract 0 ((txP room z1 z2 n).size - 1)) = (n : Int) := by
 obtain ⟨⟨hr1, hr2⟩, hn⟩ := tank_room h
 have hrows := tank_rows h
 have hz : ∀ j, j < n → 0 ≤ z1 j ∧ 0 ≤ z2 j := fun j hj => by have := hrows j hj; omega
 obtain ⟨I, L, hI, hIl, hL0, hIn, hLn, hIj⟩ : ∃ (I : List (List UInt8)) (L : List UInt8), lnsL room z1 z2 n = I ++ [L] ∧ I.length = n ∧ L ≠ [] ∧ (∀ M ∈ I, ∀ b ∈ M, b ≠ 10) ∧ (∀ b ∈ L, b ≠ 10) ∧ ∀ j, j < n → I[j]? = (lnsL room z1 z2 n)[j]? := by
  cases n with
  | zero => exact ⟨[], lnL0 room, rfl, rfl, by simp [lnL0], fun M hM => (by cases hM), ln0_no (by omega), fun j hj => by omega⟩
  | succ k => exact ⟨lnsL room z1 z2 k, lnL1 (z1 k) (z2 k), rfl, lnsL_len room z1 z2 k, by simp [lnL1], lns_no (by omega) k fun j hj => hz j (by omega), ln1_no (hz k (by omega)).1 (hz k (by omega)).2, fun j hj => by
    show _ = (lnsL room z1 z2 k ++ [_])[j]?
    rw [List.getElem?_append_left (by rw [lnsL_len]; omega)]⟩
 have hlist := txP_list room z1 z2 n
 rw [hI, catL_snoc] at hlist
 obtain ⟨s, hs⟩ : ∃ s, s = (txP room z1 z2 n).extract 0 ((txP room z1 z2 n).size - 1) := ⟨_, rfl⟩
 have hsl : s.data.toList = catL 10 I ++ L := by
  rw [hs, ByteArray.data_extract, Array.toList_extract, List.extract_eq_take_drop, size_list, hlist]
  have e : ∀ (X : List UInt8) (c : UInt8), List.take ((X ++ [c]).length - 1 - 0) (List.drop 0 (X ++ [c])) = X := fun X c => by simp
  rw [show catL 10 I ++ (L ++ [10]) = (catL 10 I ++ L) ++ [10] by simp]
  exact e _ _
 rw [← hs]
 obtain ⟨b1, b2, b3, b4⟩ := text_parts hsl hIn hLn
 rw [hIl] at b1 b3 b4
 have hLp : 0 < L.length := List.length_pos_iff.2 hL0
 have hsz2 : s.size ≤ 4096 := by
  have h1 := txQ_size room z1 z2 n
  rw [← tx_same] at h1
  rw [hs, ByteArray.size_extract]
  omega
 have h0 := e0_none hsz2 (by omega)
 have hlast : beg s 10 0 (cntA s 10) < s.size := by rw [b1]; omega
 have hl : linN s = n + 1 := by unfold linN; rw [if_pos hlast, b1]
 have hgood : goodK s n := fun j hj => by
  unfold lnOk
  rw [blt_ok (by omega), Bool.true_and]
  have hj2 := hIj j hj
  cases j with
  | zero =>
   rw [lnsL_zero] at hj2
   rw [b2 0 _ hj2]
   exact (ln0_ok (by omega) (by omega)).1
  | succ j =>
   rw [lnsL_succ room z1 z2 j n (by omega)] at hj2
   have := hrows j (by omega)
   rw [b2 (j + 1) _ hj2]
   exact (ln1_ok (by omega) (by omega) (by omega) (by omega) j).1
 have hb : badAt s = some n := bad_at hgood (by omega) (by rw [← b1]; exact lnOk_last hlast)
 constructor
 ·unfold psE
  rw [h0, hb]
  rfl
 ·unfold psAt
  rw [h0, hb]
  rfl
end
end Go.Ev
