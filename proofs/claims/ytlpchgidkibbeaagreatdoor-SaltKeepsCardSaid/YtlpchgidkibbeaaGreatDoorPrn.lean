/- The parts of a text between two bytes of one kind, told by where they begin: strings.Split's parts, the lines of strings.Lines. Conditions: none. A line of a tank's text. Conditions: none. A tank's text, by the program. Conditions: few layers. A tank's text, by the reference. Conditions: few layers. The reference's Split. Conditions: none. -/
import Derived.Test.YtlpchgidkibbeaaGreatDoorIter
import Derived.Test.YtlpchgidkibbeaaGreatDoorNum
import Derived.Test.YtlpchgidkibbeaaGreatDoorSkf
import Derived.Test.YtlpchgidkibbeaaGreatDoorTank3
import Derived.Test.YtlpchgidkibbeaaGreatDoorRng
namespace Go.Proofs
open Go.Ev
def nxtF (s : ByteArray) (c : UInt8) : Nat → Nat → Nat
 | 0, p => p
 | f + 1, p => if s.get! p = c then p else nxtF s c f (p + 1)
def nxt (s : ByteArray) (c : UInt8) (p : Nat) : Nat := nxtF s c (s.size - p) p
theorem nxtF_spec (s : ByteArray) (c : UInt8) : ∀ (f p : Nat), p + f = s.size → p ≤ nxtF s c f p ∧ nxtF s c f p ≤ s.size ∧ (∀ q, p ≤ q → q < nxtF s c f p → s.get! q ≠ c) ∧ (nxtF s c f p < s.size → s.get! (nxtF s c f p) = c)
 | 0, p, h => ⟨Nat.le_refl _, by show p ≤ _; omega, fun q h1 h2 => by have h2 : q < p := h2; omega, fun h1 => by have h1 : p < s.size := h1; omega⟩
 | f + 1, p, h => by
  unfold nxtF
  split
  ·rename_i hc
   exact ⟨Nat.le_refl _, by omega, fun q h1 h2 => by omega, fun _ => hc⟩
  ·rename_i hc
   obtain ⟨a1, a2, a3, a4⟩ := nxtF_spec s c f (p + 1) (by omega)
   refine ⟨by omega, a2, fun q h1 h2 => ?_, a4⟩
   by_cases e : q = p
   ·subst e; exact hc
   ·exact a3 q (by omega) h2
theorem nxt_spec (s : ByteArray) (c : UInt8) {p : Nat} (h : p ≤ s.size) : p ≤ nxt s c p ∧ nxt s c p ≤ s.size ∧ (∀ q, p ≤ q → q < nxt s c p → s.get! q ≠ c) ∧ (nxt s c p < s.size → s.get! (nxt s c p) = c) := nxtF_spec s c _ p (by omega)
theorem nxt_big {s : ByteArray} {c : UInt8} {p : Nat} (h : s.size ≤ p) : nxt s c p = p := by
 unfold nxt
 rw [show s.size - p = 0 by omega]
 rfl
theorem nxt_ge (s : ByteArray) (c : UInt8) (p : Nat) : p ≤ nxt s c p := by
 rcases Nat.le_total p s.size with h | h
 ·exact (nxt_spec s c h).1
 ·rw [nxt_big h]; exact Nat.le_refl _
theorem nxt_uniq {s : ByteArray} {c : UInt8} {p q : Nat} (hp : p ≤ q) (hq : q ≤ s.size) (hno : ∀ r, p ≤ r → r < q → s.get! r ≠ c) (hat : q < s.size → s.get! q = c) : nxt s c p = q := by
 obtain ⟨a1, a2, a3, a4⟩ := nxt_spec s c (p := p) (by omega)
 rcases Nat.lt_trichotomy (nxt s c p) q with h | h | h
 ·exact absurd (a4 (by omega)) (hno _ a1 h)
 ·exact h
 ·exact absurd (hat (by omega)) (a3 q hp h)
def beg (s : ByteArray) (c : UInt8) (p : Nat) : Nat → Nat
 | 0 => p
 | j + 1 => nxt s c (beg s c p j) + 1
theorem beg_next (s : ByteArray) (c : UInt8) (p : Nat) : ∀ j, beg s c p (j + 1) = beg s c (nxt s c p + 1) j
 | 0 => rfl
 | j + 1 => by
  show nxt s c (beg s c p (j + 1)) + 1 = nxt s c (beg s c (nxt s c p + 1) j) + 1
  rw [beg_next s c p j]
theorem beg_lt (s : ByteArray) (c : UInt8) (p j : Nat) : beg s c p j < beg s c p (j + 1) := by
 show beg s c p j < nxt s c (beg s c p j) + 1
 have := nxt_ge s c (beg s c p j)
 omega
theorem beg_mono (s : ByteArray) (c : UInt8) (p : Nat) {i j : Nat} (h : i ≤ j) : beg s c p i ≤ beg s c p j := by
 induction j with
 | zero => rw [Nat.le_zero.1 h]; exact Nat.le_refl _
 | succ j ih =>
  rcases Nat.lt_or_eq_of_le h with h1 | h1
  ·exact Nat.le_trans (ih (by omega)) (Nat.le_of_lt (beg_lt s c p j))
  ·rw [h1]; exact Nat.le_refl _
theorem get_list {s : ByteArray} {q : Nat} (h : q < s.size) : s.data.toList[q]? = some (s.get! q) := by
 have e : s.get! q = s[q]'h := by
  cases s with
  | mk d => exact getElem!_pos d q h
 rw [e, List.getElem?_eq_getElem (by rw [Array.length_toList]; exact h)]
 rfl
theorem ext_list (s : ByteArray) (p k : Nat) : (s.extract p s.size).data.toList[k]? = s.data.toList[p + k]? := by
 rw [ByteArray.data_extract, Array.toList_extract, List.extract_eq_take_drop, List.getElem?_take]
 have hs : s.size = s.data.toList.length := by rw [Array.length_toList]; rfl
 split
 ·rw [List.getElem?_drop]
 ·rename_i h
  rw [List.getElem?_eq_none (by omega)]
theorem byte_off (s : ByteArray) (c : UInt8) {p : Nat} (hp : p ≤ s.size) : Lib.indexByte (s.extract p s.size).data.toList c = if nxt s c p < s.size then ((nxt s c p - p : Nat) : Int) else -1 := by
 obtain ⟨a1, a2, a3, a4⟩ := nxt_spec s c hp
 have hge := Lib.indexByte_ge (s.extract p s.size).data.toList c
 by_cases h : Lib.indexByte (s.extract p s.size).data.toList c = -1
 ·rw [h]
  split
  ·rename_i hlt
   have h2 := Lib.indexByte_none h (nxt s c p - p)
   rw [ext_list, show p + (nxt s c p - p) = nxt s c p by omega, get_list hlt, a4 hlt] at h2
   exact absurd rfl h2
  ·rfl
 ·obtain ⟨o, ho⟩ : ∃ o : Nat, Lib.indexByte (s.extract p s.size).data.toList c = o := ⟨(Lib.indexByte (s.extract p s.size).data.toList c).toNat, by omega⟩
  obtain ⟨h1, h2⟩ := Lib.indexByte_some ho
  rw [ext_list] at h1
  have hlt : p + o < s.size := by
   have := (List.getElem?_eq_some_iff.1 h1).1
   rw [Array.length_toList] at this
   exact this
  rw [get_list hlt] at h1
  injection h1 with h1
  have e : nxt s c p = p + o := nxt_uniq (by omega) (by omega) (fun r hr1 hr2 he => by
   have h3 := h2 (r - p) (by omega)
   rw [ext_list, show p + (r - p) = r by omega, get_list (by omega), he] at h3
   exact h3 rfl) fun _ => h1
  rw [ho, e, if_pos hlt]
  congr 1
  omega
theorem index_off (s : ByteArray) (c : UInt8) {p : Nat} (hp : p ≤ s.size) : Lib.indexB (s.extract p s.size) ⟨#[c]⟩ = if nxt s c p < s.size then ((nxt s c p - p : Nat) : Int) else -1 := by
 rw [← byte_off s c hp]
 exact Lib.index_one _ _
theorem ext_ext (s : ByteArray) (p i : Nat) : (s.extract p s.size).extract i (s.extract p s.size).size = s.extract (p + i) s.size := by
 rw [ByteArray.extract_extract, ByteArray.size_extract]
 congr 1
 omega
theorem ext_pre (s : ByteArray) {p q : Nat} (h : q ≤ s.size) (hp : p ≤ q) : (s.extract p s.size).extract 0 (q - p) = s.extract p q := by
 rw [ByteArray.extract_extract, show p + (q - p) = q by omega, Nat.add_zero, Nat.min_eq_left h]
def cntP (s : ByteArray) (c : UInt8) (p : Nat) : Nat := Lib.countB (s.extract p s.size) ⟨#[c]⟩
theorem cnt_miss {s : ByteArray} {c : UInt8} {p : Nat} (hp : p ≤ s.size) (h : ¬ nxt s c p < s.size) : cntP s c p = 0 := Lib.countB_miss _ _ (by rw [index_off s c hp, if_neg h])
theorem cnt_hit {s : ByteArray} {c : UInt8} {p : Nat} (hp : p ≤ s.size) (h : nxt s c p < s.size) : cntP s c p = 1 + cntP s c (nxt s c p + 1) := by
 have hg := nxt_ge s c p
 unfold cntP
 rw [Lib.countB_hit _ _ (nxt s c p - p) (Nat.le_refl _) (by rw [index_off s c hp, if_pos h]), ext_ext]
 rw [show p + (nxt s c p - p + (⟨#[c]⟩ : ByteArray).size) = nxt s c p + 1 by show p + (nxt s c p - p + 1) = _; omega]
theorem parts_off (s : ByteArray) (c : UInt8) : ∀ (k p : Nat), p ≤ s.size → cntP s c p = k → (∀ j, j ≤ k → (Lib.splitB ⟨#[c]⟩ 0 k (s.extract p s.size))[j]? = some (s.extract (beg s c p j) (nxt s c (beg s c p j)))) ∧ (∀ j, j < k → nxt s c (beg s c p j) < s.size) ∧ nxt s c (beg s c p k) = s.size ∧ beg s c p k ≤ s.size
 | 0, p, hp, hk => by
  have hn : ¬ nxt s c p < s.size := fun h => by rw [cnt_hit hp h] at hk; omega
  have he : nxt s c p = s.size := by have := (nxt_spec s c hp).2.1; omega
  refine ⟨fun j hj => ?_, fun j hj => by omega, he, hp⟩
  rw [Nat.le_zero.1 hj]
  show some (s.extract p s.size) = some (s.extract p (nxt s c p))
  rw [he]
 | k + 1, p, hp, hk => by
  have hn : nxt s c p < s.size := by
   by_cases h : nxt s c p < s.size
   ·exact h
   ·rw [cnt_miss hp h] at hk; omega
  have hg := nxt_ge s c p
  have hk2 : cntP s c (nxt s c p + 1) = k := by rw [cnt_hit hp hn] at hk; omega
  obtain ⟨a1, a2, a3, a4⟩ := parts_off s c k (nxt s c p + 1) (by omega) hk2
  refine ⟨fun j hj => ?_, fun j hj => ?_, by rw [beg_next]; exact a3, by rw [beg_next]; exact a4⟩
  ·rw [Lib.splitB_hit _ 0 k _ (nxt s c p - p) (by rw [index_off s c hp, if_pos hn]), ext_ext]
   cases j with
   | zero =>
    rw [List.getElem?_cons_zero, Nat.add_zero, ext_pre s (by omega) hg]
    rfl
   | succ j =>
    rw [List.getElem?_cons_succ, beg_next, show p + (nxt s c p - p + (⟨#[c]⟩ : ByteArray).size) = nxt s c p + 1 by show p + (nxt s c p - p + 1) = _; omega]
    exact a1 j (by omega)
  ·cases j with
   | zero => exact hn
   | succ j => rw [beg_next]; exact a2 j (by omega)
theorem ext_all (s : ByteArray) : s.extract 0 s.size = s := by
 refine ByteArray.ext ?_
 rw [ByteArray.data_extract]
 exact Array.extract_size
def part (s : ByteArray) (c : UInt8) (j : Nat) : ByteArray := s.extract (beg s c 0 j) (nxt s c (beg s c 0 j))
def cntA (s : ByteArray) (c : UInt8) : Nat := cntP s c 0
theorem wrdN_is (s : ByteArray) (c : UInt8) : wrdN s c = cntA s c + 1 := by
 unfold wrdN cntA cntP
 rw [ext_all]
theorem wrdF_is (s : ByteArray) (c : UInt8) {j : Nat} (hj : j ≤ cntA s c) : wrdF s c j = part s c j := by
 have := (parts_off s c _ 0 (Nat.zero_le _) rfl).1 j hj
 unfold wrdF part
 unfold cntP at this
 rw [ext_all] at this
 rw [List.getD_eq_getElem?_getD, this]
 rfl
theorem part_in (s : ByteArray) (c : UInt8) {j : Nat} (hj : j < cntA s c) : nxt s c (beg s c 0 j) < s.size := (parts_off s c _ 0 (Nat.zero_le _) rfl).2.1 j hj
theorem part_last (s : ByteArray) (c : UInt8) : nxt s c (beg s c 0 (cntA s c)) = s.size ∧ beg s c 0 (cntA s c) ≤ s.size := (parts_off s c _ 0 (Nat.zero_le _) rfl).2.2
theorem beg_le (s : ByteArray) (c : UInt8) {j : Nat} (hj : j ≤ cntA s c) : beg s c 0 j ≤ s.size := Nat.le_trans (beg_mono s c 0 hj) (part_last s c).2
def mAt (s : ByteArray) (c : UInt8) : Nat → Nat
 | 0 => 0
 | i + 1 => if s.get! i = c then mAt s c i + 1 else mAt s c i
theorem mAt_in (s : ByteArray) (c : UInt8) : ∀ i, i ≤ s.size → beg s c 0 (mAt s c i) ≤ i ∧ i ≤ nxt s c (beg s c 0 (mAt s c i))
 | 0, _ => ⟨Nat.le_refl _, Nat.zero_le _⟩
 | i + 1, hi => by
  obtain ⟨a1, a2⟩ := mAt_in s c i (by omega)
  obtain ⟨b1, b2, b3, b4⟩ := nxt_spec s c (p := beg s c 0 (mAt s c i)) (by omega)
  unfold mAt
  split
  ·rename_i h
   have e : nxt s c (beg s c 0 (mAt s c i)) = i := by
    rcases Nat.lt_or_eq_of_le a2 with h1 | h1
    ·exact absurd h (b3 i a1 h1)
    ·exact h1.symm
   have e2 : beg s c 0 (mAt s c i + 1) = i + 1 := by show nxt s c (beg s c 0 (mAt s c i)) + 1 = _; rw [e]
   rw [e2]
   exact ⟨Nat.le_refl _, nxt_ge s c _⟩
  ·rename_i h
   refine ⟨by omega, ?_⟩
   rcases Nat.lt_or_eq_of_le a2 with h1 | h1
   ·exact h1
   ·exact absurd (by rw [← h1] at b4; exact b4 (by omega)) h
theorem mAt_hit {s : ByteArray} {c : UInt8} {i : Nat} (hi : i < s.size) (h : s.get! i = c) : nxt s c (beg s c 0 (mAt s c i)) = i ∧ beg s c 0 (mAt s c i + 1) = i + 1 := by
 obtain ⟨a1, a2⟩ := mAt_in s c i (by omega)
 obtain ⟨b1, b2, b3, b4⟩ := nxt_spec s c (p := beg s c 0 (mAt s c i)) (by omega)
 have e : nxt s c (beg s c 0 (mAt s c i)) = i := by
  rcases Nat.lt_or_eq_of_le a2 with h1 | h1
  ·exact absurd h (b3 i a1 h1)
  ·exact h1.symm
 exact ⟨e, by show nxt s c (beg s c 0 (mAt s c i)) + 1 = _; rw [e]⟩
theorem mAt_end (s : ByteArray) (c : UInt8) : mAt s c s.size = cntA s c := by
 obtain ⟨a1, a2⟩ := mAt_in s c s.size (Nat.le_refl _)
 have a3 := (nxt_spec s c a1).2.1
 rcases Nat.lt_trichotomy (mAt s c s.size) (cntA s c) with h | h | h
 ·have := part_in s c h; omega
 ·exact h
 ·have h1 := beg_mono s c 0 (show cntA s c + 1 ≤ mAt s c s.size by omega)
  have h2 : beg s c 0 (cntA s c + 1) = s.size + 1 := by show nxt s c (beg s c 0 (cntA s c)) + 1 = _; rw [(part_last s c).1]
  omega
theorem nl_off (s : ByteArray) {p : Nat} (hp : p ≤ s.size) : nlAt (s.extract p s.size) = if nxt s 10 p < s.size then ((nxt s 10 p - p : Nat) : Int) else -1 := byte_off s 10 hp
theorem ext_over {s : ByteArray} {p q : Nat} (h : q ≤ p) : s.extract p q = ⟨#[]⟩ := by
 refine ByteArray.ext ?_
 rw [ByteArray.data_extract]
 exact Array.extract_eq_empty_of_le (by omega)
theorem rest_off (s : ByteArray) : ∀ k, restL s k = s.extract (beg s 10 0 k) s.size
 | 0 => (ext_all s).symm
 | k + 1 => by
  show tailL (restL s k) = _
  rw [rest_off s k]
  rcases Nat.lt_or_ge s.size (beg s 10 0 k) with h | h
  ·rw [ext_over (by omega), ext_over (by have := beg_lt s 10 0 k; omega)]
   rfl
  ·unfold tailL
   rw [nl_off s h]
   have hg := nxt_ge s 10 (beg s 10 0 k)
   by_cases h1 : nxt s 10 (beg s 10 0 k) < s.size
   ·rw [if_pos h1, if_pos (by omega), ext_ext]
    congr 1
    show _ = nxt s 10 (beg s 10 0 k) + 1
    omega
   ·rw [if_neg h1, if_neg (by omega), ext_over (by show s.size ≤ nxt s 10 (beg s 10 0 k) + 1; omega)]
theorem head_in {s : ByteArray} {k : Nat} (hk : k < cntA s 10) : headL (restL s k) = s.extract (beg s 10 0 k) (nxt s 10 (beg s 10 0 k) + 1) := by
 have h1 := part_in s 10 hk
 have hb := beg_le s 10 (Nat.le_of_lt hk)
 have hg := nxt_ge s 10 (beg s 10 0 k)
 rw [rest_off]
 unfold headL
 rw [nl_off s hb, if_pos h1, if_pos (by omega)]
 rw [show (((nxt s 10 (beg s 10 0 k) - beg s 10 0 k : Nat) : Int) + 1).toNat = (nxt s 10 (beg s 10 0 k) + 1) - beg s 10 0 k by omega]
 exact ext_pre s (by omega) (by omega)
theorem head_last (s : ByteArray) : headL (restL s (cntA s 10)) = part s 10 (cntA s 10) := by
 obtain ⟨h1, h2⟩ := part_last s 10
 rw [rest_off]
 unfold headL
 rw [nl_off s h2, h1, if_neg (Nat.lt_irrefl _), if_neg (by omega)]
 unfold part
 rw [h1]
def linN (s : ByteArray) : Nat := if beg s 10 0 (cntA s 10) < s.size then cntA s 10 + 1 else cntA s 10
theorem lin_pos {s : ByteArray} {k : Nat} (hk : k < linN s) : 0 < (restL s k).size := by
 rw [rest_off, ByteArray.size_extract]
 have hb : beg s 10 0 k < s.size := by
  unfold linN at hk
  split at hk
  ·rename_i h
   exact Nat.lt_of_le_of_lt (beg_mono s 10 0 (by omega)) h
  ·have := part_in s 10 hk
   have := nxt_ge s 10 (beg s 10 0 k)
   omega
 omega
theorem lin_end (s : ByteArray) : (restL s (linN s)).size = 0 := by
 rw [rest_off, ByteArray.size_extract]
 unfold linN
 split
 ·show min s.size s.size - (nxt s 10 (beg s 10 0 (cntA s 10)) + 1) = 0
  rw [(part_last s 10).1]; omega
 ·omega
theorem restL_le (s : ByteArray) (k : Nat) : (restL s k).size ≤ s.size := by
 rw [rest_off, ByteArray.size_extract]; omega
end Go.Proofs
set_option linter.unusedVariables false
namespace Go.Ev
open Go Go.RowKit Go.Proofs
def glW : List (Nat × List C) := [(2, Lib.pow10Tab.map fun n => .lit (.int .u64 n))]
theorem decW_len : ∀ (k u : Nat), (decW k u).length ≤ k
 | 0, _ => Nat.le_refl _
 | k + 1, u => by
  unfold decW
  split
  ·simp
  ·rw [List.length_append]
   have := decW_len k (u / 10)
   simp
   exact this
theorem itoaW_len (n : Int) : (itoaW n).length ≤ 21 := by
 unfold itoaW
 split
 ·exact Nat.le_trans (decW_len 20 _) (by decide)
 ·rename_i u
  rw [List.length_cons]
  have := decW_len 20 (u + 1)
  omega
def txtB (a : Int) : ByteArray := ⟨(itoaW a).toArray⟩
def blankB : ByteArray := ⟨#[32]⟩
def nlB : ByteArray := ⟨#[10]⟩
def linB (wd : ByteArray) (l : List Int) : ByteArray := ⟨(joinL blankB.data.toList (wd :: l.map txtB)).toArray⟩ ++ nlB
theorem txtB_size (a : Int) : (txtB a).data.toList.length ≤ 21 := by
 show (itoaW a).toArray.toList.length ≤ 21
 rw [List.toList_toArray]
 exact itoaW_len a
set_option maxRecDepth 100000
def inI (a : Int) : Bool := decide (-9223372036854775808 ≤ a) && decide (a ≤ 9223372036854775807)
def joB (wd : ByteArray) (l : List Int) (k : Nat) : Bool := Nat.ble (joinL blankB.data.toList (wd :: l.map txtB)).length 140737488355328 && Nat.ble k 140737488355328
def caB (wd : ByteArray) (l : List Int) : Bool := Nat.ble ((⟨(joinL blankB.data.toList (wd :: l.map txtB)).toArray⟩ : ByteArray).size + nlB.size) 9223372036854775807
def lnL (wd : ByteArray) (n : Nat) (f : Nat → Int) (l : List Int) : SkL := .leaf (.inl (true, .one (.lit (.string (linB wd l))), hpT [⟨some 0, n, [.int .i64 f]⟩] glW []))
def lnS1 (wd : ByteArray) (f : Nat → Int) : SkL := .tt (.nn (.nn (.need (inI (f 0)) (.ff (.nn (.need (joB wd [f 0] 2) (.need (caB wd [f 0]) (lnL wd 1 f [f 0]))))))))
def lnS2 (wd : ByteArray) (f : Nat → Int) : SkL := .tt (.nn (.nn (.need (inI (f 0)) (.tt (.nn (.nn (.need (inI (f 1)) (.ff (.nn (.need (joB wd [f 0, f 1] 3) (.need (caB wd [f 0, f 1]) (lnL wd 2 f [f 0, f 1]))))))))))))
theorem jo_len {wd : ByteArray} (hw : wd.size ≤ 1000) : ∀ (l : List Int), l.length ≤ 2 → (joinL blankB.data.toList (wd :: l.map txtB)).length ≤ 2000 := by
 have h0 : wd.data.toList.length ≤ 1000 := by rw [Array.length_toList]; exact hw
 have hb : blankB.data.toList.length = 1 := rfl
 intro l hl
 match l, hl with
 | [], _ => show wd.data.toList.length ≤ 2000; omega
 | [a], _ =>
  have h1 := txtB_size a
  show (wd.data.toList ++ (blankB.data.toList ++ (txtB a).data.toList)).length ≤ 2000
  rw [List.length_append, List.length_append, hb]; omega
 | [a, b], _ =>
  have h1 := txtB_size a
  have h2 := txtB_size b
  show (wd.data.toList ++ (blankB.data.toList ++ ((txtB a).data.toList ++ (blankB.data.toList ++ (txtB b).data.toList)))).length ≤ 2000
  rw [List.length_append, List.length_append, List.length_append, List.length_append, hb]; omega
theorem jo_ok {wd : ByteArray} (hw : wd.size ≤ 1000) {l : List Int} (hl : l.length ≤ 2) {k : Nat} (hk : k ≤ 3) : joB wd l k = true := by
 unfold joB
 have := jo_len hw l hl
 rw [Nat.ble_eq_true_of_le (by omega), Nat.ble_eq_true_of_le (by omega)]; rfl
theorem ca_ok {wd : ByteArray} (hw : wd.size ≤ 1000) {l : List Int} (hl : l.length ≤ 2) : caB wd l = true := by
 unfold caB
 have := jo_len hw l hl
 refine Nat.ble_eq_true_of_le ?_
 have e : (⟨(joinL blankB.data.toList (wd :: l.map txtB)).toArray⟩ : ByteArray).size = (joinL blankB.data.toList (wd :: l.map txtB)).length := by
  show (joinL blankB.data.toList (wd :: l.map txtB)).toArray.size = _
  exact List.size_toArray
 have e2 : nlB.size = 1 := rfl
 rw [e, e2]
 omega
theorem ln_call1 (wd : ByteArray) (f : Nat → Int) (h0 : inI (f 0) = true) (hw : wd.size ≤ 1000) :
  CallAt Tryz.prog 123 [.one (.lit (.string wd)), .one (.sl false 0 0 1 0 1)] (hpT [⟨some 0, 1, [.int .i64 f]⟩] glW []) (.one (.lit (.string (linB wd [f 0])))) (hpT [⟨some 0, 1, [.int .i64 f]⟩] glW []) :=
 call_sk tbBase_ok Tryz.func123 (by kernel_rfl) (false, true) (by kernel_rfl) (S := lnS1 wd f) (by kernel_rfl) (by kernel_rfl)
  (SkLeads.all (sk_tt (sk_nn (sk_nn (sk_need h0 (sk_ff (sk_nn (sk_need (jo_ok hw (by simp) (by decide)) (sk_need (ca_ok hw (by simp)) (sk_leaf rfl))))))))))
theorem ln_call2 (wd : ByteArray) (f : Nat → Int) (h0 : inI (f 0) = true) (h1 : inI (f 1) = true) (hw : wd.size ≤ 1000) :
  CallAt Tryz.prog 123 [.one (.lit (.string wd)), .one (.sl false 0 0 1 0 2)] (hpT [⟨some 0, 2, [.int .i64 f]⟩] glW []) (.one (.lit (.string (linB wd [f 0, f 1])))) (hpT [⟨some 0, 2, [.int .i64 f]⟩] glW []) :=
 call_sk tbBase_ok Tryz.func123 (by kernel_rfl) (false, true) (by kernel_rfl) (S := lnS2 wd f) (by kernel_rfl) (by kernel_rfl)
  (SkLeads.all (sk_tt (sk_nn (sk_nn (sk_need h0 (sk_tt (sk_nn (sk_nn (sk_need h1 (sk_ff (sk_nn (sk_need (jo_ok hw (by simp) (by decide)) (sk_need (ca_ok hw (by simp)) (sk_leaf rfl))))))))))))))
def lineF : FT
 | [], [], [wd], [⟨some _, 1, [.int .i64 f]⟩] => .need (inI (f 0) && Nat.ble wd.size 1000) (.leaf (.one (.lit (.string (linB wd [f 0]))), []))
 | [], [], [wd], [⟨some _, 2, [.int .i64 f]⟩] => .need (inI (f 0) && (inI (f 1) && Nat.ble wd.size 1000)) (.leaf (.one (.lit (.string (linB wd [f 0, f 1]))), []))
 | _, _, _, _ => .fail 510
def lineSp : Spec := fun args h => specT [(false, [.s]), (false, [.t [.int .i64 fun _ => 0]])] glW lineF args h
theorem line_ok : SpecOk Tryz.prog 123 lineSp := by
 refine specT_ok (by decide) (by decide) fun l m n ts v news hl hm hn hts hnil hr => ?_
 unfold lineF at hr
 split at hr
 ·rename_i wd id f
  obtain ⟨h0, hr⟩ := Tree.need_some hr
  rw [Bool.and_eq_true] at h0
  simp only [Tree.run, Option.some.injEq, Prod.mk.injEq] at hr
  obtain ⟨rfl, rfl⟩ := hr
  exact ln_call1 wd f h0.1 (Nat.le_of_ble_eq_true h0.2)
 ·rename_i wd id f
  obtain ⟨h0, hr⟩ := Tree.need_some hr
  simp only [Bool.and_eq_true] at h0
  simp only [Tree.run, Option.some.injEq, Prod.mk.injEq] at hr
  obtain ⟨rfl, rfl⟩ := hr
  exact ln_call2 wd f h0.1 h0.2.1 (Nat.le_of_ble_eq_true h0.2.2)
 ·cases hr
end Go.Ev
namespace Go.Ev
open Go Go.RowKit Go.Proofs
set_option maxRecDepth 100000
def tbPr : List (FuncId × Spec) := (123, lineSp) :: (127, txtSp) :: tbT1
theorem tbPr_ok : TabOk Tryz.prog (tabOf tbPr) := tab_cons (tab_cons tbT1_ok txt_ok) line_ok
def sTank : ByteArray := ⟨#[116, 97, 110, 107]⟩
def sLayer : ByteArray := ⟨#[108, 97, 121, 101, 114]⟩
def txP (room : Int) (z1 z2 : Nat → Int) : Nat → ByteArray
 | 0 => linB sTank [room]
 | k + 1 => txP room z1 z2 k ++ linB sLayer [z1 k, z2 k]
section
variable (n : Nat) (room : Int) (z1 z2 : Nat → Int)
def prH : Hp := hpT [⟨some 0, n, tkC z1 z2⟩] glW []
def prB : St := baseB 30 [tankA room n] (prH n z1 z2)
def prN (env : List (Nat × A)) (news : List Blk) : St := stN 30 (envL env) (bsS [⟨some 0, n, tkC z1 z2⟩] glW) (globsG 1 glW) news
def prNews (s : ByteArray) : List Blk := [tbox 81 room (slC false 0 2 n), ⟨false, 4, .flat [.lit (.bool false)]⟩, ⟨false, 9, .flat [.lit (.string s)]⟩]
def prIt : A := .one (.fn 143 [(2, 0, 1, 0), (3, 0, 1, 0)])
def prHd (k : Nat) : St := prN n z1 z2 [(18, prIt), (5, .one (.ptr 4 0 1 0))] (prNews n room (txP room z1 z2 k))
noncomputable def prO : Tree ((X × St) ⊕ (List Bool × St)) := evOr (recT Tryz.prog (tabOf tbPr)) (bodyOf Tryz.f68) [18, 5] [2, 3] (prB n room z1 z2)
def prR (e : Int) : St := prN n z1 z2 [(2, .one (.lit (.string ⟨#[]⟩))), (3, int e)] []
noncomputable def prPath : List Bool := pathR (bodyOf Tryz.f68) 0
noncomputable def prOS : Sk ((X × St) ⊕ (List Bool × St)) := .need (okN n) (.need (Nat.ble n 17) (.node (tankE n room z1 z2 != 0) (.leaf (.inl (.ret, prR n z1 z2 (tankE n room z1 z2)))) (.nn (.need (inI room && Nat.ble sTank.size 1000) (.leaf (.inr (prPath, prHd n room z1 z2 0)))))))
theorem prO_into : prO n room z1 z2 = into (prO n room z1 z2) (prOS n room z1 z2) := by kernel_rfl
theorem prO_fits : fits (prO n room z1 z2) (prOS n room z1 z2) = true := by kernel_rfl
noncomputable def prC : Code := nthRng (bodyOf Tryz.f68) prPath
def rngA : Code → Code
 | .rangeFunc _ _ a _ => a
 | _ => .skip
def rngB : Code → Code
 | .rangeFunc _ _ _ b => b
 | _ => .skip
theorem prC_eq : prC = .rangeFunc (.tmp 18) #[19, 20] (rngA prC) (rngB prC) := by kernel_rfl
noncomputable def prT (k : Nat) : Tree (X × St) := linT (recT Tryz.prog (tabOf tbPr)) (rngA prC) (rngB prC) [18, 5] (prB n room z1 z2) (midY (prHd n room z1 z2 k) 19 20 k z1 z2)
noncomputable def prP2 : Tree ((X × St) ⊕ (List Bool × St)) := evOr2 (recT Tryz.prog (tabOf tbPr)) true (bodyOf Tryz.f68) prPath [] [2, 3] (prB n room z1 z2) (.normal, prHd n room z1 z2 n)
noncomputable def prTS (k : Nat) : Sk (X × St) := .nn (.need (inI (z1 k) && (inI (z2 k) && Nat.ble sLayer.size 1000)) (.need (Nat.ble ((txP room z1 z2 k).size + (linB sLayer [z1 k, z2 k]).size) 9223372036854775807) (.leaf (.normal, prHd n room z1 z2 (k + 1)))))
theorem prT_into (k : Nat) : prT n room z1 z2 k = into (prT n room z1 z2 k) (prTS n room z1 z2 k) := by kernel_rfl
theorem prT_fits (k : Nat) : fits (prT n room z1 z2 k) (prTS n room z1 z2 k) = true := by kernel_rfl
def prZ (s : ByteArray) (e : Int) : St := prN n z1 z2 [(2, .one (.lit (.string s))), (3, int e)] []
theorem prP2_is : prP2 n room z1 z2 = .leaf (.inl (.ret, prZ n z1 z2 (txP room z1 z2 n) 0)) := by kernel_rfl
def prV (s : ByteArray) (e : Int) : A := .tup [(false, [.lit (.string s)]), (false, [ci e])]
theorem pr_left (s : ByteArray) (e : Int) : Left2 Tryz.prog Tryz.f68 (prH n z1 z2) (prV s e) (prH n z1 z2) (.ret, prZ n z1 z2 s e) := left_of (b := true) (by kernel_rfl)
end
theorem linB_size {wd : ByteArray} (hw : wd.size ≤ 1000) {l : List Int} (hl : l.length ≤ 2) : (linB wd l).size ≤ 2001 := by
 have := jo_len hw l hl
 unfold linB
 rw [ByteArray.size_append]
 have e : (⟨(joinL blankB.data.toList (wd :: l.map txtB)).toArray⟩ : ByteArray).size = (joinL blankB.data.toList (wd :: l.map txtB)).length := by
  show (joinL blankB.data.toList (wd :: l.map txtB)).toArray.size = _
  exact List.size_toArray
 have e2 : nlB.size = 1 := rfl
 rw [e, e2]
 omega
theorem sTank_le : sTank.size ≤ 1000 := by decide
theorem sLayer_le : sLayer.size ≤ 1000 := by decide
theorem txP_size (room : Int) (z1 z2 : Nat → Int) : ∀ k, (txP room z1 z2 k).size ≤ 2001 * (k + 1)
 | 0 => linB_size sTank_le (by simp)
 | k + 1 => by
  have h1 := txP_size room z1 z2 k
  have h2 := linB_size sLayer_le (l := [z1 k, z2 k]) (by simp)
  show (txP room z1 z2 k ++ linB sLayer [z1 k, z2 k]).size ≤ _
  rw [ByteArray.size_append]
  omega
theorem inI_ok {a : Int} (h0 : 0 ≤ a) (h1 : a ≤ 1000000000) : inI a = true := by
 unfold inI
 simp only [Bool.and_eq_true, decide_eq_true_eq]
 omega
theorem tank_room {n : Nat} {room : Int} {z1 z2 : Nat → Int} (h : tankE n room z1 z2 = 0) : (1 ≤ room ∧ room ≤ 1000000) ∧ n ≤ 16 := by
 unfold tankE at h
 split at h
 ·rename_i h1
  rw [h] at h1
  cases h1
 ·rename_i h1
  have h2 : headE n room = 0 := by simpa using h1
  unfold headE at h2
  obtain ⟨h3, h4⟩ := first0 h2
  obtain ⟨h5, _⟩ := first0 h4
  unfold wW errIf at h3
  unfold errIf at h5
  constructor
  ·split at h3
   ·cases h3
   ·rename_i hb
    simp only [Bool.or_eq_false_iff, decide_eq_false_iff_not] at hb
    omega
  ·split at h5
   ·cases h5
   ·rename_i hb
    simp only [decide_eq_false_iff_not] at hb
    omega
section
variable (n : Nat) (room : Int) (z1 z2 : Nat → Int)
theorem pr_loop (h : tankE n room z1 z2 = 0) : ComesF Tryz.prog prC (prB n room z1 z2) (prHd n room z1 z2 0) fun q => q = (.normal, prHd n room z1 z2 n) := by
 obtain ⟨_, hn⟩ := tank_room h
 rw [prC_eq]
 refine comesF_layers (recT_ok tbPr_ok) rfl rfl 18 19 20 _ _ 2 3 81 4 (ci room) (slC false 0 2 n) n z1 z2 (by omega) [18, 5] (by decide) (by decide) ⟨by show 19 < 30; decide, by show 20 < 30; decide⟩ (by decide) (prHd n room z1 z2) _ (fun k _ => by kernel_rfl) (fun k _ => ⟨by kernel_rfl, by kernel_rfl, .inr ⟨false, 0, true, 0, n, rfl, Nat.le_refl _, by kernel_rfl⟩⟩) (fun k hk => ?_) rfl
 refine all_into (prT_into n room z1 z2 k) (prT_fits n room z1 z2 k) (SkLeads.all ?_)
 obtain ⟨a1, a2⟩ := tank_rows h k hk
 have h1 := txP_size room z1 z2 k
 have h2 := linB_size sLayer_le (l := [z1 k, z2 k]) (by simp)
 refine sk_nn (sk_need ?_ (sk_need (by rw [Nat.ble_eq]; omega) (sk_leaf (St.Le.refl _))))
 rw [inI_ok (by omega) (by omega), inI_ok (by omega) (by omega)]; rfl
def prW (n : Nat) (room : Int) (z1 z2 : Nat → Int) : A := match tankE n room z1 z2 != 0 with
 | true => prV ⟨#[]⟩ (tankE n room z1 z2)
 | false => prV (txP room z1 z2 n) 0
theorem pr_call (hn : n ≤ 17) : CallAt Tryz.prog 68 [tankA room n] (prH n z1 z2) (prW n room z1 z2) (prH n z1 z2) := by
 refine call_baseR (recT_ok tbPr_ok) (c := bodyOf Tryz.f68) (fn := Tryz.f68) Tryz.func68 (by kernel_rfl) (by kernel_rfl) (false, false) 1 [18, 5] [2, 3] (sB := prB n room z1 z2) (by kernel_rfl) (t := prO n room z1 z2) (by delta prO; rfl) (all_into (prO_into n room z1 z2) (prO_fits n room z1 z2) (SkLeads.all ?_))
 refine sk_need (okN_ok n) (sk_need (by rw [Nat.ble_eq]; exact hn) (sk_either (fun h => sk_leaf (cutR_dn ?_)) fun h => ?_))
 ·unfold prW; rw [h]; exact pr_left n z1 z2 _ _
 ·have h0 : tankE n room z1 z2 = 0 := by simpa using h
  obtain ⟨hr, _⟩ := tank_room h0
  refine sk_nn (sk_need (by rw [inI_ok (by omega) (by omega)]; rfl) (sk_leaf ⟨_, true, [], [2, 3], pr_loop n room z1 z2 h0, fun q hq => Leads.all ?_⟩))
  subst hq
  unfold prW
  rw [h]
  exact leads_in (show _ = prP2 n room z1 z2 by delta prP2; rfl) (S := .leaf (.inl (.ret, prZ n z1 z2 (txP room z1 z2 n) 0))) (by rw [prP2_is]; rfl) (by rw [prP2_is]; rfl) (sk_leaf (cutR_dn (pr_left n z1 z2 _ _)))
end
def prNS (room : Int) (z1 z2 : Nat → Int) : SkL := .node (tankE 0 room z1 z2 != 0) (.leaf (.inl (true, prV ⟨#[]⟩ (tankE 0 room z1 z2), hpT [] glW []))) (.nn (.need (inI room && Nat.ble sTank.size 1000) (.ff (.leaf (.inl (true, prV (linB sTank [room]) 0, hpT [] glW []))))))
theorem pr_nil (room : Int) (z1 z2 : Nat → Int) : CallAt Tryz.prog 68 [.agg [ci room, nilC]] (hpT [] glW []) (prW 0 room z1 z2) (hpT [] glW []) := by
 refine call_sk tbPr_ok Tryz.func68 (by kernel_rfl) (false, false) (by kernel_rfl) (S := prNS room z1 z2) (by kernel_rfl) (by kernel_rfl) (SkLeads.all (sk_either (fun h => sk_leaf ?_) fun h => ?_))
 ·show (_, _) = (_, _)
  unfold prW; rw [h]
 ·have h0 : tankE 0 room z1 z2 = 0 := by simpa using h
  obtain ⟨hr, _⟩ := tank_room h0
  refine sk_nn (sk_need (by rw [inI_ok (by omega) (by omega)]; rfl) (sk_ff (sk_leaf ?_)))
  show (_, _) = (_, _)
  unfold prW; rw [h]
  rfl
def prF : FT
 | [room], [], [], [⟨_, n, [.int .i64 z1, .int .i64 z2]⟩] => .need (Nat.ble n 17) (.node (tankE n room z1 z2 != 0) (.leaf (prV ⟨#[]⟩ (tankE n room z1 z2), [])) (.leaf (prV (txP room z1 z2 n) 0, [])))
 | _, _, _, _ => .fail 520
def prSp : Spec := fun args h => specT [tkS] glW prF args h
theorem pr_ok : SpecOk Tryz.prog 68 prSp := by
 refine specT_ok (by decide) (by decide) fun l m n ts v news hl hm hn ht hnil hF => ?_
 unfold prF at hF
 split at hF
 ·rename_i room id n z1 z2
  obtain ⟨hok, hF⟩ := Tree.need_some hF
  have hok := Nat.le_of_ble_eq_true hok
  have hv : v = prW n room z1 z2 ∧ news = [] := by
   unfold prW
   cases hb : tankE n room z1 z2 != 0 with
   | true =>
    rw [hb] at hF
    simp only [Tree.run, Option.some.injEq, Prod.mk.injEq] at hF
    obtain ⟨rfl, rfl⟩ := hF
    exact ⟨rfl, rfl⟩
   | false =>
    rw [hb] at hF
    simp only [Tree.run, Option.some.injEq, Prod.mk.injEq] at hF
    obtain ⟨rfl, rfl⟩ := hF
    exact ⟨rfl, rfl⟩
  obtain ⟨rfl, rfl⟩ := hv
  cases id with
  | none =>
   have h0 : n = 0 := hnil _ (List.mem_singleton.2 rfl) rfl
   subst h0
   exact pr_nil room z1 z2
  | some id => exact pr_call n room z1 z2 hok
 ·cases hF
end Go.Ev
namespace Go.Ev
open Go Go.RowKit Go.Proofs
set_option maxRecDepth 100000
def sTankB : ByteArray := ⟨#[116, 97, 110, 107, 32]⟩
def sLayerB : ByteArray := ⟨#[108, 97, 121, 101, 114, 32]⟩
def txA (a : ByteArray) (x y : Int) : ByteArray := ((((a ++ sLayerB) ++ txtB x) ++ blankB) ++ txtB y) ++ nlB
def txQ (room : Int) (z1 z2 : Nat → Int) : Nat → ByteArray
 | 0 => (sTankB ++ txtB room) ++ nlB
 | k + 1 => txA (txQ room z1 z2 k) (z1 k) (z2 k)
section
variable (n : Nat) (room : Int) (z1 z2 : Nat → Int)
end
theorem txtB_le (a : Int) : (txtB a).size ≤ 21 := by
 have := txtB_size a
 rw [Array.length_toList] at this
 exact this
theorem txA_size (s : ByteArray) (x y : Int) : (txA s x y).size ≤ s.size + 60 := by
 unfold txA
 have h1 := txtB_le x
 have h2 := txtB_le y
 have e1 : sLayerB.size = 6 := rfl
 have e2 : blankB.size = 1 := rfl
 have e3 : nlB.size = 1 := rfl
 simp only [ByteArray.size_append]
 omega
theorem txQ_size (room : Int) (z1 z2 : Nat → Int) : ∀ k, (txQ room z1 z2 k).size ≤ 60 * (k + 1)
 | 0 => by
  have h1 := txtB_le room
  have e1 : sTankB.size = 5 := rfl
  have e3 : nlB.size = 1 := rfl
  show ((sTankB ++ txtB room) ++ nlB).size ≤ _
  simp only [ByteArray.size_append]
  omega
 | k + 1 => by
  have h1 := txQ_size room z1 z2 k
  have h2 := txA_size (txQ room z1 z2 k) (z1 k) (z2 k)
  show (txA (txQ room z1 z2 k) (z1 k) (z2 k)).size ≤ _
  omega
section
variable (n : Nat) (room : Int) (z1 z2 : Nat → Int)
end
theorem ba_ext {a b : ByteArray} (h : a.data.toList = b.data.toList) : a = b := ByteArray.ext (Array.toList_inj.1 h)
theorem app_list (a b : ByteArray) : (a ++ b).data.toList = a.data.toList ++ b.data.toList := by
 rw [ByteArray.data_append, Array.toList_append]
theorem tx_same (room : Int) (z1 z2 : Nat → Int) : ∀ k, txP room z1 z2 k = txQ room z1 z2 k
 | 0 => by
  show linB sTank [room] = (sTankB ++ txtB room) ++ nlB
  refine ba_ext ?_
  unfold linB
  simp only [app_list]
  show (sTank.data.toList ++ (blankB.data.toList ++ (txtB room).data.toList)) ++ nlB.data.toList = (sTankB.data.toList ++ (txtB room).data.toList) ++ nlB.data.toList
  rw [← List.append_assoc sTank.data.toList]
  rfl
 | k + 1 => by
  show txP room z1 z2 k ++ linB sLayer [z1 k, z2 k] = txA (txQ room z1 z2 k) (z1 k) (z2 k)
  rw [tx_same room z1 z2 k]
  refine ba_ext ?_
  unfold linB txA
  simp only [app_list]
  show _ ++ ((sLayer.data.toList ++ (blankB.data.toList ++ ((txtB (z1 k)).data.toList ++ (blankB.data.toList ++ (txtB (z2 k)).data.toList)))) ++ nlB.data.toList) = _
  have e : sLayerB.data.toList = sLayer.data.toList ++ blankB.data.toList := rfl
  rw [e]
  simp only [List.append_assoc]
end Go.Ev
namespace Go.Ev
open Go Go.RowKit Go.Proofs
set_option maxRecDepth 100000
section
variable (s : ByteArray) (c : Int)
def sqA : List A := [.one (.lit (.string s)), .one (.lit (.int .u8 c))]
def sqB : St := baseB 34 (sqA s c) (hpT [] [] [])
def sqN (env : List (Nat × A)) (news : List Blk) : St := stN 34 (envL env) (bsS [] []) [] news
def sqO (m : Nat) : A := match m with | 0 => .one nilC | m + 1 => .one (.sl true 0 0 1 0 (m + 1))
def sqW (m : Nat) (F : Nat → ByteArray) : List Blk := match m with | 0 => [] | m + 1 => [⟨false, 9, .rows (m + 1) [.str F]⟩]
def sqHS (a : A) (W : List Blk) (b i : Int) : St := sqN [(0, .one (.lit (.string s))), (1, .one (.lit (.int .u8 c))), (5, a), (6, int b), (7, int i)] W
def sqH (m : Nat) (F : Nat → ByteArray) (b i : Nat) : St := sqHS s c (sqO m) (sqW m F) (b : Int) (i : Int)
def sqX (m : Nat) (F : Nat → ByteArray) (b : Nat) : St := sqN [(0, .one (.lit (.string s))), (5, sqO m), (6, int (b : Int))] (sqW m F)
noncomputable def sqP : Tree ((X × St) ⊕ (List Bool × St)) := evO (recT Tryz.prog noTab) (bodyOf Tryz.f74) [0, 1, 5, 6, 7] [4] (sqB s c)
noncomputable def sqT (m : Nat) (F : Nat → ByteArray) (b i : Nat) : Tree (X × St) := (recT Tryz.prog noTab (loopF Tryz.f74) (sqH s c m F b i)).bind (canonT [0, 1, 5, 6, 7] [0, 5, 6] (sqB s c))
noncomputable def sqE (m : Nat) (F : Nat → ByteArray) (b : Nat) : Tree ((X × St) ⊕ (List Bool × St)) := evO2 (recT Tryz.prog noTab) true (bodyOf Tryz.f74) (pathF Tryz.f74) [] [4] (sqB s c) (.exit 0, sqX s m F b)
def inS (i : Nat) : Bool := decide (0 ≤ (i : Int)) && decide ((i : Int) < (s.size : Int))
def eqY (i : Nat) : Bool := (((s.get! (Int.toNat (i : Int))).toNat : Int) == c)
def cutS (b i : Int) : Bool := decide (0 ≤ b) && decide (b ≤ i) && decide (i ≤ (s.size : Int))
noncomputable def appS (m : Nat) : Bool := Nat.ble (m + 1) (m + 1) && Nat.blt ((m + 1 + 1) * ((Tryz.prog.info? 9).map (·.bytes)).getD 0) 140737488355328 && Nat.ble (m + 1 + 1) 9223372036854775807
noncomputable def sqHit (b i : Int) (F : Nat → ByteArray) : Nat → Sk (X × St)
 | 0 => .leaf (.normal, sqHS s c (.one (.sl true 0 0 1 0 1)) [⟨false, 9, .flat [.lit (.string (s.extract b.toNat i.toNat))]⟩] (IntKind.i64.wrap (i + 1)) (IntKind.i64.wrap (i + 1)))
 | m + 1 => .need (appS m) (.leaf (.normal, sqHS s c (.one (.sl true 0 0 1 0 (m + 1 + 1))) [⟨false, 9, .rows (m + 1 + 1) [.str (putF F (m + 1) (s.extract b.toNat i.toNat))]⟩] (IntKind.i64.wrap (i + 1)) (IntKind.i64.wrap (i + 1))))
noncomputable def sqS (m : Nat) (F : Nat → ByteArray) (b i : Nat) : Sk (X × St) := .node (decide ((i : Int) < (s.size : Int))) (.need (inS s i) (.node (eqY s c i)
  (.need (cutS s (b : Int) (i : Int)) (sqHit s c (b : Int) (i : Int) F m))
  (.leaf (.normal, sqHS s c (sqO m) (sqW m F) (b : Int) (IntKind.i64.wrap ((i : Int) + 1)))))) (.leaf (.exit 0, sqX s m F b))
theorem sqT_into (m : Nat) (F : Nat → ByteArray) (b i : Nat) : sqT s c m F b i = into (sqT s c m F b i) (sqS s c m F b i) := by
 cases m with
 | zero => kernel_rfl
 | succ m => kernel_rfl
theorem sqT_fits (m : Nat) (F : Nat → ByteArray) (b i : Nat) : fits (sqT s c m F b i) (sqS s c m F b i) = true := by
 cases m with
 | zero => kernel_rfl
 | succ m => kernel_rfl
theorem sqP_is : sqP s c = .leaf (.inr (pathF Tryz.f74, sqH s c 0 (fun _ => sNil) 0 0)) := by kernel_rfl
def sqR (k : Nat) (W : List Blk) : St := sqN [(4, .one (.sl true 0 0 1 0 k))] W
noncomputable def sqES (m : Nat) (F : Nat → ByteArray) (b : Nat) : Sk ((X × St) ⊕ (List Bool × St)) := .need (decide (0 ≤ (b : Int)) && decide ((b : Int) ≤ (s.size : Int)) && decide ((s.size : Int) ≤ (s.size : Int))) (match m with
  | 0 => .leaf (.inl (.ret, sqR 1 [⟨false, 9, .flat [.lit (.string (s.extract (Int.toNat (b : Int)) (Int.toNat (s.size : Int))))]⟩]))
  | m + 1 => .need (appS m) (.leaf (.inl (.ret, sqR (m + 1 + 1) [⟨false, 9, .rows (m + 1 + 1) [.str (putF F (m + 1) (s.extract (Int.toNat (b : Int)) (Int.toNat (s.size : Int))))]⟩]))))
theorem sqE_into (m : Nat) (F : Nat → ByteArray) (b : Nat) : sqE s c m F b = into (sqE s c m F b) (sqES s m F b) := by
 cases m with
 | zero => kernel_rfl
 | succ m => kernel_rfl
theorem sqE_fits (m : Nat) (F : Nat → ByteArray) (b : Nat) : fits (sqE s c m F b) (sqES s m F b) = true := by
 cases m with
 | zero => kernel_rfl
 | succ m => kernel_rfl
end
theorem call_le {P : Program} {f : FuncId} {args : List A} {h : Hp} {v : A} {h' h'' : Hp} (hc : CallAt P f args h v h') (hle : ({ size := 0, env := .nil, hp := h' } : St).Le { size := 0, env := .nil, hp := h'' }) : CallAt P f args h v h'' := by
 intro E w vals rh ha
 refine (hc E w vals rh ha).mono ?_
 rintro e w' ⟨x, E', he, hx, s⟩
 have r : R [] E' { size := 0, env := .nil, hp := h' } { tmps := #[], defers := [] } w' := ⟨s.rh, rfl, rfl, fun t y hy => by rw [show ({ size := 0, env := .nil, hp := h' } : St).env = .nil from rfl, Tr.get_nil] at hy; cases hy⟩
 exact ⟨x, E', he, hx, hle.stp r s⟩
theorem str_rows {e : TypeId} {F : Nat → ByteArray} {x : ByteArray} (h : x = F 0) : ∀ (E : Env) (w : World) (p : Nat × Nat × Nat), blkIs E w p ⟨false, e, .flat [.lit (.string x)]⟩ → blkIs E w p ⟨false, e, .rows 1 [.str F]⟩ := by
 subst h
 exact blk_body rfl (fun cs e => by cases e) fun E arr hh => rows_one rfl (fun j c col h1 h2 => by match j, h1, h2 with | 0, h1, h2 => injection h1 with h1; injection h2 with h2; subst h1; subst h2; rfl) hh
theorem appS_ok {m : Nat} (h : m ≤ 1000000000) : appS m = true := by
 have d0 : ((Tryz.prog.info? 9).map (·.bytes)).getD 0 = 16 := by kernel_rfl
 unfold appS
 rw [ble_self, d0]
 have h1 : Nat.blt ((m + 1 + 1) * 16) 140737488355328 = true := by rw [Nat.blt_eq]; omega
 have h2 : Nat.ble (m + 1 + 1) 9223372036854775807 = true := by rw [Nat.ble_eq]; omega
 rw [h1, h2]; rfl
theorem mAt_mono (s : ByteArray) (c : UInt8) : ∀ {i j : Nat}, i ≤ j → mAt s c i ≤ mAt s c j := by
 intro i j h
 induction j with
 | zero => rw [Nat.le_zero.1 h]; exact Nat.le_refl _
 | succ j ih =>
  rcases Nat.lt_or_eq_of_le h with h1 | h1
  ·have := ih (by omega)
   show _ ≤ (if s.get! j = c then mAt s c j + 1 else mAt s c j)
   split <;> omega
  ·rw [h1]; exact Nat.le_refl _
theorem mAt_le (s : ByteArray) (c : UInt8) : ∀ i, mAt s c i ≤ i
 | 0 => Nat.le_refl _
 | i + 1 => by
  have := mAt_le s c i
  show (if s.get! i = c then mAt s c i + 1 else mAt s c i) ≤ _
  split <;> omega
section
variable (s : ByteArray) (c : UInt8)
def sqHd (i : Nat) : St := sqH s (c.toNat : Int) (mAt s c i) (wrdF s c) (beg s c 0 (mAt s c i)) i
theorem sq_byte (i : Nat) : eqY s (c.toNat : Int) i = true ↔ s.get! i = c := by
 unfold eqY
 rw [Int.toNat_natCast, beq_iff_eq]
 constructor
 ·intro h
  exact UInt8.toNat_inj.1 (by omega)
 ·intro h
  rw [h]
theorem sq_hit (s : ByteArray) (c : Int) (hd : Nat → St) (fin : X × St) (i m b : Nat) (F : Nat → ByteArray) (hF : F m = s.extract b i) (hm : m ≤ 1000000) (hi : i ≤ 1000000) (e : hd (i + 1) = sqH s c (m + 1) F (i + 1) (i + 1)) :
  SkLeads (Rnd hd (fun _ => fin) i) (sqHit s c (b : Int) (i : Int) F m) := by
 cases m with
 | zero =>
  refine sk_leaf (rnd_next ?_ rfl)
  rw [e, Int.toNat_natCast, Int.toNat_natCast, ← hF, wrap_succ (by omega)]
  exact le_news (show 0 + 1 ≤ lim by decide) ⟨⟨rfl, str_rows rfl⟩, trivial⟩
 | succ m =>
  refine sk_need (appS_ok (by omega)) (sk_leaf (rnd_next ?_ rfl))
  rw [e, Int.toNat_natCast, Int.toNat_natCast, ← hF, wrap_succ (by omega), putF_self]
  exact St.Le.refl _
theorem sq_loop (hs : s.size ≤ 1000000) : ComesF Tryz.prog (.loop (loopF Tryz.f74)) (sqB s (c.toNat : Int)) (sqHd s c 0) fun q => q = (.exit 0, sqX s (cntA s c) (wrdF s c) (beg s c 0 (cntA s c))) := by
 refine loop_count (recT_ok noTab_ok) rfl [0, 1, 5, 6, 7] [0, 5, 6] (sqHd s c) (fun _ => (.exit 0, sqX s (cntA s c) (wrdF s c) (beg s c 0 (cntA s c)))) s.size (fun i => sqT s (c.toNat : Int) (mAt s c i) (wrdF s c) (beg s c 0 (mAt s c i)) i) (fun i => sqS s (c.toNat : Int) (mAt s c i) (wrdF s c) (beg s c 0 (mAt s c i)) i) (fun _ => rfl) (fun i => sqT_into _ _ _ _ _ _) (fun i => sqT_fits _ _ _ _ _ _) (fun i hi => ?_) (sk_no (by simp) (sk_leaf (by rw [mAt_end]; rfl)))
 obtain ⟨b1, b2⟩ := mAt_in s c i (by omega)
 have hle : mAt s c i ≤ cntA s c := by rw [← mAt_end]; exact mAt_mono s c (by omega)
 have hml := mAt_le s c i
 have hin : inS s i = true := by
  unfold inS
  simp only [Bool.and_eq_true, decide_eq_true_eq]
  omega
 unfold sqS
 refine sk_yes (by simp only [decide_eq_true_eq]; omega) (sk_need hin (sk_either (fun h => ?_) fun h => sk_leaf (rnd_next ?_ rfl)))
 ·have hb := (sq_byte s c i).1 h
  obtain ⟨c1, c2⟩ := mAt_hit hi hb
  have hm1 : mAt s c (i + 1) = mAt s c i + 1 := if_pos hb
  have hF : wrdF s c (mAt s c i) = s.extract (beg s c 0 (mAt s c i)) i := by
   rw [wrdF_is s c hle]
   unfold Proofs.part
   rw [c1]
  have hcut : cutS s (beg s c 0 (mAt s c i) : Int) (i : Int) = true := by
   unfold cutS
   simp only [Bool.and_eq_true, decide_eq_true_eq]
   omega
  refine sk_need hcut ?_
  have hd : sqHd s c (i + 1) = sqH s (c.toNat : Int) (mAt s c i + 1) (wrdF s c) (i + 1) (i + 1) := by unfold sqHd; rw [hm1, c2]
  exact sq_hit s (c.toNat : Int) (sqHd s c) _ i (mAt s c i) (beg s c 0 (mAt s c i)) (wrdF s c) hF (by omega) (by omega) hd
 ·have hb : ¬ s.get! i = c := fun e => by rw [(sq_byte s c i).2 e] at h; cases h
  have hm1 : mAt s c (i + 1) = mAt s c i := if_neg hb
  unfold sqHd
  rw [hm1, wrap_succ (by omega)]
  exact St.Le.refl _
def sqWR (k : Nat) (F : Nat → ByteArray) : List Blk := [⟨false, 9, .rows k [.str F]⟩]
theorem sq_left (k : Nat) (b : Blk) : Left2 Tryz.prog Tryz.f74 (hpT [] [] []) (.one (.sl true 0 0 1 0 k)) (hpT [] [] [b]) (.ret, sqR k [b]) := left_of (b := false) (by kernel_rfl)
theorem sq_call (hs : s.size ≤ 1000000) : CallAt Tryz.prog 74 (sqA s (c.toNat : Int)) (hpT [] [] []) (.one (.sl true 0 0 1 0 (wrdN s c))) (hpT [] [] (sqWR (wrdN s c) (wrdF s c))) := by
 obtain ⟨p1, p2⟩ := part_last s c
 have hcl : cntA s c ≤ s.size := by rw [← mAt_end]; exact mAt_le s c _
 have hF : wrdF s c (cntA s c) = s.extract (beg s c 0 (cntA s c)) s.size := by
  rw [wrdF_is s c (Nat.le_refl _)]
  unfold Proofs.part
  rw [p1]
 have hcut : (decide (0 ≤ (beg s c 0 (cntA s c) : Int)) && decide ((beg s c 0 (cntA s c) : Int) ≤ (s.size : Int)) && decide ((s.size : Int) ≤ (s.size : Int))) = true := by
  simp only [Bool.and_eq_true, decide_eq_true_eq]
  omega
 have key : ∀ W, (∀ {ψ : (X × St) ⊕ (List Bool × St) → Prop}, (∀ q, q = .inl (X.ret, sqR (cntA s c + 1) W) → ψ q) → SkLeads ψ (sqES s (cntA s c) (wrdF s c) (beg s c 0 (cntA s c)))) → (∃ b, W = [b]) →
   CallAt Tryz.prog 74 (sqA s (c.toNat : Int)) (hpT [] [] []) (.one (.sl true 0 0 1 0 (cntA s c + 1))) (hpT [] [] W) := by
  rintro W hW ⟨b, rfl⟩
  refine call_base (recT_ok noTab_ok) (c := bodyOf Tryz.f74) (fn := Tryz.f74) Tryz.func74 (by kernel_rfl) (by kernel_rfl) (false, false) 1 [0, 1, 5, 6, 7] [4] (sB := sqB s (c.toNat : Int)) (by kernel_rfl) (t := sqP s (c.toNat : Int)) (by delta sqP; rfl) ?_
  rw [sqP_is]
  refine cutF_stop _ true [] [4] (comesF_le (t := sqHd s c 0) (St.Le.refl _) (sq_loop s c hs)) fun q hq => Leads.all ?_
  subst hq
  exact leads_in (show _ = sqE s (c.toNat : Int) (cntA s c) (wrdF s c) (beg s c 0 (cntA s c)) by delta sqE; rfl) (sqE_into s (c.toNat : Int) _ _ _) (sqE_fits s (c.toNat : Int) _ _ _) (hW fun q hq => by subst hq; exact cutF_dn (sq_left _ _))
 rw [wrdN_is]
 cases hm : cntA s c with
 | zero =>
  have hk := key [⟨false, 9, .flat [.lit (.string (s.extract (beg s c 0 (cntA s c)) s.size))]⟩] (fun {ψ} h => sk_need hcut (by rw [hm]; exact sk_leaf (h _ (by rw [hm]; simp only [Int.toNat_natCast]))) ) ⟨_, rfl⟩
  rw [hm] at hk
  refine call_le hk ?_
  rw [hm] at hF
  exact le_news (size := 0) (env := .nil) (bs := []) (globs := []) (show 0 + 1 ≤ lim by decide) ⟨⟨rfl, str_rows hF.symm⟩, trivial⟩
 | succ m =>
  have hk := key (sqWR (m + 1 + 1) (wrdF s c)) (fun {ψ} h => sk_need hcut (by
   rw [hm] at hF ⊢
   refine sk_need (appS_ok (by omega)) (sk_leaf (h _ ?_))
   simp only [Int.toNat_natCast]
   rw [← hF, hm, putF_self]
   rfl)) ⟨_, rfl⟩
  rw [hm] at hk
  exact hk
end
def spqSp (nS : ByteArray → UInt8 → Nat) (fS : ByteArray → UInt8 → Nat → ByteArray) : Spec := fun args h => match args with
 | [.one (.lit (.string s)), .one (.lit (.int .u8 c))] => .need (decide (0 ≤ c) && decide (c < 256) && Nat.ble s.size 1000000) ((h.alloc ⟨false, 9, .rows (nS s (UInt8.ofNat c.toNat)) [.str (fS s (UInt8.ofNat c.toNat))]⟩).bind fun p => .leaf (.one (.sl true p.1 0 1 0 (nS s (UInt8.ofNat c.toNat))), p.2))
 | _ => .fail 530
theorem spq_ok : SpecOk Tryz.prog 74 (spqSp wrdN wrdF) := by
 intro args h v h' hr E w vals rh hargs
 unfold spqSp at hr
 split at hr
 ·rename_i s c
  obtain ⟨hn, hr⟩ := Tree.need_some hr
  simp only [Bool.and_eq_true, decide_eq_true_eq] at hn
  obtain ⟨⟨h0, h1⟩, h2⟩ := hn
  obtain ⟨p, hp, hr⟩ := Tree.bind_some hr
  simp only [Tree.run, Option.some.injEq, Prod.mk.injEq] at hr
  obtain ⟨rfl, rfl⟩ := hr
  have hc : ((UInt8.ofNat c.toNat).toNat : Int) = c := by
   rw [UInt8.toNat_ofNat_of_lt' (by show c.toNat < 256; omega)]
   omega
  have hcall := sq_call s (UInt8.ofNat c.toNat) (Nat.le_of_ble_eq_true h2)
  rw [hc] at hcall
  unfold Hp.alloc at hp
  split at hp
  ·rename_i hlt
   simp only [Tree.run, Option.some.injEq] at hp
   subst hp
   have hlt : h.next < lim := by simpa [Nat.blt_eq] using hlt
   exact lift_new (ids := []) (bs := []) (globs := []) (news := sqWR (wrdN s (UInt8.ofNat c.toNat)) (wrdF s (UInt8.ofNat c.toNat))) hcall (fun b hb => by rw [List.mem_singleton.1 hb]; rfl) rh rfl (show 0 + 1 ≤ lim by decide) (by show h.next + 1 ≤ lim; omega) (fun i id b1 hi _ => by simp [nth] at hi) (fun g i hg => by cases hg) (by
    match vals, hargs with
    | [y, z], ⟨⟨hy, _⟩, ⟨hz, _⟩, _⟩ => exact ⟨⟨hy, rfl⟩, ⟨hz, rfl⟩, trivial⟩)
  ·cases hp
 ·cases hr
end Go.Ev
