/- Bytes and digits of a text; strings.Split at one byte; the parts of a text told by where they begin; the lines of strings.Lines; the reference's Split. Conditions: none. (Turned from salt's texts by gen_spl.py.) -/
import Derived.Laws.RangeAny
import Derived.WalkKit
import Derived.BigCall
import Derived.Shelf.Strings.SplitCore
import Derived.Shelf.Strings.Split
import Derived.Lib.SplitLaws
import Derived.Test.YtkalcencblhlgaaGreatDoorIter
import Derived.Test.YtkalcencblhlgaaGreatDoorSkb
namespace Go.Proofs
open Go.RowKit Go.Ev
def byt (s : ByteArray) (k : Nat) : Nat := (s.get! k).toNat
def digB (n : Nat) : Bool := Nat.ble 48 n && Nat.ble n 57
def valN (s : ByteArray) : Nat → Int
 | 0 => 0
 | k + 1 => 10 * valN s k + ((byt s k : Int) - 48)
def allDig (s : ByteArray) : Nat → Bool
 | 0 => true
 | k + 1 => allDig s k && digB (byt s k)
theorem allDig_of {s : ByteArray} : ∀ {n : Nat}, (∀ j, j < n → digB (byt s j) = true) → allDig s n = true
 | 0, _ => rfl
 | n + 1, h => by
  show (allDig s n && digB (byt s n)) = true
  rw [allDig_of fun j hj => h j (by omega), h n (by omega)]; rfl
theorem allDig_at {s : ByteArray} : ∀ {n : Nat}, allDig s n = true → ∀ j, j < n → digB (byt s j) = true
 | n + 1, h, j, hj => by
  have h : (allDig s n && digB (byt s n)) = true := h
  rw [Bool.and_eq_true] at h
  by_cases e : j = n
  ·subst e; exact h.2
  ·exact allDig_at h.1 j (by omega)
theorem byt_at (s : ByteArray) (k : Nat) (h : k < s.size) : byt s k = (s[k]'h).toNat := by
 unfold byt
 have := get_at s k h
 rw [Nat.add_zero] at this
 rw [this]
theorem digB_iff {n : Nat} : digB n = true ↔ 48 ≤ n ∧ n ≤ 57 := by
 unfold digB
 rw [Bool.and_eq_true]
 simp [Nat.ble_eq]
theorem valN_lt {s : ByteArray} : ∀ {k : Nat}, (∀ j, j < k → digB (byt s j) = true) → 0 ≤ valN s k ∧ valN s k < 10 ^ k
 | 0, _ => ⟨Int.le_refl _, by show (0 : Int) < 10 ^ 0; decide⟩
 | k + 1, h => by
  have hd := digB_iff.1 (h k (by omega))
  have ih := valN_lt (s := s) (k := k) fun j hj => h j (by omega)
  show 0 ≤ 10 * valN s k + ((byt s k : Int) - 48) ∧ 10 * valN s k + ((byt s k : Int) - 48) < 10 ^ (k + 1)
  rw [Int.pow_succ]
  omega
def sZero : ByteArray := ⟨#[48]⟩
def sNil : ByteArray := ⟨#[]⟩
def canonB (s : ByteArray) : Bool := match s.toList == sZero.toList with
 | true => true
 | false => match !(s.toList == sNil.toList) with
  | true => !(((s.get! (Int.toNat 0)).toNat : Int) == 48)
  | false => false
theorem iter_below (w : World) (s : ByteArray) (p : Nat) : Below w.heap.size w (w.iter s p) := (Below.refl _ w).alloc (Nat.le_refl _) _
theorem size_pos_of {s : ByteArray} (h : (s.toList == sNil.toList) = false) : 0 < s.size := by
 rcases Nat.eq_zero_or_pos s.size with h0 | h0
 ·have : s = sNil := ByteArray.ext (Array.eq_empty_of_size_eq_zero h0)
  rw [this] at h
  simp at h
 ·exact h0
theorem canonB_iff {s : ByteArray} : canonB s = true ↔ 0 < s.size ∧ (byt s 0 = 48 → s.size = 1) := by
 have e0 : (s.get! (Int.toNat 0)).toNat = byt s 0 := rfl
 unfold canonB
 rw [e0]
 cases h1 : s.toList == sZero.toList with
 | true =>
  have : s = sZero := by
   have := eq_of_beq h1
   rw [ByteArray.toList_eq, ByteArray.toList_eq] at this
   exact ByteArray.ext (Array.toList_inj.1 this)
  subst this
  exact ⟨fun _ => ⟨by decide, fun _ => rfl⟩, fun _ => rfl⟩
 | false =>
  cases h2 : s.toList == sNil.toList with
  | true =>
   have : s = sNil := by
    have := eq_of_beq h2
    rw [ByteArray.toList_eq, ByteArray.toList_eq] at this
    exact ByteArray.ext (Array.toList_inj.1 this)
   subst this
   exact ⟨fun h => (by cases h), fun h => absurd h.1 (by decide)⟩
  | false =>
   have hp := size_pos_of h2
   show (!((byt s 0 : Int) == 48)) = true ↔ _
   constructor
   ·intro h
    refine ⟨hp, fun h48 => ?_⟩
    rw [h48] at h
    exact absurd h (by decide)
   ·rintro ⟨_, h⟩
    rw [Bool.not_eq_true', beq_eq_false_iff_ne]
    intro h48
    have h48 : byt s 0 = 48 := by omega
    have hz := h h48
    have : s = sZero := by
     refine ByteArray.ext (Array.ext (by show s.data.size = 1; exact hz) fun i hi1 hi2 => ?_)
     have hi : i = 0 := by
      have : s.data.size = 1 := hz
      omega
     subst hi
     have h3 := byt_at s 0 hp
     rw [h48] at h3
     have h4 : (s.data[0]'hi1).toNat = 48 := h3.symm
     exact UInt8.toNat_inj.1 h4
    rw [this, beq_self_eq_true] at h1
    cases h1
theorem toList_ne {s : ByteArray} (h : 0 < s.size) : ¬ s.toList = [] := fun e => by
 rw [ByteArray.toList_eq] at e
 have : s.data.size = 0 := by rw [← Array.length_toList, e]; rfl
 have h : 0 < s.data.size := h
 omega
end Go.Proofs
namespace Go.Proofs
open Go.RowKit Go.Shelf Go.Lib
set_option maxRecDepth 1000000 in
set_option maxHeartbeats 1000000 in
theorem Tryz.split_one (s : ByteArray) (c : UInt8) (w : World) (hs : s.size < 4294967281) :
  Calls Tryz.prog 73 #[.string s, .string ⟨#[c]⟩] w fun e w' =>
   e = .returned (.slice (some ⟨w.heap.size, 0, none⟩) (Lib.countB s ⟨#[c]⟩ + 1) (Lib.countB s ⟨#[c]⟩ + 1)) ∧ w' = w.alloc (.cells ((Lib.splitB ⟨#[c]⟩ 0 (Lib.countB s ⟨#[c]⟩) s).map Value.string).toArray 9) := by
 have h1 : 1 ≤ (⟨#[c]⟩ : ByteArray).size := Nat.le_refl _
 have hle := Lib.countB_le ⟨#[c]⟩ h1 s.size s (Nat.le_refl _)
 have hlen := Lib.splitB_all ⟨#[c]⟩ h1 0 _ s rfl
 have hI : ∀ (x : ByteArray) (w : World), Calls Tryz.prog 139 #[.string x, .string ⟨#[c]⟩] w fun e w' => e = .returned (.int .i64 (Lib.indexB x ⟨#[c]⟩)) ∧ w' = w := fun x w =>
  (Tryz.strings_Index_one x c w).mono fun e w' ⟨he, hw⟩ => ⟨by rw [he]; refine congrArg (fun z => Ending.returned (Value.int .i64 z)) ?_; exact (Lib.index_one _ _).symm, hw⟩
 have hC : Calls Tryz.prog 138 #[.string s, .string ⟨#[c]⟩] w fun e w' => e = .returned (.int .i64 (Lib.countB s ⟨#[c]⟩)) ∧ w' = w :=
  (Tryz.strings_Count_one s c w).mono fun e w' ⟨he, hw⟩ => ⟨by rw [he]; refine congrArg (fun z : Nat => Ending.returned (Value.int .i64 (z : Int))) ?_; exact (Lib.count_one _ _).symm, hw⟩
 have c0 := Any.strings_genSplit_core Tryz.lays221 (by kernel_rfl) s ⟨#[c]⟩ 0 (-1) (Lib.countB s ⟨#[c]⟩ + 1) w hs h1 (Nat.zero_le _) (fun x d _ => hI x _) hC (by decide) (by decide) (by rw [if_pos (by decide)]; omega)
 rw [Nat.add_sub_cancel, hlen] at c0
 have e2 : Lib.cellsOf (Lib.splitB ⟨#[c]⟩ 0 (Lib.countB s ⟨#[c]⟩) s) (Lib.countB s ⟨#[c]⟩ + 1) = ((Lib.splitB ⟨#[c]⟩ 0 (Lib.countB s ⟨#[c]⟩) s).map Value.string).toArray := by rw [← hlen]; exact Lib.cellsOf_full _
 rw [e2] at c0
 go_enter Tryz.func73, Tryz.ntmps73
 go_wp2_with (go_at_call 122; refine Calls.mono c0 ?_; rintro e w' ⟨rfl, hw⟩; rw [hw])
 go_ret
 exact ⟨rfl, rfl⟩
end Go.Proofs
namespace Go.Ev
open Go Go.RowKit
def wrdN (s : ByteArray) (c : UInt8) : Nat := Lib.countB s ⟨#[c]⟩ + 1
def wrdF (s : ByteArray) (c : UInt8) (i : Nat) : ByteArray := (Lib.splitB ⟨#[c]⟩ 0 (Lib.countB s ⟨#[c]⟩) s).getD i Proofs.sNil
def splSp (nS : ByteArray → UInt8 → Nat) (fS : ByteArray → UInt8 → Nat → ByteArray) : Spec := fun args h => match args with
 | [.one (.lit (.string s)), .one (.lit (.string sep))] => match sep.data.toList with
  | [c] => .need (decide (s.size < 4294967281)) ((h.alloc ⟨false, 9, .rows (nS s c) [.str (fS s c)]⟩).bind fun p => .leaf (.one (.sl true p.1 0 1 0 (nS s c)), p.2))
  | _ => .fail 503
 | _ => .fail 503
theorem spl_ok : SpecOk Proofs.Tryz.prog 73 (splSp wrdN wrdF) := by
 intro args h v h' hr E w vals rh hargs
 unfold splSp at hr
 split at hr
 ·rename_i s sep
  split at hr
  ·rename_i c hsep
   obtain ⟨hn, hr⟩ := Tree.need_some hr
   have hn := of_decide_eq_true hn
   obtain ⟨p, hp, hr⟩ := Tree.bind_some hr
   simp only [Tree.run, Option.some.injEq, Prod.mk.injEq] at hr
   obtain ⟨rfl, rfl⟩ := hr
   have hsp : sep = ⟨#[c]⟩ := ByteArray.ext (Array.toList_inj.1 hsep)
   subst hsp
   match vals, hargs with
   | [y, z], ⟨⟨hy, _⟩, ⟨hz, _⟩, _⟩ =>
    subst hy; subst hz
    refine (Proofs.Tryz.split_one s c w hn).mono ?_
    rintro e w' ⟨rfl, rfl⟩
    have h1 : 1 ≤ (⟨#[c]⟩ : ByteArray).size := Nat.le_refl _
    have hle := Lib.countB_le ⟨#[c]⟩ h1 s.size s (Nat.le_refl _)
    have hlen := Lib.splitB_all ⟨#[c]⟩ h1 0 _ s rfl
    have hbody : (Body.rows (wrdN s c) [.str (wrdF s c)]).Is E ((Lib.splitB ⟨#[c]⟩ 0 (Lib.countB s ⟨#[c]⟩) s).map Value.string).toArray := fun k j cl hk hj => by
     have hk : k < Lib.countB s ⟨#[c]⟩ + 1 := hk
     match j, hj with
     | 0, hj =>
      injection hj with hj
      subst hj
      have hk2 : k < (Lib.splitB ⟨#[c]⟩ 0 (Lib.countB s ⟨#[c]⟩) s).length := by omega
      refine ⟨.string (wrdF s c k), ?_, rfl, rfl⟩
      show ((Lib.splitB ⟨#[c]⟩ 0 (Lib.countB s ⟨#[c]⟩) s).map Value.string).toArray[k * 1 + 0]? = _
      rw [Nat.mul_one, Nat.add_zero, List.getElem?_toArray, List.getElem?_map, List.getElem?_eq_getElem hk2]
      unfold wrdF
      rw [List.getD_eq_getElem?_getD, List.getElem?_eq_getElem hk2]
      rfl
     | j + 1, hj => cases hj
    obtain ⟨hst, hE⟩ := alloc_stp rh hbody hp
    refine ⟨_, _, rfl, .inl ⟨w.heap.size, _, 0, Lib.countB s ⟨#[c]⟩ + 1, hE, rfl, Nat.le_refl _, ?_, fun _ => rfl, fun _ => ⟨rfl, rfl, rfl, ?_⟩⟩, hst⟩
    ·unfold maxLen; omega
    ·simp [hlen]
  ·cases hr
 ·cases hr
end Go.Ev
namespace Go.Proofs
open Go.Ev
def nxtF (s : ByteArray) (c : UInt8) : Nat → Nat → Nat
 | 0, p => p
 | f + 1, p => if s.get! p = c then p else nxtF s c f (p + 1)
def nxt (s : ByteArray) (c : UInt8) (p : Nat) : Nat := nxtF s c (s.size - p) p
theorem nxtF_spec (s : ByteArray) (c : UInt8) : ∀ (f p : Nat), p + f = s.size → p ≤ nxtF s c f p ∧ nxtF s c f p ≤ s.size ∧ (∀ q, p ≤ q → q < nxtF s c f p → s.get! q ≠ c) ∧ (nxtF s c f p < s.size → s.get! (nxtF s c f p) = c)
 | 0, p, h => ⟨Nat.le_refl _, by show p ≤ _; omega, fun q h1 h2 => by have h2 : q < p := h2; omega, fun h1 => by have h1 : p < s.size := h1; omega⟩
 | f + 1, p, h => by
  unfold nxtF
  split
  ·rename_i hc
   exact ⟨Nat.le_refl _, by omega, fun q h1 h2 => by omega, fun _ => hc⟩
  ·rename_i hc
   obtain ⟨a1, a2, a3, a4⟩ := nxtF_spec s c f (p + 1) (by omega)
   refine ⟨by omega, a2, fun q h1 h2 => ?_, a4⟩
   by_cases e : q = p
   ·subst e; exact hc
   ·exact a3 q (by omega) h2
theorem nxt_spec (s : ByteArray) (c : UInt8) {p : Nat} (h : p ≤ s.size) : p ≤ nxt s c p ∧ nxt s c p ≤ s.size ∧ (∀ q, p ≤ q → q < nxt s c p → s.get! q ≠ c) ∧ (nxt s c p < s.size → s.get! (nxt s c p) = c) := nxtF_spec s c _ p (by omega)
theorem nxt_big {s : ByteArray} {c : UInt8} {p : Nat} (h : s.size ≤ p) : nxt s c p = p := by
 unfold nxt
 rw [show s.size - p = 0 by omega]
 rfl
theorem nxt_ge (s : ByteArray) (c : UInt8) (p : Nat) : p ≤ nxt s c p := by
 rcases Nat.le_total p s.size with h | h
 ·exact (nxt_spec s c h).1
 ·rw [nxt_big h]; exact Nat.le_refl _
theorem nxt_uniq {s : ByteArray} {c : UInt8} {p q : Nat} (hp : p ≤ q) (hq : q ≤ s.size) (hno : ∀ r, p ≤ r → r < q → s.get! r ≠ c) (hat : q < s.size → s.get! q = c) : nxt s c p = q := by
 obtain ⟨a1, a2, a3, a4⟩ := nxt_spec s c (p := p) (by omega)
 rcases Nat.lt_trichotomy (nxt s c p) q with h | h | h
 ·exact absurd (a4 (by omega)) (hno _ a1 h)
 ·exact h
 ·exact absurd (hat (by omega)) (a3 q hp h)
def beg (s : ByteArray) (c : UInt8) (p : Nat) : Nat → Nat
 | 0 => p
 | j + 1 => nxt s c (beg s c p j) + 1
theorem beg_next (s : ByteArray) (c : UInt8) (p : Nat) : ∀ j, beg s c p (j + 1) = beg s c (nxt s c p + 1) j
 | 0 => rfl
 | j + 1 => by
  show nxt s c (beg s c p (j + 1)) + 1 = nxt s c (beg s c (nxt s c p + 1) j) + 1
  rw [beg_next s c p j]
theorem beg_lt (s : ByteArray) (c : UInt8) (p j : Nat) : beg s c p j < beg s c p (j + 1) := by
 show beg s c p j < nxt s c (beg s c p j) + 1
 have := nxt_ge s c (beg s c p j)
 omega
theorem beg_mono (s : ByteArray) (c : UInt8) (p : Nat) {i j : Nat} (h : i ≤ j) : beg s c p i ≤ beg s c p j := by
 induction j with
 | zero => rw [Nat.le_zero.1 h]; exact Nat.le_refl _
 | succ j ih =>
  rcases Nat.lt_or_eq_of_le h with h1 | h1
  ·exact Nat.le_trans (ih (by omega)) (Nat.le_of_lt (beg_lt s c p j))
  ·rw [h1]; exact Nat.le_refl _
theorem get_list {s : ByteArray} {q : Nat} (h : q < s.size) : s.data.toList[q]? = some (s.get! q) := by
 have e : s.get! q = s[q]'h := by
  cases s with
  | mk d => exact getElem!_pos d q h
 rw [e, List.getElem?_eq_getElem (by rw [Array.length_toList]; exact h)]
 rfl
theorem ext_list (s : ByteArray) (p k : Nat) : (s.extract p s.size).data.toList[k]? = s.data.toList[p + k]? := by
 rw [ByteArray.data_extract, Array.toList_extract, List.extract_eq_take_drop, List.getElem?_take]
 have hs : s.size = s.data.toList.length := by rw [Array.length_toList]; rfl
 split
 ·rw [List.getElem?_drop]
 ·rename_i h
  rw [List.getElem?_eq_none (by omega)]
theorem byte_off (s : ByteArray) (c : UInt8) {p : Nat} (hp : p ≤ s.size) : Lib.indexByte (s.extract p s.size).data.toList c = if nxt s c p < s.size then ((nxt s c p - p : Nat) : Int) else -1 := by
 obtain ⟨a1, a2, a3, a4⟩ := nxt_spec s c hp
 have hge := Lib.indexByte_ge (s.extract p s.size).data.toList c
 by_cases h : Lib.indexByte (s.extract p s.size).data.toList c = -1
 ·rw [h]
  split
  ·rename_i hlt
   have h2 := Lib.indexByte_none h (nxt s c p - p)
   rw [ext_list, show p + (nxt s c p - p) = nxt s c p by omega, get_list hlt, a4 hlt] at h2
   exact absurd rfl h2
  ·rfl
 ·obtain ⟨o, ho⟩ : ∃ o : Nat, Lib.indexByte (s.extract p s.size).data.toList c = o := ⟨(Lib.indexByte (s.extract p s.size).data.toList c).toNat, by omega⟩
  obtain ⟨h1, h2⟩ := Lib.indexByte_some ho
  rw [ext_list] at h1
  have hlt : p + o < s.size := by
   have := (List.getElem?_eq_some_iff.1 h1).1
   rw [Array.length_toList] at this
   exact this
  rw [get_list hlt] at h1
  injection h1 with h1
  have e : nxt s c p = p + o := nxt_uniq (by omega) (by omega) (fun r hr1 hr2 he => by
   have h3 := h2 (r - p) (by omega)
   rw [ext_list, show p + (r - p) = r by omega, get_list (by omega), he] at h3
   exact h3 rfl) fun _ => h1
  rw [ho, e, if_pos hlt]
  congr 1
  omega
theorem index_off (s : ByteArray) (c : UInt8) {p : Nat} (hp : p ≤ s.size) : Lib.indexB (s.extract p s.size) ⟨#[c]⟩ = if nxt s c p < s.size then ((nxt s c p - p : Nat) : Int) else -1 := by
 rw [← byte_off s c hp]
 exact Lib.index_one _ _
theorem ext_ext (s : ByteArray) (p i : Nat) : (s.extract p s.size).extract i (s.extract p s.size).size = s.extract (p + i) s.size := by
 rw [ByteArray.extract_extract, ByteArray.size_extract]
 congr 1
 omega
theorem ext_pre (s : ByteArray) {p q : Nat} (h : q ≤ s.size) (hp : p ≤ q) : (s.extract p s.size).extract 0 (q - p) = s.extract p q := by
 rw [ByteArray.extract_extract, show p + (q - p) = q by omega, Nat.add_zero, Nat.min_eq_left h]
def cntP (s : ByteArray) (c : UInt8) (p : Nat) : Nat := Lib.countB (s.extract p s.size) ⟨#[c]⟩
theorem cnt_miss {s : ByteArray} {c : UInt8} {p : Nat} (hp : p ≤ s.size) (h : ¬ nxt s c p < s.size) : cntP s c p = 0 := Lib.countB_miss _ _ (by rw [index_off s c hp, if_neg h])
theorem cnt_hit {s : ByteArray} {c : UInt8} {p : Nat} (hp : p ≤ s.size) (h : nxt s c p < s.size) : cntP s c p = 1 + cntP s c (nxt s c p + 1) := by
 have hg := nxt_ge s c p
 unfold cntP
 rw [Lib.countB_hit _ _ (nxt s c p - p) (Nat.le_refl _) (by rw [index_off s c hp, if_pos h]), ext_ext]
 rw [show p + (nxt s c p - p + (⟨#[c]⟩ : ByteArray).size) = nxt s c p + 1 by show p + (nxt s c p - p + 1) = _; omega]
theorem parts_off (s : ByteArray) (c : UInt8) : ∀ (k p : Nat), p ≤ s.size → cntP s c p = k → (∀ j, j ≤ k → (Lib.splitB ⟨#[c]⟩ 0 k (s.extract p s.size))[j]? = some (s.extract (beg s c p j) (nxt s c (beg s c p j)))) ∧ (∀ j, j < k → nxt s c (beg s c p j) < s.size) ∧ nxt s c (beg s c p k) = s.size ∧ beg s c p k ≤ s.size
 | 0, p, hp, hk => by
  have hn : ¬ nxt s c p < s.size := fun h => by rw [cnt_hit hp h] at hk; omega
  have he : nxt s c p = s.size := by have := (nxt_spec s c hp).2.1; omega
  refine ⟨fun j hj => ?_, fun j hj => by omega, he, hp⟩
  rw [Nat.le_zero.1 hj]
  show some (s.extract p s.size) = some (s.extract p (nxt s c p))
  rw [he]
 | k + 1, p, hp, hk => by
  have hn : nxt s c p < s.size := by
   by_cases h : nxt s c p < s.size
   ·exact h
   ·rw [cnt_miss hp h] at hk; omega
  have hg := nxt_ge s c p
  have hk2 : cntP s c (nxt s c p + 1) = k := by rw [cnt_hit hp hn] at hk; omega
  obtain ⟨a1, a2, a3, a4⟩ := parts_off s c k (nxt s c p + 1) (by omega) hk2
  refine ⟨fun j hj => ?_, fun j hj => ?_, by rw [beg_next]; exact a3, by rw [beg_next]; exact a4⟩
  ·rw [Lib.splitB_hit _ 0 k _ (nxt s c p - p) (by rw [index_off s c hp, if_pos hn]), ext_ext]
   cases j with
   | zero =>
    rw [List.getElem?_cons_zero, Nat.add_zero, ext_pre s (by omega) hg]
    rfl
   | succ j =>
    rw [List.getElem?_cons_succ, beg_next, show p + (nxt s c p - p + (⟨#[c]⟩ : ByteArray).size) = nxt s c p + 1 by show p + (nxt s c p - p + 1) = _; omega]
    exact a1 j (by omega)
  ·cases j with
   | zero => exact hn
   | succ j => rw [beg_next]; exact a2 j (by omega)
theorem ext_all (s : ByteArray) : s.extract 0 s.size = s := by
 refine ByteArray.ext ?_
 rw [ByteArray.data_extract]
 exact Array.extract_size
def part (s : ByteArray) (c : UInt8) (j : Nat) : ByteArray := s.extract (beg s c 0 j) (nxt s c (beg s c 0 j))
def cntA (s : ByteArray) (c : UInt8) : Nat := cntP s c 0
theorem wrdN_is (s : ByteArray) (c : UInt8) : wrdN s c = cntA s c + 1 := by
 unfold wrdN cntA cntP
 rw [ext_all]
theorem wrdF_is (s : ByteArray) (c : UInt8) {j : Nat} (hj : j ≤ cntA s c) : wrdF s c j = part s c j := by
 have := (parts_off s c _ 0 (Nat.zero_le _) rfl).1 j hj
 unfold wrdF part
 unfold cntP at this
 rw [ext_all] at this
 rw [List.getD_eq_getElem?_getD, this]
 rfl
theorem part_in (s : ByteArray) (c : UInt8) {j : Nat} (hj : j < cntA s c) : nxt s c (beg s c 0 j) < s.size := (parts_off s c _ 0 (Nat.zero_le _) rfl).2.1 j hj
theorem part_last (s : ByteArray) (c : UInt8) : nxt s c (beg s c 0 (cntA s c)) = s.size ∧ beg s c 0 (cntA s c) ≤ s.size := (parts_off s c _ 0 (Nat.zero_le _) rfl).2.2
theorem beg_le (s : ByteArray) (c : UInt8) {j : Nat} (hj : j ≤ cntA s c) : beg s c 0 j ≤ s.size := Nat.le_trans (beg_mono s c 0 hj) (part_last s c).2
def mAt (s : ByteArray) (c : UInt8) : Nat → Nat
 | 0 => 0
 | i + 1 => if s.get! i = c then mAt s c i + 1 else mAt s c i
theorem mAt_in (s : ByteArray) (c : UInt8) : ∀ i, i ≤ s.size → beg s c 0 (mAt s c i) ≤ i ∧ i ≤ nxt s c (beg s c 0 (mAt s c i))
 | 0, _ => ⟨Nat.le_refl _, Nat.zero_le _⟩
 | i + 1, hi => by
  obtain ⟨a1, a2⟩ := mAt_in s c i (by omega)
  obtain ⟨b1, b2, b3, b4⟩ := nxt_spec s c (p := beg s c 0 (mAt s c i)) (by omega)
  unfold mAt
  split
  ·rename_i h
   have e : nxt s c (beg s c 0 (mAt s c i)) = i := by
    rcases Nat.lt_or_eq_of_le a2 with h1 | h1
    ·exact absurd h (b3 i a1 h1)
    ·exact h1.symm
   have e2 : beg s c 0 (mAt s c i + 1) = i + 1 := by show nxt s c (beg s c 0 (mAt s c i)) + 1 = _; rw [e]
   rw [e2]
   exact ⟨Nat.le_refl _, nxt_ge s c _⟩
  ·rename_i h
   refine ⟨by omega, ?_⟩
   rcases Nat.lt_or_eq_of_le a2 with h1 | h1
   ·exact h1
   ·exact absurd (by rw [← h1] at b4; exact b4 (by omega)) h
theorem mAt_hit {s : ByteArray} {c : UInt8} {i : Nat} (hi : i < s.size) (h : s.get! i = c) : nxt s c (beg s c 0 (mAt s c i)) = i ∧ beg s c 0 (mAt s c i + 1) = i + 1 := by
 obtain ⟨a1, a2⟩ := mAt_in s c i (by omega)
 obtain ⟨b1, b2, b3, b4⟩ := nxt_spec s c (p := beg s c 0 (mAt s c i)) (by omega)
 have e : nxt s c (beg s c 0 (mAt s c i)) = i := by
  rcases Nat.lt_or_eq_of_le a2 with h1 | h1
  ·exact absurd h (b3 i a1 h1)
  ·exact h1.symm
 exact ⟨e, by show nxt s c (beg s c 0 (mAt s c i)) + 1 = _; rw [e]⟩
theorem mAt_end (s : ByteArray) (c : UInt8) : mAt s c s.size = cntA s c := by
 obtain ⟨a1, a2⟩ := mAt_in s c s.size (Nat.le_refl _)
 have a3 := (nxt_spec s c a1).2.1
 rcases Nat.lt_trichotomy (mAt s c s.size) (cntA s c) with h | h | h
 ·have := part_in s c h; omega
 ·exact h
 ·have h1 := beg_mono s c 0 (show cntA s c + 1 ≤ mAt s c s.size by omega)
  have h2 : beg s c 0 (cntA s c + 1) = s.size + 1 := by show nxt s c (beg s c 0 (cntA s c)) + 1 = _; rw [(part_last s c).1]
  omega
theorem nl_off (s : ByteArray) {p : Nat} (hp : p ≤ s.size) : nlAt (s.extract p s.size) = if nxt s 10 p < s.size then ((nxt s 10 p - p : Nat) : Int) else -1 := byte_off s 10 hp
theorem ext_over {s : ByteArray} {p q : Nat} (h : q ≤ p) : s.extract p q = ⟨#[]⟩ := by
 refine ByteArray.ext ?_
 rw [ByteArray.data_extract]
 exact Array.extract_eq_empty_of_le (by omega)
theorem rest_off (s : ByteArray) : ∀ k, restL s k = s.extract (beg s 10 0 k) s.size
 | 0 => (ext_all s).symm
 | k + 1 => by
  show tailL (restL s k) = _
  rw [rest_off s k]
  rcases Nat.lt_or_ge s.size (beg s 10 0 k) with h | h
  ·rw [ext_over (by omega), ext_over (by have := beg_lt s 10 0 k; omega)]
   rfl
  ·unfold tailL
   rw [nl_off s h]
   have hg := nxt_ge s 10 (beg s 10 0 k)
   by_cases h1 : nxt s 10 (beg s 10 0 k) < s.size
   ·rw [if_pos h1, if_pos (by omega), ext_ext]
    congr 1
    show _ = nxt s 10 (beg s 10 0 k) + 1
    omega
   ·rw [if_neg h1, if_neg (by omega), ext_over (by show s.size ≤ nxt s 10 (beg s 10 0 k) + 1; omega)]
theorem head_in {s : ByteArray} {k : Nat} (hk : k < cntA s 10) : headL (restL s k) = s.extract (beg s 10 0 k) (nxt s 10 (beg s 10 0 k) + 1) := by
 have h1 := part_in s 10 hk
 have hb := beg_le s 10 (Nat.le_of_lt hk)
 have hg := nxt_ge s 10 (beg s 10 0 k)
 rw [rest_off]
 unfold headL
 rw [nl_off s hb, if_pos h1, if_pos (by omega)]
 rw [show (((nxt s 10 (beg s 10 0 k) - beg s 10 0 k : Nat) : Int) + 1).toNat = (nxt s 10 (beg s 10 0 k) + 1) - beg s 10 0 k by omega]
 exact ext_pre s (by omega) (by omega)
theorem head_last (s : ByteArray) : headL (restL s (cntA s 10)) = part s 10 (cntA s 10) := by
 obtain ⟨h1, h2⟩ := part_last s 10
 rw [rest_off]
 unfold headL
 rw [nl_off s h2, h1, if_neg (Nat.lt_irrefl _), if_neg (by omega)]
 unfold part
 rw [h1]
def linN (s : ByteArray) : Nat := if beg s 10 0 (cntA s 10) < s.size then cntA s 10 + 1 else cntA s 10
theorem lin_pos {s : ByteArray} {k : Nat} (hk : k < linN s) : 0 < (restL s k).size := by
 rw [rest_off, ByteArray.size_extract]
 have hb : beg s 10 0 k < s.size := by
  unfold linN at hk
  split at hk
  ·rename_i h
   exact Nat.lt_of_le_of_lt (beg_mono s 10 0 (by omega)) h
  ·have := part_in s 10 hk
   have := nxt_ge s 10 (beg s 10 0 k)
   omega
 omega
theorem lin_end (s : ByteArray) : (restL s (linN s)).size = 0 := by
 rw [rest_off, ByteArray.size_extract]
 unfold linN
 split
 ·show min s.size s.size - (nxt s 10 (beg s 10 0 (cntA s 10)) + 1) = 0
  rw [(part_last s 10).1]; omega
 ·omega
theorem restL_le (s : ByteArray) (k : Nat) : (restL s k).size ≤ s.size := by
 rw [rest_off, ByteArray.size_extract]; omega
end Go.Proofs
set_option linter.unusedVariables false
namespace Go.Ev
open Go Go.RowKit Go.Proofs
theorem decW_len : ∀ (k u : Nat), (decW k u).length ≤ k
 | 0, _ => Nat.le_refl _
 | k + 1, u => by
  unfold decW
  split
  ·simp
  ·rw [List.length_append]
   have := decW_len k (u / 10)
   simp
   exact this
theorem itoaW_len (n : Int) : (itoaW n).length ≤ 21 := by
 unfold itoaW
 split
 ·exact Nat.le_trans (decW_len 20 _) (by decide)
 ·rename_i u
  rw [List.length_cons]
  have := decW_len 20 (u + 1)
  omega
def txtB (a : Int) : ByteArray := ⟨(itoaW a).toArray⟩
def blankB : ByteArray := ⟨#[32]⟩
def nlB : ByteArray := ⟨#[10]⟩
theorem txtB_size (a : Int) : (txtB a).data.toList.length ≤ 21 := by
 show (itoaW a).toArray.toList.length ≤ 21
 rw [List.toList_toArray]
 exact itoaW_len a
end Go.Ev
set_option linter.unusedVariables false
namespace Go.Ev
open Go Go.RowKit Go.Proofs
set_option maxRecDepth 100000
section
variable (s : ByteArray) (c : Int)
def sqA : List A := [.one (.lit (.string s)), .one (.lit (.int .u8 c))]
def sqB : St := baseB 34 (sqA s c) (hpT [] [] [])
def sqN (env : List (Nat × A)) (news : List Blk) : St := stN 34 (envL env) (bsS [] []) [] news
def sqO (m : Nat) : A := match m with | 0 => .one nilC | m + 1 => .one (.sl true 0 0 1 0 (m + 1))
def sqW (m : Nat) (F : Nat → ByteArray) : List Blk := match m with | 0 => [] | m + 1 => [⟨false, 9, .rows (m + 1) [.str F]⟩]
def sqHS (a : A) (W : List Blk) (b i : Int) : St := sqN [(0, .one (.lit (.string s))), (1, .one (.lit (.int .u8 c))), (5, a), (6, int b), (7, int i)] W
def sqH (m : Nat) (F : Nat → ByteArray) (b i : Nat) : St := sqHS s c (sqO m) (sqW m F) (b : Int) (i : Int)
def sqX (m : Nat) (F : Nat → ByteArray) (b : Nat) : St := sqN [(0, .one (.lit (.string s))), (5, sqO m), (6, int (b : Int))] (sqW m F)
noncomputable def sqP : Tree ((X × St) ⊕ (List Bool × St)) := evO (recT Tryz.prog noTab) (bodyOf Tryz.f34) [0, 1, 5, 6, 7] [4] (sqB s c)
noncomputable def sqT (m : Nat) (F : Nat → ByteArray) (b i : Nat) : Tree (X × St) := (recT Tryz.prog noTab (loopF Tryz.f34) (sqH s c m F b i)).bind (canonT [0, 1, 5, 6, 7] [0, 5, 6] (sqB s c))
noncomputable def sqE (m : Nat) (F : Nat → ByteArray) (b : Nat) : Tree ((X × St) ⊕ (List Bool × St)) := evO2 (recT Tryz.prog noTab) true (bodyOf Tryz.f34) (pathF Tryz.f34) [] [4] (sqB s c) (.exit 0, sqX s m F b)
def inS (i : Nat) : Bool := decide (0 ≤ (i : Int)) && decide ((i : Int) < (s.size : Int))
def eqY (i : Nat) : Bool := (((s.get! (Int.toNat (i : Int))).toNat : Int) == c)
def cutS (b i : Int) : Bool := decide (0 ≤ b) && decide (b ≤ i) && decide (i ≤ (s.size : Int))
noncomputable def appS (m : Nat) : Bool := Nat.ble (m + 1) (m + 1) && Nat.blt ((m + 1 + 1) * ((Tryz.prog.info? 9).map (·.bytes)).getD 0) 140737488355328 && Nat.ble (m + 1 + 1) 9223372036854775807
noncomputable def sqHit (b i : Int) (F : Nat → ByteArray) : Nat → Sk (X × St)
 | 0 => .leaf (.normal, sqHS s c (.one (.sl true 0 0 1 0 1)) [⟨false, 9, .flat [.lit (.string (s.extract b.toNat i.toNat))]⟩] (IntKind.i64.wrap (i + 1)) (IntKind.i64.wrap (i + 1)))
 | m + 1 => .need (appS m) (.leaf (.normal, sqHS s c (.one (.sl true 0 0 1 0 (m + 1 + 1))) [⟨false, 9, .rows (m + 1 + 1) [.str (putF F (m + 1) (s.extract b.toNat i.toNat))]⟩] (IntKind.i64.wrap (i + 1)) (IntKind.i64.wrap (i + 1))))
noncomputable def sqS (m : Nat) (F : Nat → ByteArray) (b i : Nat) : Sk (X × St) := .node (decide ((i : Int) < (s.size : Int))) (.need (inS s i) (.node (eqY s c i)
  (.need (cutS s (b : Int) (i : Int)) (sqHit s c (b : Int) (i : Int) F m))
  (.leaf (.normal, sqHS s c (sqO m) (sqW m F) (b : Int) (IntKind.i64.wrap ((i : Int) + 1)))))) (.leaf (.exit 0, sqX s m F b))
theorem sqT_into (m : Nat) (F : Nat → ByteArray) (b i : Nat) : sqT s c m F b i = into (sqT s c m F b i) (sqS s c m F b i) := by
 cases m with
 | zero => kernel_rfl
 | succ m => kernel_rfl
theorem sqT_fits (m : Nat) (F : Nat → ByteArray) (b i : Nat) : fits (sqT s c m F b i) (sqS s c m F b i) = true := by
 cases m with
 | zero => kernel_rfl
 | succ m => kernel_rfl
theorem sqP_is : sqP s c = .leaf (.inr (pathF Tryz.f34, sqH s c 0 (fun _ => sNil) 0 0)) := by kernel_rfl
def sqR (k : Nat) (W : List Blk) : St := sqN [(4, .one (.sl true 0 0 1 0 k))] W
noncomputable def sqES (m : Nat) (F : Nat → ByteArray) (b : Nat) : Sk ((X × St) ⊕ (List Bool × St)) := .need (decide (0 ≤ (b : Int)) && decide ((b : Int) ≤ (s.size : Int)) && decide ((s.size : Int) ≤ (s.size : Int))) (match m with
  | 0 => .leaf (.inl (.ret, sqR 1 [⟨false, 9, .flat [.lit (.string (s.extract (Int.toNat (b : Int)) (Int.toNat (s.size : Int))))]⟩]))
  | m + 1 => .need (appS m) (.leaf (.inl (.ret, sqR (m + 1 + 1) [⟨false, 9, .rows (m + 1 + 1) [.str (putF F (m + 1) (s.extract (Int.toNat (b : Int)) (Int.toNat (s.size : Int))))]⟩]))))
theorem sqE_into (m : Nat) (F : Nat → ByteArray) (b : Nat) : sqE s c m F b = into (sqE s c m F b) (sqES s m F b) := by
 cases m with
 | zero => kernel_rfl
 | succ m => kernel_rfl
theorem sqE_fits (m : Nat) (F : Nat → ByteArray) (b : Nat) : fits (sqE s c m F b) (sqES s m F b) = true := by
 cases m with
 | zero => kernel_rfl
 | succ m => kernel_rfl
end
theorem call_le {P : Program} {f : FuncId} {args : List A} {h : Hp} {v : A} {h' h'' : Hp} (hc : CallAt P f args h v h') (hle : ({ size := 0, env := .nil, hp := h' } : St).Le { size := 0, env := .nil, hp := h'' }) : CallAt P f args h v h'' := by
 intro E w vals rh ha
 refine (hc E w vals rh ha).mono ?_
 rintro e w' ⟨x, E', he, hx, s⟩
 have r : R [] E' { size := 0, env := .nil, hp := h' } { tmps := #[], defers := [] } w' := ⟨s.rh, rfl, rfl, fun t y hy => by rw [show ({ size := 0, env := .nil, hp := h' } : St).env = .nil from rfl, Tr.get_nil] at hy; cases hy⟩
 exact ⟨x, E', he, hx, hle.stp r s⟩
theorem str_rows {e : TypeId} {F : Nat → ByteArray} {x : ByteArray} (h : x = F 0) : ∀ (E : Env) (w : World) (p : Nat × Nat × Nat), blkIs E w p ⟨false, e, .flat [.lit (.string x)]⟩ → blkIs E w p ⟨false, e, .rows 1 [.str F]⟩ := by
 subst h
 exact blk_body rfl (fun cs e => by cases e) fun E arr hh => rows_one rfl (fun j c col h1 h2 => by match j, h1, h2 with | 0, h1, h2 => injection h1 with h1; injection h2 with h2; subst h1; subst h2; rfl) hh
theorem appS_ok {m : Nat} (h : m ≤ 1000000000) : appS m = true := by
 have d0 : ((Tryz.prog.info? 9).map (·.bytes)).getD 0 = 16 := by kernel_rfl
 unfold appS
 rw [ble_self, d0]
 have h1 : Nat.blt ((m + 1 + 1) * 16) 140737488355328 = true := by rw [Nat.blt_eq]; omega
 have h2 : Nat.ble (m + 1 + 1) 9223372036854775807 = true := by rw [Nat.ble_eq]; omega
 rw [h1, h2]; rfl
theorem mAt_mono (s : ByteArray) (c : UInt8) : ∀ {i j : Nat}, i ≤ j → mAt s c i ≤ mAt s c j := by
 intro i j h
 induction j with
 | zero => rw [Nat.le_zero.1 h]; exact Nat.le_refl _
 | succ j ih =>
  rcases Nat.lt_or_eq_of_le h with h1 | h1
  ·have := ih (by omega)
   show _ ≤ (if s.get! j = c then mAt s c j + 1 else mAt s c j)
   split <;> omega
  ·rw [h1]; exact Nat.le_refl _
theorem mAt_le (s : ByteArray) (c : UInt8) : ∀ i, mAt s c i ≤ i
 | 0 => Nat.le_refl _
 | i + 1 => by
  have := mAt_le s c i
  show (if s.get! i = c then mAt s c i + 1 else mAt s c i) ≤ _
  split <;> omega
section
variable (s : ByteArray) (c : UInt8)
def sqHd (i : Nat) : St := sqH s (c.toNat : Int) (mAt s c i) (wrdF s c) (beg s c 0 (mAt s c i)) i
theorem sq_byte (i : Nat) : eqY s (c.toNat : Int) i = true ↔ s.get! i = c := by
 unfold eqY
 rw [Int.toNat_natCast, beq_iff_eq]
 constructor
 ·intro h
  exact UInt8.toNat_inj.1 (by omega)
 ·intro h
  rw [h]
theorem sq_hit (s : ByteArray) (c : Int) (hd : Nat → St) (fin : X × St) (i m b : Nat) (F : Nat → ByteArray) (hF : F m = s.extract b i) (hm : m ≤ 1000000) (hi : i ≤ 1000000) (e : hd (i + 1) = sqH s c (m + 1) F (i + 1) (i + 1)) :
  SkLeads (Rnd hd (fun _ => fin) i) (sqHit s c (b : Int) (i : Int) F m) := by
 cases m with
 | zero =>
  refine sk_leaf (rnd_next ?_ rfl)
  rw [e, Int.toNat_natCast, Int.toNat_natCast, ← hF, wrap_succ (by omega)]
  exact le_news (show 0 + 1 ≤ lim by decide) ⟨⟨rfl, str_rows rfl⟩, trivial⟩
 | succ m =>
  refine sk_need (appS_ok (by omega)) (sk_leaf (rnd_next ?_ rfl))
  rw [e, Int.toNat_natCast, Int.toNat_natCast, ← hF, wrap_succ (by omega), putF_self]
  exact St.Le.refl _
theorem sq_loop (hs : s.size ≤ 1000000) : ComesF Tryz.prog (.loop (loopF Tryz.f34)) (sqB s (c.toNat : Int)) (sqHd s c 0) fun q => q = (.exit 0, sqX s (cntA s c) (wrdF s c) (beg s c 0 (cntA s c))) := by
 refine loop_count (recT_ok noTab_ok) rfl [0, 1, 5, 6, 7] [0, 5, 6] (sqHd s c) (fun _ => (.exit 0, sqX s (cntA s c) (wrdF s c) (beg s c 0 (cntA s c)))) s.size (fun i => sqT s (c.toNat : Int) (mAt s c i) (wrdF s c) (beg s c 0 (mAt s c i)) i) (fun i => sqS s (c.toNat : Int) (mAt s c i) (wrdF s c) (beg s c 0 (mAt s c i)) i) (fun _ => rfl) (fun i => sqT_into _ _ _ _ _ _) (fun i => sqT_fits _ _ _ _ _ _) (fun i hi => ?_) (sk_no (by simp) (sk_leaf (by rw [mAt_end]; rfl)))
 obtain ⟨b1, b2⟩ := mAt_in s c i (by omega)
 have hle : mAt s c i ≤ cntA s c := by rw [← mAt_end]; exact mAt_mono s c (by omega)
 have hml := mAt_le s c i
 have hin : inS s i = true := by
  unfold inS
  simp only [Bool.and_eq_true, decide_eq_true_eq]
  omega
 unfold sqS
 refine sk_yes (by simp only [decide_eq_true_eq]; omega) (sk_need hin (sk_either (fun h => ?_) fun h => sk_leaf (rnd_next ?_ rfl)))
 ·have hb := (sq_byte s c i).1 h
  obtain ⟨c1, c2⟩ := mAt_hit hi hb
  have hm1 : mAt s c (i + 1) = mAt s c i + 1 := if_pos hb
  have hF : wrdF s c (mAt s c i) = s.extract (beg s c 0 (mAt s c i)) i := by
   rw [wrdF_is s c hle]
   unfold Proofs.part
   rw [c1]
  have hcut : cutS s (beg s c 0 (mAt s c i) : Int) (i : Int) = true := by
   unfold cutS
   simp only [Bool.and_eq_true, decide_eq_true_eq]
   omega
  refine sk_need hcut ?_
  have hd : sqHd s c (i + 1) = sqH s (c.toNat : Int) (mAt s c i + 1) (wrdF s c) (i + 1) (i + 1) := by unfold sqHd; rw [hm1, c2]
  exact sq_hit s (c.toNat : Int) (sqHd s c) _ i (mAt s c i) (beg s c 0 (mAt s c i)) (wrdF s c) hF (by omega) (by omega) hd
 ·have hb : ¬ s.get! i = c := fun e => by rw [(sq_byte s c i).2 e] at h; cases h
  have hm1 : mAt s c (i + 1) = mAt s c i := if_neg hb
  unfold sqHd
  rw [hm1, wrap_succ (by omega)]
  exact St.Le.refl _
def sqWR (k : Nat) (F : Nat → ByteArray) : List Blk := [⟨false, 9, .rows k [.str F]⟩]
theorem sq_left (k : Nat) (b : Blk) : Left2 Tryz.prog Tryz.f34 (hpT [] [] []) (.one (.sl true 0 0 1 0 k)) (hpT [] [] [b]) (.ret, sqR k [b]) := left_of (b := false) (by kernel_rfl)
theorem sq_call (hs : s.size ≤ 1000000) : CallAt Tryz.prog 34 (sqA s (c.toNat : Int)) (hpT [] [] []) (.one (.sl true 0 0 1 0 (wrdN s c))) (hpT [] [] (sqWR (wrdN s c) (wrdF s c))) := by
 obtain ⟨p1, p2⟩ := part_last s c
 have hcl : cntA s c ≤ s.size := by rw [← mAt_end]; exact mAt_le s c _
 have hF : wrdF s c (cntA s c) = s.extract (beg s c 0 (cntA s c)) s.size := by
  rw [wrdF_is s c (Nat.le_refl _)]
  unfold Proofs.part
  rw [p1]
 have hcut : (decide (0 ≤ (beg s c 0 (cntA s c) : Int)) && decide ((beg s c 0 (cntA s c) : Int) ≤ (s.size : Int)) && decide ((s.size : Int) ≤ (s.size : Int))) = true := by
  simp only [Bool.and_eq_true, decide_eq_true_eq]
  omega
 have key : ∀ W, (∀ {ψ : (X × St) ⊕ (List Bool × St) → Prop}, (∀ q, q = .inl (X.ret, sqR (cntA s c + 1) W) → ψ q) → SkLeads ψ (sqES s (cntA s c) (wrdF s c) (beg s c 0 (cntA s c)))) → (∃ b, W = [b]) →
   CallAt Tryz.prog 34 (sqA s (c.toNat : Int)) (hpT [] [] []) (.one (.sl true 0 0 1 0 (cntA s c + 1))) (hpT [] [] W) := by
  rintro W hW ⟨b, rfl⟩
  refine call_base (recT_ok noTab_ok) (c := bodyOf Tryz.f34) (fn := Tryz.f34) Tryz.func34 (by kernel_rfl) (by kernel_rfl) (false, false) 1 [0, 1, 5, 6, 7] [4] (sB := sqB s (c.toNat : Int)) (by kernel_rfl) (t := sqP s (c.toNat : Int)) (by delta sqP; rfl) ?_
  rw [sqP_is]
  refine cutF_stop _ true [] [4] (comesF_le (t := sqHd s c 0) (St.Le.refl _) (sq_loop s c hs)) fun q hq => Leads.all ?_
  subst hq
  exact leads_in (show _ = sqE s (c.toNat : Int) (cntA s c) (wrdF s c) (beg s c 0 (cntA s c)) by delta sqE; rfl) (sqE_into s (c.toNat : Int) _ _ _) (sqE_fits s (c.toNat : Int) _ _ _) (hW fun q hq => by subst hq; exact cutF_dn (sq_left _ _))
 rw [wrdN_is]
 cases hm : cntA s c with
 | zero =>
  have hk := key [⟨false, 9, .flat [.lit (.string (s.extract (beg s c 0 (cntA s c)) s.size))]⟩] (fun {ψ} h => sk_need hcut (by rw [hm]; exact sk_leaf (h _ (by rw [hm]; simp only [Int.toNat_natCast]))) ) ⟨_, rfl⟩
  rw [hm] at hk
  refine call_le hk ?_
  rw [hm] at hF
  exact le_news (size := 0) (env := .nil) (bs := []) (globs := []) (show 0 + 1 ≤ lim by decide) ⟨⟨rfl, str_rows hF.symm⟩, trivial⟩
 | succ m =>
  have hk := key (sqWR (m + 1 + 1) (wrdF s c)) (fun {ψ} h => sk_need hcut (by
   rw [hm] at hF ⊢
   refine sk_need (appS_ok (by omega)) (sk_leaf (h _ ?_))
   simp only [Int.toNat_natCast]
   rw [← hF, hm, putF_self]
   rfl)) ⟨_, rfl⟩
  rw [hm] at hk
  exact hk
end
def spqSp (nS : ByteArray → UInt8 → Nat) (fS : ByteArray → UInt8 → Nat → ByteArray) : Spec := fun args h => match args with
 | [.one (.lit (.string s)), .one (.lit (.int .u8 c))] => .need (decide (0 ≤ c) && decide (c < 256) && Nat.ble s.size 1000000) ((h.alloc ⟨false, 9, .rows (nS s (UInt8.ofNat c.toNat)) [.str (fS s (UInt8.ofNat c.toNat))]⟩).bind fun p => .leaf (.one (.sl true p.1 0 1 0 (nS s (UInt8.ofNat c.toNat))), p.2))
 | _ => .fail 530
theorem spq_ok : SpecOk Tryz.prog 34 (spqSp wrdN wrdF) := by
 intro args h v h' hr E w vals rh hargs
 unfold spqSp at hr
 split at hr
 ·rename_i s c
  obtain ⟨hn, hr⟩ := Tree.need_some hr
  simp only [Bool.and_eq_true, decide_eq_true_eq] at hn
  obtain ⟨⟨h0, h1⟩, h2⟩ := hn
  obtain ⟨p, hp, hr⟩ := Tree.bind_some hr
  simp only [Tree.run, Option.some.injEq, Prod.mk.injEq] at hr
  obtain ⟨rfl, rfl⟩ := hr
  have hc : ((UInt8.ofNat c.toNat).toNat : Int) = c := by
   rw [UInt8.toNat_ofNat_of_lt' (by show c.toNat < 256; omega)]
   omega
  have hcall := sq_call s (UInt8.ofNat c.toNat) (Nat.le_of_ble_eq_true h2)
  rw [hc] at hcall
  unfold Hp.alloc at hp
  split at hp
  ·rename_i hlt
   simp only [Tree.run, Option.some.injEq] at hp
   subst hp
   have hlt : h.next < lim := by simpa [Nat.blt_eq] using hlt
   exact lift_new (ids := []) (bs := []) (globs := []) (news := sqWR (wrdN s (UInt8.ofNat c.toNat)) (wrdF s (UInt8.ofNat c.toNat))) hcall (fun b hb => by rw [List.mem_singleton.1 hb]; rfl) rh rfl (show 0 + 1 ≤ lim by decide) (by show h.next + 1 ≤ lim; omega) (fun i id b1 hi _ => by simp [nth] at hi) (fun g i hg => by cases hg) (by
    match vals, hargs with
    | [y, z], ⟨⟨hy, _⟩, ⟨hz, _⟩, _⟩ => exact ⟨⟨hy, rfl⟩, ⟨hz, rfl⟩, trivial⟩)
  ·cases hp
 ·cases hr
end Go.Ev
