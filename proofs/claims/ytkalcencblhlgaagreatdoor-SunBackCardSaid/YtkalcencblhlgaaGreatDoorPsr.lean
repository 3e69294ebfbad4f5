/- A sky's text line by line: what both parsers read; its rounds by the program. Conditions: texts of at most 4096 bytes. (Turned from salt's.) -/
import Derived.Test.YtkalcencblhlgaaGreatDoorPs2
namespace Go.Ev
open Go Go.RowKit Go.Proofs
set_option maxRecDepth 100000
def wd (b : ByteArray) (j : Nat) : ByteArray := wrdF b 32 j
def okB (k : Nat) (b : ByteArray) : Bool := match k with
 | 0 => Nat.beq (wrdN b 32) 2 && ((wd b 0).toList == sSkyW.toList && !((wd b 1).toList == sNil.toList))
 | _ + 1 => Nat.beq (wrdN b 32) 5 && ((wd b 0).toList == sSun.toList && (gS (wd b 1) && (gS (wd b 2) && (gS (wd b 3) && gS (wd b 4)))))
def lnOk (s : ByteArray) (k : Nat) : Bool := Nat.blt k (cntA s 10) && okB k (Proofs.part s 10 k)
def badK (g : Nat → Bool) : Nat → Nat → Option Nat
 | 0, _ => none
 | m + 1, k => match g k with
  | true => badK g m (k + 1)
  | false => some k
theorem badK_none {g : Nat → Bool} : ∀ {m k : Nat}, (∀ j, k ≤ j → j < k + m → g j = true) → badK g m k = none
 | 0, _, _ => rfl
 | m + 1, k, h => by
  unfold badK
  rw [h k (Nat.le_refl _) (by omega)]
  exact badK_none fun j h1 h2 => h j (by omega) (by omega)
theorem badK_some {g : Nat → Bool} : ∀ {m k i : Nat}, (∀ j, k ≤ j → j < i → g j = true) → k ≤ i → i < k + m → g i = false → badK g m k = some i
 | 0, k, i, _, h1, h2, _ => by omega
 | m + 1, k, i, h, h1, h2, h3 => by
  unfold badK
  by_cases e : k = i
  ·subst e; rw [h3]
  ·rw [h k (Nat.le_refl _) (by omega)]
   exact badK_some (fun j a b => h j (by omega) b) (by omega) (by omega) h3
def badAt (s : ByteArray) : Option Nat := badK (lnOk s) (linN s) 0
def goodK (s : ByteArray) (k : Nat) : Prop := ∀ j, j < k → lnOk s j = true
theorem goodK_zero (s : ByteArray) : goodK s 0 := fun j h => by omega
theorem goodK_succ {s : ByteArray} {k : Nat} (h : goodK s k) (hk : lnOk s k = true) : goodK s (k + 1) := fun j hj => by
 by_cases e : j = k
 ·subst e; exact hk
 ·exact h j (by omega)
theorem bad_at {s : ByteArray} {k : Nat} (h : goodK s k) (hk : k < linN s) (hb : lnOk s k = false) : badAt s = some k := badK_some (fun j _ h2 => h j h2) (Nat.zero_le _) (by omega) hb
theorem bad_no {s : ByteArray} (h : goodK s (linN s)) : badAt s = none := badK_none fun j _ h2 => h j (by omega)
theorem lnOk_in {s : ByteArray} {k : Nat} (h : lnOk s k = true) : k < cntA s 10 ∧ okB k (Proofs.part s 10 k) = true := by
 unfold lnOk at h
 rw [Bool.and_eq_true, Nat.blt_eq] at h
 exact h
theorem lnOk_last {s : ByteArray} (h : beg s 10 0 (cntA s 10) < s.size) : lnOk s (cntA s 10) = false := by
 unfold lnOk
 have : Nat.blt (cntA s 10) (cntA s 10) = false := by
  cases h : Nat.blt (cntA s 10) (cntA s 10) with
  | false => rfl
  | true => rw [Nat.blt_eq] at h; omega
 rw [this]; rfl
theorem lin_right {s : ByteArray} (h : badAt s = none) : linN s = cntA s 10 ∧ ¬ beg s 10 0 (cntA s 10) < s.size := by
 by_cases hb : beg s 10 0 (cntA s 10) < s.size
 ·have hl : linN s = cntA s 10 + 1 := by unfold linN; rw [if_pos hb]
  have : ∀ (m k i : Nat), badK (lnOk s) m k = none → k ≤ i → i < k + m → lnOk s i = true := by
   intro m
   induction m with
   | zero => intro k i _ h1 h2; omega
   | succ m ih =>
    intro k i h h1 h2
    unfold badK at h
    split at h
    ·rename_i hk
     by_cases e : k = i
     ·subst e; exact hk
     ·exact ih (k + 1) i h (by omega) (by omega)
    ·cases h
  have h2 := this _ _ (cntA s 10) h (Nat.zero_le _) (by omega)
  rw [lnOk_last hb] at h2
  cases h2
 ·exact ⟨by unfold linN; rw [if_neg hb], hb⟩
def nmP (s : ByteArray) : ByteArray := wd (Proofs.part s 10 0) 1
def f0P (s : ByteArray) (j : Nat) : Int := vS (wd (Proofs.part s 10 (j + 1)) 1)
def f1P (s : ByteArray) (j : Nat) : Int := vS (wd (Proofs.part s 10 (j + 1)) 2)
def f2P (s : ByteArray) (j : Nat) : Int := vS (wd (Proofs.part s 10 (j + 1)) 3)
def f3P (s : ByteArray) (j : Nat) : Int := vS (wd (Proofs.part s 10 (j + 1)) 4)
def nlP (s : ByteArray) : Nat := cntA s 10 - 1
theorem wrdN_pos (b : ByteArray) : 1 ≤ wrdN b 32 := by rw [wrdN_is]; omega
theorem get_ext {s : ByteArray} {p q k : Nat} (hq : q ≤ s.size) (hk : p + k < q) : (s.extract p q).data.toList[k]? = some (s.get! (p + k)) := by
 rw [ByteArray.data_extract, Array.toList_extract, List.extract_eq_take_drop, List.getElem?_take, if_pos (by omega), List.getElem?_drop]
 exact get_list (by omega)
theorem line_in {s : ByteArray} {k : Nat} (hk : k < cntA s 10) : whL (headL (restL s k)) = true ∧ bodL (headL (restL s k)) = Proofs.part s 10 k := by
 have h1 := part_in s 10 hk
 have h2 := nxt_ge s 10 (beg s 10 0 k)
 have h3 := (nxt_spec s 10 (p := beg s 10 0 k) (by omega)).2.2.2 h1
 rw [head_in hk]
 have hsz : (s.extract (beg s 10 0 k) (nxt s 10 (beg s 10 0 k) + 1)).size = nxt s 10 (beg s 10 0 k) + 1 - beg s 10 0 k := by rw [ByteArray.size_extract]; omega
 constructor
 ·unfold whL
  rw [hsz, ByteArray.extract_extract]
  have e : decide (1 ≤ nxt s 10 (beg s 10 0 k) + 1 - beg s 10 0 k) = true := by simp only [decide_eq_true_eq]; omega
  rw [e, Bool.true_and, beq_iff_eq]
  congr 1
  refine ByteArray.ext (Array.toList_inj.1 ?_)
  refine List.ext_getElem? fun j => ?_
  have hmin : min (beg s 10 0 k + (nxt s 10 (beg s 10 0 k) + 1 - beg s 10 0 k)) (nxt s 10 (beg s 10 0 k) + 1) = nxt s 10 (beg s 10 0 k) + 1 := by omega
  have hst : beg s 10 0 k + (nxt s 10 (beg s 10 0 k) + 1 - beg s 10 0 k - 1) = nxt s 10 (beg s 10 0 k) := by omega
  rw [hmin, hst]
  match j with
  | 0 =>
   rw [get_ext (by omega) (by omega), Nat.add_zero, h3]
   rfl
  | j + 1 =>
   rw [List.getElem?_eq_none, List.getElem?_eq_none]
   ·show 1 ≤ _; omega
   ·have : (s.extract (nxt s 10 (beg s 10 0 k)) (nxt s 10 (beg s 10 0 k) + 1)).data.toList.length = (s.extract (nxt s 10 (beg s 10 0 k)) (nxt s 10 (beg s 10 0 k) + 1)).size := Array.length_toList
    rw [this, ByteArray.size_extract]
    omega
 ·unfold bodL
  rw [hsz, ByteArray.extract_extract]
  unfold Proofs.part
  congr 1
  omega
theorem line_last {s : ByteArray} : whL (headL (restL s (cntA s 10))) = false := by
 obtain ⟨h1, h2⟩ := part_last s 10
 have h3 := (nxt_spec s 10 h2).2.2.1
 rw [head_last]
 unfold whL Proofs.part
 rw [h1]
 by_cases hz : beg s 10 0 (cntA s 10) < s.size
 ·have hsz : (s.extract (beg s 10 0 (cntA s 10)) s.size).size = s.size - beg s 10 0 (cntA s 10) := by rw [ByteArray.size_extract]; omega
  rw [hsz, ByteArray.extract_extract]
  have hmin : min (beg s 10 0 (cntA s 10) + (s.size - beg s 10 0 (cntA s 10))) s.size = s.size := by omega
  have hst : beg s 10 0 (cntA s 10) + (s.size - beg s 10 0 (cntA s 10) - 1) = s.size - 1 := by omega
  rw [hmin, hst]
  cases hb : (s.extract (s.size - 1) s.size).toList == nlB.toList with
  | false => exact Bool.and_false _
  | true =>
   exfalso
   rw [beq_iff_eq] at hb
   rw [ByteArray.toList_eq, ByteArray.toList_eq] at hb
   have h4 : (s.extract (s.size - 1) s.size).data.toList[0]? = some (s.get! (s.size - 1 + 0)) := get_ext (Nat.le_refl _) (by omega)
   rw [hb] at h4
   have h5 : (10 : UInt8) = s.get! (s.size - 1 + 0) := by
    have h6 : nlB.data.toList[0]? = some 10 := rfl
    rw [h6] at h4
    exact Option.some.inj h4
   exact h3 (s.size - 1) (by omega) (by rw [h1]; omega) h5.symm
 ·have hsz : (s.extract (beg s 10 0 (cntA s 10)) s.size).size = 0 := by rw [ByteArray.size_extract]; omega
  rw [hsz]
  rfl
end Go.Ev
namespace Go.Ev
open Go Go.RowKit Go.Proofs
set_option maxRecDepth 100000
theorem wd_size (b : ByteArray) (j : Nat) : (wrdF b 32 j).size ≤ b.size := by
 by_cases h : j ≤ cntA b 32
 ·rw [wrdF_is b 32 h]
  unfold Proofs.part
  rw [ByteArray.size_extract]
  omega
 ·have hl := Lib.splitB_all ⟨#[(32 : UInt8)]⟩ (Nat.le_refl 1) 0 _ b rfl
  have hc : cntA b 32 = Lib.countB b ⟨#[32]⟩ := by unfold cntA cntP; rw [ext_all]
  unfold wrdF
  rw [List.getD_eq_getElem?_getD, List.getElem?_eq_none (by omega)]
  exact Nat.zero_le _
theorem dnW_eq (N : Nat) : ∀ j, dnW N j = N - j
 | 0 => rfl
 | j + 1 => by
  show Int.toNat (dnW N j : Int) - 1 = _
  rw [Int.toNat_natCast, dnW_eq N j]
  omega
theorem oW_eq : ∀ j, oW j = j
 | 0 => rfl
 | j + 1 => by
  show oW j + 1 = _
  rw [oW_eq j]
theorem ixW_eq (j : Nat) : ixW j = j := oW_eq j
theorem zeN_iff (n : Nat) : zeN n = true ↔ n = 0 := by
 unfold zeN
 rw [beq_iff_eq]
 omega
theorem zeN_no {n : Nat} (h : zeN n = false) : n ≠ 0 := fun e => by rw [(zeN_iff n).2 e] at h; cases h
theorem le1_ok {n : Nat} (h : 1 ≤ n) : le1 n = true := by
 unfold le1
 simp only [Bool.and_eq_true, decide_eq_true_eq]
 omega
theorem in0_ok {n : Nat} (h : 1 ≤ n) : in0 n = true := by
 unfold in0
 simp only [Bool.and_eq_true, decide_eq_true_eq]
 omega
theorem szW_ok {b w : ByteArray} (hb : b.size ≤ 4096) (hw : w.size ≤ b.size) : szW w = true := by
 unfold szW
 simp only [decide_eq_true_eq]
 omega
theorem blt_ok {a b : Nat} (h : a < b) : Nat.blt a b = true := by rw [Nat.blt_eq]; exact h
theorem not1t {x : Bool} (h : (!x) = true) : x = false := by cases x <;> simp_all
theorem not1f {x : Bool} (h : (!x) = false) : x = true := by cases x <;> simp_all
theorem beq_no {a b : Nat} (h : a ≠ b) : Nat.beq a b = false := by
 cases e : Nat.beq a b with
 | false => rfl
 | true => exact absurd (Nat.eq_of_beq_eq_true e) h
theorem okB_one (j : Nat) (b : ByteArray) : okB (j + 1) b = (Nat.beq (wrdN b 32) 5 && ((wd b 0).toList == sSun.toList && (gS (wd b 1) && (gS (wd b 2) && (gS (wd b 3) && gS (wd b 4)))))) := rfl
theorem okB_zero (b : ByteArray) : okB 0 b = (Nat.beq (wrdN b 32) 2 && ((wd b 0).toList == sSkyW.toList && !((wd b 1).toList == sNil.toList))) := rfl
theorem bytes_list (a : ByteArray) : a.toList = a.data.toList := ByteArray.toList_eq a
theorem list_inj {a b : ByteArray} (h : a.toList = b.toList) : a = b := by
 rw [bytes_list, bytes_list] at h
 exact ba_ext h
theorem beq_ba0 (a b : ByteArray) : (a == b) = (a.data == b.data) := by cases a; cases b; rfl
theorem beq_ba (a b : ByteArray) : (a == b) = (a.toList == b.toList) := by
 rw [beq_ba0, Bool.eq_iff_iff, beq_iff_eq, beq_iff_eq]
 exact ⟨fun h => by rw [bytes_list, bytes_list, h], fun h => by rw [list_inj h]⟩
theorem gS_nil : gS ⟨#[]⟩ = false := by decide +kernel
theorem g_emp {b : ByteArray} (h : (b.toList == sNil.toList) = true) : gS b = false := by
 rw [beq_iff_eq] at h
 rw [list_inj h]
 exact gS_nil
theorem tts_ok {ψ : X × St → Prop} {S : SkX} (h : SkLeads ψ S) : ∀ n, SkLeads ψ (tts n S)
 | 0 => h
 | n + 1 => sk_tt (tts_ok h n)
theorem wdS_ok {ψ : X × St → Prop} {N : Nat} {w : Nat → ByteArray} {j : Nat} {no ok : SkX} (h1 : N ≤ j → SkLeads ψ no) (h2 : ((w j).toList == sNil.toList) = true → SkLeads ψ no) (h3 : j < N → ((w j).toList == sNil.toList) = false → SkLeads ψ ok) : SkLeads ψ (wdS N w j no ok) := by
 unfold wdS
 refine sk_either (fun h => sk_tt (h1 ?_)) fun h => ?_
 ·have := (zeN_iff _).1 h
  rw [dnW_eq] at this
  omega
 ·have := zeN_no h
  rw [dnW_eq] at this
  have hin : in0 (dnW N j) = true := in0_ok (by rw [dnW_eq]; omega)
  have hb : Nat.blt (ixW j) N = true := blt_ok (by rw [ixW_eq]; omega)
  refine sk_need hin (sk_need hb (sk_either (fun h => h2 (by rw [ixW_eq] at h; exact h)) fun h => sk_need hin (sk_need hb (sk_need (le1_ok (by rw [dnW_eq]; omega)) (h3 (by omega) (by rw [ixW_eq] at h; exact h))))))
section
variable {b : ByteArray} (hb : b.size ≤ 4096) {ψ : X × St → Prop}
theorem no5 (j : Nat) (h : wrdN b 32 ≠ 5) : okB (j + 1) b = false := by
 rw [okB_one, beq_no h]; rfl
theorem gbad (j i : Nat) (h1 : 1 ≤ i) (h4 : i ≤ 4) (h : gS (wd b i) = false) : okB (j + 1) b = false := by
 rw [okB_one]
 have : i = 1 ∨ i = 2 ∨ i = 3 ∨ i = 4 := by omega
 rcases this with rfl | rfl | rfl | rfl <;> simp [h]
include hb in
theorem szA (i : Nat) : szW (wrdF b 32 (ixW i)) = true := szW_ok hb (wd_size b _)
section
variable (r' nm : ByteArray) (f0 f1 f2 f3 : Nat → Int) (j : Nat) (hj : j ≤ 1000000)
include hj in
theorem ap_ok {S : SkX} (h : SkLeads ψ S) : SkLeads ψ (apS S j) := by
 have d0 : ((Tryz.prog.info? 113).map (·.bytes)).getD 0 = 32 := by kernel_rfl
 cases j with
 | zero => exact h
 | succ m => exact sk_nn (sk_nn (sk_nn (sk_need (apN_ok (by rw [d0]; decide) (by omega)) h)))
variable (hF : okB (j + 1) b = false → ∀ x y z t, SkLeads ψ (pyF r' nm f0 f1 f2 f3 j x y z t))
include hb hF
theorem py4b_ok (h : okB (j + 1) b = false) : SkLeads ψ (py4b vS r' nm f0 f1 f2 f3 j (wrdN b 32) (wrdF b 32)) := by
 unfold py4b
 exact wdS_ok (fun _ => sk_tt (hF h _ _ _ _)) (fun _ => sk_tt (hF h _ _ _ _)) fun _ _ => sk_need (szA hb 4) (sk_tt (hF h _ _ _ _))
theorem py3b_ok (h : okB (j + 1) b = false) : SkLeads ψ (py3b vS r' nm f0 f1 f2 f3 j (wrdN b 32) (wrdF b 32)) := by
 unfold py3b
 exact wdS_ok (fun _ => tts_ok (hF h _ _ _ _) 5) (fun _ => tts_ok (hF h _ _ _ _) 5) fun _ _ => sk_need (szA hb 3) (sk_tt (sk_tt (py4b_ok hb r' nm f0 f1 f2 f3 j hF h)))
variable (hZ : okB (j + 1) b = false → ∀ x y z t, SkLeads ψ (pyZ r' nm f0 f1 f2 f3 j x y z t)) (hY : okB (j + 1) b = true → SkLeads ψ (pyY r' nm f0 f1 f2 f3 j (vS (wd b 1)) (vS (wd b 2)) (vS (wd b 3)) (vS (wd b 4))))
include hZ hY hj
theorem py4g_ok (h0 : ((wd b 0).toList == sSun.toList) = true) (g1 : gS (wd b 1) = true) (g2 : gS (wd b 2) = true) : SkLeads ψ (py4g vS gS r' nm f0 f1 f2 f3 j (wrdN b 32) (wrdF b 32)) := by
 unfold py4g
 refine wdS_ok (fun h => sk_tt (hF (no5 j (by omega)) _ _ _ _)) (fun h => sk_tt (hF (gbad j 4 (by omega) (by omega) (g_emp h)) _ _ _ _)) fun h4 _ => sk_need (szA hb 4) (sk_either (fun h => hF (gbad j 3 (by omega) (by omega) (not1t h)) _ _ _ _) fun g3 => sk_ff (ap_ok j hj (sk_either (fun h => sk_tt (hZ (gbad j 4 (by omega) (by omega) (not1t h)) _ _ _ _)) fun g4 => sk_either (fun h => hZ (no5 j ?_) _ _ _ _) fun h => ?_)))
 ·rw [dnW_eq, decide_eq_true_eq] at h
  omega
 ·rw [dnW_eq, decide_eq_false_iff_not] at h
  refine hY ?_
  rw [okB_one, h0, g1, g2, show gS (wd b 3) = true from not1f g3, show gS (wd b 4) = true from not1f g4, show wrdN b 32 = 5 by omega]
  rfl
theorem py3g_ok (h0 : ((wd b 0).toList == sSun.toList) = true) (g1 : gS (wd b 1) = true) : SkLeads ψ (py3g vS gS r' nm f0 f1 f2 f3 j (wrdN b 32) (wrdF b 32)) := by
 unfold py3g
 exact wdS_ok (fun h => tts_ok (hF (no5 j (by omega)) _ _ _ _) 5) (fun h => tts_ok (hF (gbad j 3 (by omega) (by omega) (g_emp h)) _ _ _ _) 5) fun _ _ => sk_need (szA hb 3) (sk_either (fun h => sk_tt (py4b_ok hb r' nm f0 f1 f2 f3 j hF (gbad j 2 (by omega) (by omega) (not1t h)))) fun h => sk_tt (py4g_ok hb r' nm f0 f1 f2 f3 j hj hF hZ hY h0 g1 (not1f h)))
theorem py2_ok (h0 : ((wd b 0).toList == sSun.toList) = true) : SkLeads ψ (py2 vS gS r' nm f0 f1 f2 f3 j (wrdN b 32) (wrdF b 32)) := by
 unfold py2
 exact wdS_ok (fun h => tts_ok (hF (no5 j (by omega)) _ _ _ _) 9) (fun h => tts_ok (hF (gbad j 2 (by omega) (by omega) (g_emp h)) _ _ _ _) 9) fun _ _ => sk_need (szA hb 2) (sk_either (fun h => sk_tt (py3b_ok hb r' nm f0 f1 f2 f3 j hF (gbad j 1 (by omega) (by omega) (not1t h)))) fun h => sk_tt (py3g_ok hb r' nm f0 f1 f2 f3 j hj hF hZ hY h0 (not1f h)))
theorem py1_ok (h0 : ((wd b 0).toList == sSun.toList) = true) : SkLeads ψ (py1 vS gS r' nm f0 f1 f2 f3 j (wrdN b 32) (wrdF b 32)) := by
 unfold py1
 exact wdS_ok (fun h => tts_ok (hF (no5 j (by omega)) _ _ _ _) 13) (fun h => tts_ok (hF (gbad j 1 (by omega) (by omega) (g_emp h)) _ _ _ _) 13) fun _ _ => sk_need (szA hb 1) (sk_ff (sk_tt (py2_ok hb r' nm f0 f1 f2 f3 j hj hF hZ hY h0)))
variable {U : SkX} (hU : okB (j + 1) b = false → SkLeads ψ U)
include hU
theorem pyL_ok : SkLeads ψ (pyL vS gS r' nm f0 f1 f2 f3 j (wrdN b 32) (wrdF b 32) U) := by
 have hn : ((wd b 0).toList == sSun.toList) = false → okB (j + 1) b = false := fun h => by rw [okB_one, h, Bool.false_and, Bool.and_false]
 unfold pyL
 refine wdS_ok (fun h => ?_) (fun h => ?_) fun _ _ => ?_
 ·have := wrdN_pos b
  omega
 ·refine sk_ff (sk_ff (sk_ff (sk_tt (sk_tt (hU (hn ?_))))))
  have h : ((wd b 0).toList == sNil.toList) = true := h
  rw [beq_iff_eq] at h
  rw [h]; decide +kernel
 ·rw [beq_ba, beq_ba, show wrdF b 32 (ixW 0) = wd b 0 from rfl]
  refine sk_either (fun h => sk_ff (sk_ff (sk_tt (hU (hn ?_))))) fun _ => sk_either (fun h => sk_ff (sk_ff (sk_ff (py1_ok hb r' nm f0 f1 f2 f3 j hj hF hZ hY h)))) fun h => sk_ff (sk_tt (sk_tt (hU (hn h))))
  rw [beq_iff_eq] at h
  rw [h]; decide +kernel
end
theorem py0_ok (r' : ByteArray) {U : SkX} (hU : okB 0 b = false → SkLeads ψ U) (hbad : ∀ nm, okB 0 b = false → ψ (.ret, pyN r' 0 25 nm nilC 0 [])) (hok : okB 0 b = true → ψ (.normal, pyN r' 0 0 (wd b 1) nilC (IntKind.i64.wrap (0 + 1)) [])) : SkLeads ψ (py0 r' (wrdN b 32) (wrdF b 32) U) := by
 have no2 : wrdN b 32 ≠ 2 → okB 0 b = false := fun h => by rw [okB_zero, beq_no h]; rfl
 have hn : ((wd b 0).toList == sSkyW.toList) = false → okB 0 b = false := fun h => by rw [okB_zero, h, Bool.false_and, Bool.and_false]
 unfold py0
 refine wdS_ok (fun h => ?_) (fun h => ?_) fun _ _ => ?_
 ·have := wrdN_pos b
  omega
 ·refine sk_ff (sk_ff (sk_ff (sk_tt (sk_tt (hU (hn ?_))))))
  have h : ((wd b 0).toList == sNil.toList) = true := h
  rw [beq_iff_eq] at h
  rw [h]; decide +kernel
 ·rw [beq_ba, beq_ba, show wrdF b 32 (ixW 0) = wd b 0 from rfl, show wrdF b 32 (ixW 1) = wd b 1 from rfl]
  refine sk_either (fun h0 => sk_ff (sk_ff (sk_ff (wdS_ok (fun h => sk_tt (sk_tt (hU (no2 (by omega))))) (fun h => sk_tt (sk_tt (hU ?_))) fun h1 h2 => sk_ff (sk_either (fun h => sk_leaf (hbad _ (no2 ?_))) fun h => sk_leaf (hok ?_)))))) fun h0 => sk_either (fun _ => sk_ff (sk_ff (sk_tt (hU (hn h0))))) fun _ => sk_ff (sk_tt (sk_tt (hU (hn h0))))
  ·have h : ((wd b 1).toList == sNil.toList) = true := h
   rw [okB_zero, h, Bool.not_true, Bool.and_false, Bool.and_false]
  ·rw [dnW_eq, decide_eq_true_eq] at h
   omega
  ·rw [dnW_eq, decide_eq_false_iff_not] at h
   have h2 : ((wd b 1).toList == sNil.toList) = false := h2
   rw [okB_zero, h0, h2, show wrdN b 32 = 2 by omega]
   rfl
theorem pyO_ok {U : SkX} (hU : SkLeads ψ U) : SkLeads ψ (pyO (wrdN b 32) (wrdF b 32) U) := by
 unfold pyO
 refine wdS_ok (fun _ => ?_) (fun _ => ?_) fun _ _ => ?_
 ·exact sk_ff (sk_ff (tts_ok hU 3))
 ·exact sk_ff (sk_ff (tts_ok hU 3))
 ·exact sk_either (fun _ => tts_ok hU 3) fun _ => sk_either (fun _ => tts_ok hU 3) fun _ => tts_ok hU 3
end
section
variable (s : ByteArray)
def paHd (k : Nat) : St := paH (restL s k) (nmP s) (f0P s) (f1P s) (f2P s) (f3P s) k
def PaBad (q : X × St) : Prop := ∃ k r nm c tb, badAt s = some k ∧ (tb = [] ∨ ∃ B, tb = [B]) ∧ q = (.ret, pyN r (k : Int) 25 nm c (k : Int) tb)
def PaEnd (q : X × St) : Prop := (q = (.normal, paHd s (linN s)) ∧ badAt s = none) ∨ PaBad s q
def PaRnd (k : Nat) (q : X × St) : Prop := match q.1 with | .normal => q.2.Le (paHd s (k + 1)) ∧ goodK s (k + 1) | _ => PaEnd s q
theorem rnd_bad {k : Nat} {r nm : ByteArray} {c : C} {tb : List Blk} (h : badAt s = some k) (ht : tb = [] ∨ ∃ B, tb = [B]) : PaRnd s k (.ret, pyN r (k : Int) 25 nm c (k : Int) tb) := .inr ⟨k, r, nm, c, tb, h, ht, rfl⟩
theorem rnd_bad0 {r nm : ByteArray} {c : C} {tb : List Blk} (h : badAt s = some 0) (ht : tb = [] ∨ ∃ B, tb = [B]) : PaRnd s 0 (.ret, pyN r 0 25 nm c 0 tb) := by
 have e : (0 : Int) = ((0 : Nat) : Int) := rfl
 refine .inr ⟨0, r, nm, c, tb, h, ht, ?_⟩
 rw [← e]
theorem paT_one (f0 f1 f2 f3 : Nat → Int) : ∀ k, paT f0 f1 f2 f3 k = [] ∨ ∃ B, paT f0 f1 f2 f3 k = [B]
 | 0 => .inl rfl
 | 1 => .inl rfl
 | m + 2 => .inr ⟨_, rfl⟩
theorem paA_one (f0 f1 f2 f3 : Nat → Int) (a b c d : Int) : ∀ j, (paA f0 f1 f2 f3 a b c d j).2 = [] ∨ ∃ B, (paA f0 f1 f2 f3 a b c d j).2 = [B]
 | 0 => .inr ⟨_, rfl⟩
 | m + 1 => .inr ⟨_, rfl⟩
theorem rnd_ok0 (r' nm : ByteArray) (f0 f1 f2 f3 : Nat → Int) : (pyN r' 0 0 nm nilC (IntKind.i64.wrap (0 + 1)) []).Le (paH r' nm f0 f1 f2 f3 1) := by
 have e : IntKind.i64.wrap (0 + 1) = ((1 : Nat) : Int) := by decide
 rw [e]
 exact St.Le.refl _
theorem rnd_ok1 (r' nm : ByteArray) (f0 f1 f2 f3 : Nat → Int) {a b c d : Int} : ∀ (j : Nat), j ≤ 1000000 → a = f0 j → b = f1 j → c = f2 j → d = f3 j → (pyN r' 0 0 nm (paA f0 f1 f2 f3 a b c d j).1 (IntKind.i64.wrap (((j + 1 : Nat) : Int) + 1)) (paA f0 f1 f2 f3 a b c d j).2).Le (paH r' nm f0 f1 f2 f3 (j + 2))
 | 0, _, ha, hb, hc, hd => by
  rw [wrap_succ (by omega)]
  exact le_news (show 0 + 7 ≤ lim by decide) ⟨⟨rfl, fun _ _ _ h => h⟩, ⟨rfl, fun _ _ _ h => h⟩, ⟨rfl, fun _ _ _ h => h⟩, ⟨rfl, fun _ _ _ h => h⟩, ⟨rfl, fun _ _ _ h => h⟩, ⟨rfl, fun _ _ _ h => h⟩, ⟨rfl, four_rows ha hb hc hd⟩, trivial⟩
 | m + 1, hj, ha, hb, hc, hd => by
  subst ha; subst hb; subst hc; subst hd
  rw [wrap_succ (by omega)]
  show (pyN r' 0 0 nm (.sl true 6 0 4 0 (m + 1 + 1)) ((m + 1 + 1 + 1 : Nat) : Int) [⟨false, 113, .rows (m + 1 + 1) (skC (putF f0 (m + 1) (f0 (m + 1))) (putF f1 (m + 1) (f1 (m + 1))) (putF f2 (m + 1) (f2 (m + 1))) (putF f3 (m + 1) (f3 (m + 1))))⟩]).Le _
  rw [putF_self, putF_self, putF_self, putF_self]
  exact St.Le.refl _
theorem pyK0 {b r' : ByteArray} (e : b = Proofs.part s 10 0) (hbad : okB 0 b = false → badAt s = some 0) (hgood : okB 0 b = true → goodK s (0 + 1)) (hle : ∀ st : St, st.Le (paH r' (nmP s) (f0P s) (f1P s) (f2P s) (f3P s) (0 + 1)) → st.Le (paHd s (0 + 1))) :
  SkLeads (PaRnd s 0) (py0 r' (wrdN b 32) (wrdF b 32) (pyU r' (nmP s) (f0P s) (f1P s) (f2P s) (f3P s) 0)) := by
 refine py0_ok r' (fun h => sk_leaf (rnd_bad s (hbad h) (.inl rfl))) (fun nm h => rnd_bad0 s (hbad h) (.inl rfl)) fun h => ?_
 refine ⟨hle _ ?_, hgood h⟩
 rw [show wd b 1 = nmP s by rw [e]; rfl]
 exact rnd_ok0 _ _ _ _ _ _
theorem pyK1 {b r' : ByteArray} (hb : b.size ≤ 4096) (j : Nat) (hj : j ≤ 1000000) (e : b = Proofs.part s 10 (j + 1)) (hbad : okB (j + 1) b = false → badAt s = some (j + 1)) (hgood : okB (j + 1) b = true → goodK s (j + 1 + 1)) (hle : ∀ st : St, st.Le (paH r' (nmP s) (f0P s) (f1P s) (f2P s) (f3P s) (j + 1 + 1)) → st.Le (paHd s (j + 1 + 1))) :
  SkLeads (PaRnd s (j + 1)) (pyL vS gS r' (nmP s) (f0P s) (f1P s) (f2P s) (f3P s) j (wrdN b 32) (wrdF b 32) (pyU r' (nmP s) (f0P s) (f1P s) (f2P s) (f3P s) (j + 1))) := by
 have hZ : okB (j + 1) b = false → ∀ x y z t, SkLeads (PaRnd s (j + 1)) (pyZ r' (nmP s) (f0P s) (f1P s) (f2P s) (f3P s) j x y z t) := fun h x y z t => sk_leaf (rnd_bad s (hbad h) (paA_one _ _ _ _ _ _ _ _ j))
 refine pyL_ok hb r' _ _ _ _ _ j hj (fun h x y z t => sk_ff (ap_ok j hj (sk_tt (sk_tt (hZ h x y z t))))) hZ (fun h => sk_leaf ⟨hle _ (rnd_ok1 r' _ _ _ _ _ j hj (by rw [e]; rfl) (by rw [e]; rfl) (by rw [e]; rfl) (by rw [e]; rfl)), hgood h⟩) fun h => sk_leaf (rnd_bad s (hbad h) (paT_one _ _ _ _ _))
theorem pyK_ok {b r' : ByteArray} (hb : b.size ≤ 4096) (k : Nat) (hk : k ≤ 1000000) (e : b = Proofs.part s 10 k) (hbad : okB k b = false → badAt s = some k) (hgood : okB k b = true → goodK s (k + 1)) (hle : ∀ st : St, st.Le (paH r' (nmP s) (f0P s) (f1P s) (f2P s) (f3P s) (k + 1)) → st.Le (paHd s (k + 1))) :
  SkLeads (PaRnd s k) (pyK vS gS r' (nmP s) (f0P s) (f1P s) (f2P s) (f3P s) (wrdN b 32) (wrdF b 32) (pyU r' (nmP s) (f0P s) (f1P s) (f2P s) (f3P s) k) k) := by
 cases k with
 | zero => exact pyK0 s e hbad hgood hle
 | succ j => exact pyK1 s hb j (by omega) e hbad hgood hle
theorem pa_round (hs : s.size ≤ 4096) (k : Nat) (hk : k < linN s) (hg : goodK s k) :
  (paR wrdN wrdF vS gS whL bodL skyE s (restL s k) (headL (restL s k)) (restL s (k + 1)) (nmP s) (f0P s) (f1P s) (f2P s) (f3P s) k).All (PaRnd s k) := by
 refine all_into (pa_into wrdN wrdF vS gS whL bodL skyE s _ _ _ _ _ _ _ _ k) (pa_fits wrdN wrdF vS gS whL bodL skyE s _ _ _ _ _ _ _ _ k) (SkLeads.all ?_)
 have hlL0 : (headL (restL s k)).size ≤ 4096 := by
  have h1 := restL_le s k
  have h2 : (headL (restL s k)).size ≤ (restL s k).size := by
   unfold headL
   split
   ·rw [ByteArray.size_extract]; omega
   ·exact Nat.le_refl _
  omega
 have hneed : (decide ((⟨#[10]⟩ : ByteArray) = nlB) && Nat.ble (headL (restL s k)).size 1000000000) = true := by
  rw [Bool.and_eq_true, decide_eq_true_eq, Nat.ble_eq]
  exact ⟨rfl, by omega⟩
 have hkl : linN s ≤ cntA s 10 + 1 := by unfold linN; split <;> omega
 refine sk_nn (sk_need hneed (sk_either (fun hw => ?_) fun hw => sk_need (by simp only [decide_eq_true_eq]; omega) (pyO_ok (sk_leaf (rnd_bad s ?_ (paT_one _ _ _ _ k))))))
 ·have hkc : k < cntA s 10 := by
   rcases Nat.lt_or_ge k (cntA s 10) with h | h
   ·exact h
   ·have e : k = cntA s 10 := by omega
    subst e
    rw [line_last] at hw
    cases hw
  obtain ⟨_, hb⟩ := line_in hkc
  have hbs : (bodL (headL (restL s k))).size ≤ 4096 := by
   rw [hb]; unfold Proofs.part; rw [ByteArray.size_extract]; omega
  have hln : lnOk s k = okB k (Proofs.part s 10 k) := by unfold lnOk; rw [blt_ok hkc, Bool.true_and]
  have hbad : okB k (Proofs.part s 10 k) = false → badAt s = some k := fun h => bad_at hg hk (by rw [hln]; exact h)
  have hgood : okB k (Proofs.part s 10 k) = true → goodK s (k + 1) := fun h => goodK_succ hg (by rw [hln]; exact h)
  have hks : k ≤ 1000000 := by
   have h1 : cntA s 10 ≤ s.size := by rw [← mAt_end]; exact mAt_le s 10 _
   omega
  rw [hb] at hbs ⊢
  exact sk_need (by simp only [decide_eq_true_eq]; omega) (pyK_ok s hbs k hks rfl hbad hgood fun _ h => h)
 ·have e : k = cntA s 10 := by
   rcases Nat.lt_or_ge k (cntA s 10) with h | h
   ·rw [(line_in h).1] at hw; cases hw
   ·omega
  have hlast : beg s 10 0 (cntA s 10) < s.size := by
   unfold linN at hk
   split at hk
   ·assumption
   ·omega
  subst e
  exact bad_at hg hk (lnOk_last hlast)
end
end Go.Ev
namespace Go.Ev
open Go Go.RowKit Go.Proofs
set_option maxRecDepth 100000
def e0S (s : ByteArray) : Int := firstZ [errIf (decide ((s.size : Int) > 4096)) 26, errIf (s.toList == sNil.toList) 25]
def psE (s : ByteArray) : Int := match e0S s != 0 with
 | true => e0S s
 | false => match badAt s with
  | some _ => 25
  | none => skyE (nmP s) (nlP s) (f0P s) (f1P s) (f2P s) (f3P s)
def psAt (s : ByteArray) : Int := match e0S s != 0 with
 | true => 0
 | false => match badAt s with
  | some k => (k : Int)
  | none => match skyE (nmP s) (nlP s) (f0P s) (f1P s) (f2P s) (f3P s) != 0 with
   | true => (cntA s 10 : Int)
   | false => 0
def errV (a e : Int) : A := .tup [(true, [cs sNil, nilC]), (false, [ci a]), (false, [ci e])]
def paV (nm : ByteArray) (m : Nat) : A := .tup [(true, [cs nm, .sl true 3 0 4 0 (m + 1)]), (false, [ci 0]), (false, [ci 0])]
def paNw (nm : ByteArray) (f0 f1 f2 f3 : Nat → Int) (m : Nat) : List Blk := [sbox nm (.sl true 3 0 4 0 (m + 1)), ⟨false, 3, .flat [ci 0]⟩, ⟨false, 35, .flat [ci 0]⟩, ⟨false, 113, .rows (m + 1) (skC f0 f1 f2 f3)⟩]
def pzN (nm : ByteArray) (c : C) (a e : Int) (tb : List Blk) : St := paN [(2, .one (.ptr 0 0 1 0)), (3, .one (.ptr 1 0 1 0)), (4, .one (.ptr 2 0 1 0))] (sbox nm c :: ⟨false, 3, .flat [ci a]⟩ :: ⟨false, 35, .flat [ci e]⟩ :: tb)
section
variable (nS : ByteArray → UInt8 → Nat) (fS : ByteArray → UInt8 → Nat → ByteArray) (vI : ByteArray → Int) (gI : ByteArray → Bool) (wL : ByteArray → Bool) (bL : ByteArray → ByteArray) (E : FE) (s : ByteArray)
noncomputable def paX (q : X × St) : Tree ((X × St) ⊕ (List Bool × St)) := evOr2 (paRe nS fS vI gI wL bL E) true (bodyOf Tryz.f22) paPath [] [2, 3, 4] (paB s) q
noncomputable def pzO : SkO := .node (decide ((s.size : Int) > 4096)) (.node (s.toList == sNil.toList) (.tt (.leaf (.inl (.ret, pzN sNil nilC 0 26 [])))) (.tt (.leaf (.inl (.ret, pzN sNil nilC 0 26 [])))))
 (.node (s.toList == sNil.toList) (.tt (.leaf (.inl (.ret, pzN sNil nilC 0 25 [])))) (.ff (.leaf (.inr (paPath, paH s sNil (fun _ => 0) (fun _ => 0) (fun _ => 0) (fun _ => 0) 0)))))
theorem pzO_into : paO nS fS vI gI wL bL E s = into (paO nS fS vI gI wL bL E s) (pzO s) := by kernel_rfl
theorem pzO_fits : fits (paO nS fS vI gI wL bL E s) (pzO s) = true := by kernel_rfl
theorem paX_bad0 (r nm : ByteArray) (a e : Int) (c : C) (k : Int) : paX nS fS vI gI wL bL E s (.ret, pyN r a e nm c k []) = .leaf (.inl (.ret, pzN sNil nilC a e [])) := by kernel_rfl
theorem paX_bad1 (r nm : ByteArray) (a e : Int) (c : C) (k : Int) (B : Blk) : paX nS fS vI gI wL bL E s (.ret, pyN r a e nm c k [B]) = .leaf (.inl (.ret, pzN sNil nilC a e [])) := by kernel_rfl
def pzS1 (nm : ByteArray) (e : Int) : SkO := .node (e != 0) (.leaf (.inl (.ret, pzN sNil nilC 1 e []))) (.leaf (.inl (.ret, pzN nm nilC 0 0 [])))
theorem pz1_into (r nm : ByteArray) (f0 f1 f2 f3 : Nat → Int) : paX nS fS vI gI wL bL E s (.normal, paH r nm f0 f1 f2 f3 1) = into (paX nS fS vI gI wL bL E s (.normal, paH r nm f0 f1 f2 f3 1)) (pzS1 nm (E nm 0 (fun _ => 0) (fun _ => 0) (fun _ => 0) (fun _ => 0))) := by kernel_rfl
theorem pz1_fits (r nm : ByteArray) (f0 f1 f2 f3 : Nat → Int) : fits (paX nS fS vI gI wL bL E s (.normal, paH r nm f0 f1 f2 f3 1)) (pzS1 nm (E nm 0 (fun _ => 0) (fun _ => 0) (fun _ => 0) (fun _ => 0))) = true := by kernel_rfl
def pzS2 (m : Nat) (nm : ByteArray) (f0 f1 f2 f3 : Nat → Int) (e : Int) : SkO := .need (okN (m + 1)) (.node (e != 0) (.leaf (.inl (.ret, pzN sNil nilC ((m + 2 : Nat) : Int) e []))) (.leaf (.inl (.ret, pzN nm (.sl true 3 0 4 0 (m + 1)) 0 0 [⟨false, 113, .rows (m + 1) (skC f0 f1 f2 f3)⟩]))))
theorem pz2_into (r nm : ByteArray) (f0 f1 f2 f3 : Nat → Int) (m : Nat) : paX nS fS vI gI wL bL E s (.normal, paH r nm f0 f1 f2 f3 (m + 2)) = into (paX nS fS vI gI wL bL E s (.normal, paH r nm f0 f1 f2 f3 (m + 2))) (pzS2 m nm f0 f1 f2 f3 (E nm (m + 1) f0 f1 f2 f3)) := by kernel_rfl
theorem pz2_fits (r nm : ByteArray) (f0 f1 f2 f3 : Nat → Int) (m : Nat) : fits (paX nS fS vI gI wL bL E s (.normal, paH r nm f0 f1 f2 f3 (m + 2))) (pzS2 m nm f0 f1 f2 f3 (E nm (m + 1) f0 f1 f2 f3)) = true := by kernel_rfl
end
theorem pz_left (a e : Int) : Left2 Tryz.prog Tryz.f22 (hpT [] [] []) (errV a e) (hpT [] [] []) (.ret, pzN sNil nilC a e []) := left_of (b := true) (by kernel_rfl)
theorem pz_left1 (nm : ByteArray) (f0 f1 f2 f3 : Nat → Int) (m : Nat) : Left2 Tryz.prog Tryz.f22 (hpT [] [] []) (paV nm m) (hpT [] [] (paNw nm f0 f1 f2 f3 m)) (.ret, pzN nm (.sl true 3 0 4 0 (m + 1)) 0 0 [⟨false, 113, .rows (m + 1) (skC f0 f1 f2 f3)⟩]) := left_of (b := false) (by kernel_rfl)
theorem tbPa_ok : TabOk Tryz.prog (tabOf (tbPa wrdN wrdF vS gS whL bodL skyE)) := tab_cons (tab_cons (tab_cons (tab_cons tbBase_ok int_ok) spl_ok) cs_ok) pk_ok
theorem paCo_eq : paCo = .rangeFunc (.tmp 29) #[30] (rngA paCo) (rngB paCo) := by kernel_rfl
theorem e0_no {s : ByteArray} (h1 : decide ((s.size : Int) > 4096) = false) (h2 : (s.toList == sNil.toList) = false) : s.size ≤ 4096 ∧ 0 < s.size ∧ e0S s = 0 := by
 rw [decide_eq_false_iff_not] at h1
 refine ⟨by omega, size_pos_of h2, ?_⟩
 unfold e0S
 rw [decide_eq_false h1, h2]
 rfl
theorem paH_blk (r nm : ByteArray) (f0 f1 f2 f3 : Nat → Int) : ∀ k, (paH r nm f0 f1 f2 f3 k).hp.blk 0 = some ⟨false, 9, .flat [.lit (.string r)]⟩
 | 0 => by kernel_rfl
 | 1 => by kernel_rfl
 | m + 2 => by kernel_rfl
theorem paH_env (r nm : ByteArray) (f0 f1 f2 f3 : Nat → Int) (k : Nat) : (paH r nm f0 f1 f2 f3 k).env.get D 29 = some (.one (.fn 119 [(0, 0, 1, 0)])) := by kernel_rfl
theorem pa_loop (s : ByteArray) (hs : s.size ≤ 4096) : ComesF Tryz.prog paCo (paB s) (paHd s 0) (PaEnd s) := by
 rw [paCo_eq]
 refine comesF_lines (recF_ok tbPa_ok) rfl rfl 29 30 _ _ 0 9 s (linN s) (fun k hk => lin_pos hk) (lin_end s) (fun k => Nat.le_trans (restL_le s k) (by omega)) paSl (by decide) (by decide) (show 30 < 90 by decide) (paHd s) (goodK s) _ (goodK_zero s) (fun k _ => paH_env _ _ _ _ _ _ k) (fun k _ => paH_blk _ _ _ _ _ _ k) (fun k hk hg => pa_round s hs k hk hg) fun hg => .inl ⟨rfl, bad_no hg⟩
theorem paHd_zero (s : ByteArray) : paH s sNil (fun _ => 0) (fun _ => 0) (fun _ => 0) (fun _ => 0) 0 = paHd s 0 := by kernel_rfl
theorem pa_loop0 (s : ByteArray) (hs : s.size ≤ 4096) : ComesF Tryz.prog (nthRng (bodyOf Tryz.f22) paPath) (paB s) (paH s sNil (fun _ => 0) (fun _ => 0) (fun _ => 0) (fun _ => 0) 0) (PaEnd s) := by
 rw [paHd_zero]
 exact pa_loop s hs
theorem wN_pos {s : ByteArray} (hn : badAt s = none) (h0 : 0 < s.size) : linN s = cntA s 10 ∧ 1 ≤ cntA s 10 := by
 obtain ⟨h1, h2⟩ := lin_right hn
 refine ⟨h1, ?_⟩
 rcases Nat.eq_zero_or_pos (cntA s 10) with h | h
 ·rw [h] at h2
  exact absurd h0 h2
 ·exact h
theorem sky_zero2 (nm : ByteArray) (g0 g1 g2 g3 : Nat → Int) : (skyE nm 0 g0 g1 g2 g3 != 0) = true := by
 rw [(sky_none nm g0 g1 g2 g3).1]; exact (sky_none nm g0 g1 g2 g3).2
theorem pa_call (s : ByteArray) (V : A) (H : Hp) (he : psE s ≠ 0 → V = errV (psAt s) (psE s) ∧ H = hpT [] [] []) (h0 : ∀ m, psE s = 0 → nlP s = m + 1 → V = paV (nmP s) m ∧ H = hpT [] [] (paNw (nmP s) (f0P s) (f1P s) (f2P s) (f3P s) m)) :
  CallAt Tryz.prog 22 [.one (.lit (.string s))] (hpT [] [] []) V H := by
 have hbad : ∀ {e : Int}, e0S s = e → e ≠ 0 → V = errV 0 e ∧ H = hpT [] [] [] := fun {e} h1 h2 => by
  have hb : (e0S s != 0) = true := by rw [h1, bne_iff_ne]; exact h2
  have e1 : psE s = e0S s := by unfold psE; rw [hb]
  have e2 : psAt s = 0 := by unfold psAt; rw [hb]
  have h3 := he (by rw [e1, h1]; exact h2)
  rw [e1, e2, h1] at h3
  exact h3
 refine call_baseRS (recF_ok tbPa_ok) (c := bodyOf Tryz.f22) (fn := Tryz.f22) Tryz.func22 (by kernel_rfl) (by kernel_rfl) (false, true) 1 paSl [2, 3, 4] (sB := paB s) (by kernel_rfl) (t := paO wrdN wrdF vS gS whL bodL skyE s) (by delta paO; rfl) (pzO_into _ _ _ _ _ _ _ s) (pzO_fits _ _ _ _ _ _ _ s) ?_
 refine sk_either (fun h => ?_) fun h => sk_either (fun hn => sk_tt (sk_leaf (cutR_dn ?_))) fun hn => ?_
 ·have e0 : e0S s = 26 := by unfold e0S; rw [h]; rfl
  obtain ⟨rfl, rfl⟩ := hbad e0 (by decide)
  exact sk_either (fun _ => sk_tt (sk_leaf (cutR_dn (pz_left _ _)))) fun _ => sk_tt (sk_leaf (cutR_dn (pz_left _ _)))
 ·have e0 : e0S s = 25 := by unfold e0S; rw [h, hn]; rfl
  obtain ⟨rfl, rfl⟩ := hbad e0 (by decide)
  exact pz_left _ _
 ·obtain ⟨hs, hp, e0⟩ := e0_no h hn
  have hb0 : (e0S s != 0) = false := by rw [e0]; rfl
  refine sk_ff (sk_stopR (PaEnd s) true [] [2, 3, 4] (pa_loop0 s hs) fun q hq => ?_)
  rcases hq with ⟨rfl, hn⟩ | ⟨k, r, nm, c, tb, hb, htb, rfl⟩
  ·obtain ⟨hl, hc⟩ := wN_pos hn hp
   have e1 : psE s = skyE (nmP s) (nlP s) (f0P s) (f1P s) (f2P s) (f3P s) := by unfold psE; rw [hb0, hn]
   have e2 : psAt s = match skyE (nmP s) (nlP s) (f0P s) (f1P s) (f2P s) (f3P s) != 0 with | true => (cntA s 10 : Int) | false => 0 := by unfold psAt; rw [hb0, hn]
   have hnl : nlP s + 1 = cntA s 10 := by unfold nlP; omega
   rw [hl, ← hnl]
   rw [← hnl] at e2
   unfold paHd
   revert he h0 e1 e2
   generalize nlP s = n
   generalize nmP s = nm
   generalize f0P s = g0
   generalize f1P s = g1
   generalize f2P s = g2
   generalize f3P s = g3
   generalize restL s (n + 1) = r
   intro he h0 e1 e2
   cases n with
   | zero =>
    have hz := sky_zero2 nm g0 g1 g2 g3
    refine leads_in (show _ = paX wrdN wrdF vS gS whL bodL skyE s (.normal, paH r nm g0 g1 g2 g3 1) by delta paX; rfl) (pz1_into _ _ _ _ _ _ _ s r nm g0 g1 g2 g3) (pz1_fits _ _ _ _ _ _ _ s r nm g0 g1 g2 g3) (sk_yes (by rw [sky_zero nm _ _ _ _ g0 g1 g2 g3]; exact hz) (sk_leaf (cutR_dn ?_)))
    rw [hz] at e2
    obtain ⟨rfl, rfl⟩ := he (by rw [e1]; simpa using hz)
    rw [e1, e2, sky_zero nm g0 g1 g2 g3 (fun _ => 0) (fun _ => 0) (fun _ => 0) (fun _ => 0)]
    exact pz_left _ _
   | succ m =>
    refine leads_in (show _ = paX wrdN wrdF vS gS whL bodL skyE s (.normal, paH r nm g0 g1 g2 g3 (m + 2)) by delta paX; rfl) (pz2_into _ _ _ _ _ _ _ s r nm g0 g1 g2 g3 m) (pz2_fits _ _ _ _ _ _ _ s r nm g0 g1 g2 g3 m) (sk_need (okN_ok _) (sk_either (fun h2 => sk_leaf (cutR_dn ?_)) fun h2 => sk_leaf (cutR_dn ?_)))
    ·have h3 : (skyE nm (m + 1) g0 g1 g2 g3 != 0) = true := h2
     rw [h3] at e2
     obtain ⟨rfl, rfl⟩ := he (by rw [e1]; simpa using h3)
     rw [e1, e2]
     exact pz_left _ _
    ·have h3 : (skyE nm (m + 1) g0 g1 g2 g3 != 0) = false := h2
     obtain ⟨rfl, rfl⟩ := h0 m (by rw [e1]; simpa using h3) rfl
     exact pz_left1 nm g0 g1 g2 g3 m
  ·have e1 : psE s = 25 := by unfold psE; rw [hb0, hb]
   have e2 : psAt s = (k : Int) := by unfold psAt; rw [hb0, hb]
   obtain ⟨rfl, rfl⟩ := he (by rw [e1]; decide)
   rw [e1, e2]
   rcases htb with rfl | ⟨B, rfl⟩
   ·exact leads_leaf (show _ = paX wrdN wrdF vS gS whL bodL skyE s (.ret, pyN r (k : Int) 25 nm c (k : Int) []) by delta paX; rfl) (paX_bad0 _ _ _ _ _ _ _ _ _ _ _ _ _ _) (cutR_dn (pz_left _ _))
   ·exact leads_leaf (show _ = paX wrdN wrdF vS gS whL bodL skyE s (.ret, pyN r (k : Int) 25 nm c (k : Int) [B]) by delta paX; rfl) (paX_bad1 _ _ _ _ _ _ _ _ _ _ _ _ _ _ _) (cutR_dn (pz_left _ _))
theorem ps_ok {s : ByteArray} (h : psE s = 0) : ∃ m, nlP s = m + 1 := by
 rcases Nat.eq_zero_or_pos (nlP s) with h0 | h0
 ·exfalso
  have hz := sky_zero2 (nmP s) (f0P s) (f1P s) (f2P s) (f3P s)
  unfold psE at h
  split at h
  ·rename_i hb
   rw [h] at hb
   cases hb
  ·split at h
   ·cases h
   ·rw [h0] at h
    rw [h] at hz
    cases hz
 ·exact ⟨nlP s - 1, by omega⟩
end Go.Ev
