/- A tank's text, parsed by the program. Conditions: few lines. A tank's text line by line: what both parsers read. Conditions: none. A tank's text, parsed by the program: its rounds. Conditions: texts of at most 4096 bytes. A tank's text, parsed by the program. Conditions: none. -/
import Derived.Test.YtlpchgidkibbeaaGreatDoorPrn
import Derived.Test.YtlpchgidkibbeaaGreatDoorCtW
namespace Go.Ev
open Go Go.RowKit Go.Proofs
set_option maxRecDepth 100000
def whL (s : ByteArray) : Bool := decide (1 ≤ s.size) && (s.extract (s.size - 1) s.size).toList == nlB.toList
def bodL (s : ByteArray) : ByteArray := s.extract 0 (s.size - 1)
def csV (b : ByteArray) (w : Bool) : A := .tup [(false, [.lit (.string b)]), (false, [.lit (.bool w)])]
def cuF (w : ByteArray → Bool) (b : ByteArray → ByteArray) : FT
 | [], [], [s, sep], [] => .need (decide (sep = nlB) && Nat.ble s.size 1000000000) (.node (w s) (.leaf (csV (b s) true, [])) (.leaf (csV s false, [])))
 | _, _, _, _ => .fail 531
def csSp (w : ByteArray → Bool) (b : ByteArray → ByteArray) : Spec := fun args h => specT [(false, [.s]), (false, [.s])] [] (cuF w b) args h
def csI (L : ByteArray) : Int := IntKind.i64.wrap ((L.size : Int) - (nlB.size : Int))
def csS (L : ByteArray) : SkL := .node (decide ((L.size : Int) ≥ (nlB.size : Int))) (.need (decide (0 ≤ csI L) && decide (csI L ≤ (L.size : Int)) && decide ((L.size : Int) ≤ (L.size : Int))) (.node (!((L.extract (csI L).toNat (Int.toNat (L.size : Int))).toList == nlB.toList)) (.leaf (.inl (true, csV L false, hpT [] [] [])))
 (.need (decide ((0 : Int) ≤ 0) && decide (0 ≤ csI L) && decide (csI L ≤ (L.size : Int))) (.leaf (.inl (true, csV (L.extract (Int.toNat 0) (csI L).toNat) true, hpT [] [] []))))))
 (.tt (.leaf (.inl (true, csV L false, hpT [] [] []))))
def csR (L : ByteArray) : A := match whL L with
 | true => csV (bodL L) true
 | false => csV L false
theorem cs_call (L : ByteArray) (hL : L.size ≤ 1000000000) : CallAt Tryz.prog 125 [.one (.lit (.string L)), .one (.lit (.string nlB))] (hpT [] [] []) (csR L) (hpT [] [] []) := by
 have e1 : (nlB.size : Int) = 1 := rfl
 refine call_sk noTab_ok Tryz.func125 (by kernel_rfl) (false, false) (by kernel_rfl) (S := csS L) (by kernel_rfl) (by kernel_rfl) (SkLeads.all ?_)
 refine sk_either (fun h => ?_) fun h => sk_tt (sk_leaf ?_)
 ·have h1 : 1 ≤ L.size := by simp only [decide_eq_true_eq] at h; omega
  have hc : csI L = ((L.size - 1 : Nat) : Int) := by
   unfold csI
   rw [e1, IntKind.wrap_i64]
   omega
  have hn : decide (1 ≤ L.size) = true := by simp [h1]
  rw [hc]
  simp only [Int.toNat_natCast]
  refine sk_need (by simp only [Bool.and_eq_true, decide_eq_true_eq]; omega) (sk_either (fun h2 => sk_leaf ?_) fun h2 => sk_need (by simp only [Bool.and_eq_true, decide_eq_true_eq]; omega) (sk_leaf ?_))
  ·show (_, _) = (_, _)
   have hw : whL L = false := by unfold whL; rw [hn]; simpa using h2
   unfold csR; rw [hw]
  ·show (_, _) = (_, _)
   have hw : whL L = true := by unfold whL; rw [hn]; simpa using h2
   unfold csR; rw [hw]; rfl
 ·show (_, _) = (_, _)
  have h1 : ¬ 1 ≤ L.size := by simp only [decide_eq_false_iff_not] at h; omega
  have hw : whL L = false := by unfold whL; simp [h1]
  unfold csR; rw [hw]
theorem cs_ok : SpecOk Tryz.prog 125 (csSp whL bodL) := by
 refine specT_ok (by decide) (by decide) fun l m n ts v news hl hm hn ht hnil hF => ?_
 unfold cuF at hF
 split at hF
 ·rename_i L sep
  obtain ⟨hok, hF2⟩ := Tree.need_some hF
  clear hF
  rw [Bool.and_eq_true, decide_eq_true_eq] at hok
  obtain ⟨rfl, hok⟩ := hok
  have hv : v = csR L ∧ news = [] := by
   unfold csR
   cases hb : whL L with
   | true => rw [hb] at hF2; simp only [Tree.run, Option.some.injEq, Prod.mk.injEq] at hF2; obtain ⟨rfl, rfl⟩ := hF2; exact ⟨rfl, rfl⟩
   | false => rw [hb] at hF2; simp only [Tree.run, Option.some.injEq, Prod.mk.injEq] at hF2; obtain ⟨rfl, rfl⟩ := hF2; exact ⟨rfl, rfl⟩
  obtain ⟨rfl, rfl⟩ := hv
  exact cs_call L (Nat.le_of_ble_eq_true hok)
 ·cases hF
section
variable (nS : ByteArray → UInt8 → Nat) (fS : ByteArray → UInt8 → Nat → ByteArray) (vI : ByteArray → Int) (gI : ByteArray → Bool) (wL : ByteArray → Bool) (bL : ByteArray → ByteArray) (tE : Nat → Int → (Nat → Int) → (Nat → Int) → Int)
def tbPa : List (FuncId × Spec) := (55, chSp tE) :: (125, csSp wL bL) :: (150, splSp nS fS) :: (163, txiSp vI gI) :: tbT1
noncomputable def paRe : Code → St → Tree (X × St) := recT Tryz.prog (tabOf (tbPa nS fS vI gI wL bL tE))
end
section
variable (s : ByteArray)
def paB : St := baseB 53 [.one (.lit (.string s))] (hpT [] [] [])
def paN (env : List (Nat × A)) (news : List Blk) : St := stN 53 (envL env) (bsS [] []) [] news
def paE : List (Nat × A) := [(26, .one (.fn 147 [(0, 0, 1, 0)])), (2, .one (.ptr 1 0 1 0)), (3, .one (.ptr 2 0 1 0)), (4, .one (.ptr 3 0 1 0)), (6, .one (.ptr 4 0 1 0)), (7, .one (.ptr 5 0 1 0))]
def paW (r : ByteArray) (a e room : Int) (c : C) (k : Int) (tb : List Blk) : List Blk := ⟨false, 9, .flat [.lit (.string r)]⟩ :: tbox 81 0 nilC :: ⟨false, 3, .flat [ci a]⟩ :: ⟨false, 31, .flat [ci e]⟩ :: tbox 81 room c :: ⟨false, 3, .flat [ci k]⟩ :: tb
def paC (room : Int) : Nat → Int × C
 | 0 => (0, nilC)
 | 1 => (room, nilC)
 | m + 2 => (room, .sl true 6 0 2 0 (m + 1))
def paT (f1 f2 : Nat → Int) : Nat → List Blk
 | 0 => []
 | 1 => []
 | m + 2 => [⟨false, 152, .rows (m + 1) (tkC f1 f2)⟩]
def paH (r : ByteArray) (room : Int) (f1 f2 : Nat → Int) (k : Nat) : St := paN paE (paW r 0 0 (paC room k).1 (paC room k).2 (k : Int) (paT f1 f2 k))
def paSl : List Nat := [26, 2, 3, 4, 6, 7]
end
section
variable (nS : ByteArray → UInt8 → Nat) (fS : ByteArray → UInt8 → Nat → ByteArray) (vI : ByteArray → Int) (gI : ByteArray → Bool) (wL : ByteArray → Bool) (bL : ByteArray → ByteArray) (tE : Nat → Int → (Nat → Int) → (Nat → Int) → Int) (s : ByteArray)
noncomputable def paO : Tree ((X × St) ⊕ (List Bool × St)) := evOr (paRe nS fS vI gI wL bL tE) (bodyOf Tryz.f69) paSl [2, 3, 4] (paB s)
noncomputable def paPath : List Bool := pathR (bodyOf Tryz.f69) 0
noncomputable def paCo : Code := nthRng (bodyOf Tryz.f69) paPath
noncomputable def paR (r L r' : ByteArray) (room : Int) (f1 f2 : Nat → Int) (k : Nat) : Tree (X × St) := linT (paRe nS fS vI gI wL bL tE) (rngA paCo) (rngB paCo) paSl (paB s) (midL (paH r room f1 f2 k) 27 0 9 L r')
def le1 (n : Nat) : Bool := decide ((0 : Int) ≤ 1) && decide ((1 : Int) ≤ (n : Int)) && decide ((n : Int) ≤ (n : Int))
def in0 (n : Nat) : Bool := decide ((0 : Int) ≤ 0) && decide ((0 : Int) < (n : Int))
def dn1 (n : Nat) : Nat := Int.toNat (n : Int) - Int.toNat 1
def ix1 : Nat := 0 + Int.toNat 1 + Int.toNat 0
def ix2 : Nat := 0 + Int.toNat 1 + Int.toNat 1 + Int.toNat 0
def szW (b : ByteArray) : Bool := decide (b.size < 9223372036854775807)
def zeN (n : Nat) : Bool := ((n : Int) == 0)
noncomputable def appL (m : Nat) : Bool := Nat.ble (m + 1) (m + 1) && Nat.blt ((m + 1 + 1) * ((Tryz.prog.info? 152).map (·.bytes)).getD 0) 140737488355328 && Nat.ble (m + 1 + 1) 9223372036854775807
abbrev SkX := Sk (X × St)
def pxN (r : ByteArray) (a e room : Int) (c : C) (k : Int) (tb : List Blk) : St := paN paE (paW r a e room c k tb)
def px0 (r' : ByteArray) (N : Nat) (w : Nat → ByteArray) : SkX := .need (le1 N) (.tt (.need (in0 N) (.need (Nat.blt (0 + Int.toNat 0) N) (.node ((w (0 + Int.toNat 0)).toList == sTank.toList)
 (.node (zeN (dn1 N)) (.ff (.tt (.leaf (.ret, pxN r' 0 25 0 nilC 0 [])))) (.need (in0 (dn1 N)) (.need (Nat.blt ix1 N) (.need (szW (w ix1)) (.need (le1 (dn1 N)) (.ff (.node (!(!gI (w ix1)))
  (.node (!zeN (dn1 (dn1 N))) (.leaf (.ret, pxN r' 0 25 (vI (w ix1)) nilC 0 [])) (.leaf (.normal, pxN r' 0 0 (vI (w ix1)) nilC (IntKind.i64.wrap (0 + 1)) [])))
  (.tt (.leaf (.ret, pxN r' 0 25 (vI (w ix1)) nilC 0 []))))))))))
 (.ff (.ff (.tt (.leaf (.ret, pxN r' 0 25 0 nilC 0 []))))))))) 
def paA (f1 f2 : Nat → Int) (a b : Int) : Nat → C × List Blk
 | 0 => (.sl true 6 0 2 0 1, [⟨false, 152, .flat [ci a, ci b]⟩])
 | m + 1 => (.sl true 6 0 2 0 (m + 1 + 1), [⟨false, 152, .rows (m + 1 + 1) (tkC (putF f1 (m + 1) a) (putF f2 (m + 1) b))⟩])
noncomputable def apS (S : SkX) : Nat → SkX
 | 0 => S
 | m + 1 => .need (appL m) S
noncomputable def apN (S : SkX) : Nat → SkX
 | 0 => S
 | m + 1 => .nn (.need (appL m) S)
def pxZ (r' : ByteArray) (room : Int) (f1 f2 : Nat → Int) (j : Nat) (a b : Int) : SkX := .leaf (.ret, pxN r' ((j + 1 : Nat) : Int) 25 room (paA f1 f2 a b j).1 ((j + 1 : Nat) : Int) (paA f1 f2 a b j).2)
noncomputable def px1 (r' : ByteArray) (room : Int) (f1 f2 : Nat → Int) (j : Nat) (N : Nat) (w : Nat → ByteArray) (un : SkX) : SkX := .need (in0 N) (.need (Nat.blt (0 + Int.toNat 0) N) (.node ((w (0 + Int.toNat 0)).toList == sLayer.toList)
 (.node (zeN (dn1 N))
  (.node (zeN (dn1 N)) (apS (.ff (.tt (pxZ r' room f1 f2 j 0 0))) j) (.need (in0 (dn1 N)) (.need (Nat.blt ix1 N) (.need (szW (w ix1)) (.need (le1 (dn1 N)) (.tt (apN (.ff (.tt (pxZ r' room f1 f2 j 0 (vI (w ix1))))) j)))))))
  (.need (in0 (dn1 N)) (.need (Nat.blt ix1 N) (.need (szW (w ix1)) (.need (le1 (dn1 N)) (.ff (.node (zeN (dn1 (dn1 N))) (apS (.ff (.tt (pxZ r' room f1 f2 j (vI (w ix1)) 0))) j)
   (.need (in0 (dn1 (dn1 N))) (.need (Nat.blt ix2 N) (.need (szW (w ix2)) (.need (le1 (dn1 (dn1 N))) (.node (!gI (w ix1)) (apN (.ff (.tt (pxZ r' room f1 f2 j (vI (w ix1)) (vI (w ix2))))) j)
    (apS (.node (!(!gI (w ix2))) (.node (!zeN (dn1 (dn1 (dn1 N)))) (pxZ r' room f1 f2 j (vI (w ix1)) (vI (w ix2))) (.leaf (.normal, pxN r' 0 0 room (paA f1 f2 (vI (w ix1)) (vI (w ix2)) j).1 (IntKind.i64.wrap (((j + 1 : Nat) : Int) + 1)) (paA f1 f2 (vI (w ix1)) (vI (w ix2)) j).2)))
     (.tt (pxZ r' room f1 f2 j (vI (w ix1)) (vI (w ix2))))) j)))))))))))))
 (.tt un)))
def pxU (r' : ByteArray) (room : Int) (f1 f2 : Nat → Int) (k : Nat) : SkX := .leaf (.ret, pxN r' (k : Int) 25 (paC room k).1 (paC room k).2 (k : Int) (paT f1 f2 k))
noncomputable def pxS (L r' : ByteArray) (room : Int) (f1 f2 : Nat → Int) (k : Nat) : SkX := .nn (.need (decide ((⟨#[10]⟩ : ByteArray) = nlB) && Nat.ble L.size 1000000000) (.node (wL L)
 (.ff (.need (decide ((bL L).size < 4294967281)) (match k with
  | 0 => px0 vI gI r' (nS (bL L) 32) (fS (bL L) 32)
  | 1 => .need (le1 (nS (bL L) 32)) (.ff (.ff (.tt (px1 vI gI r' room f1 f2 0 (nS (bL L) 32) (fS (bL L) 32) (pxU r' room f1 f2 1)))))
  | m + 2 => .need (le1 (nS (bL L) 32)) (.ff (.ff (.node (decide (((m + 2 : Nat) : Int) > 0)) (px1 vI gI r' room f1 f2 (m + 1) (nS (bL L) 32) (fS (bL L) 32) (pxU r' room f1 f2 (m + 2))) (.ff (.tt (pxU r' room f1 f2 (m + 2))))))))))
 (.tt (.tt (pxU r' room f1 f2 k)))))
noncomputable def paX (q : X × St) : Tree ((X × St) ⊕ (List Bool × St)) := evOr2 (paRe nS fS vI gI wL bL tE) true (bodyOf Tryz.f69) paPath [] [2, 3, 4] (paB s) q
theorem pa_into (r L r' : ByteArray) (room : Int) (f1 f2 : Nat → Int) : ∀ k, paR nS fS vI gI wL bL tE s r L r' room f1 f2 k = into (paR nS fS vI gI wL bL tE s r L r' room f1 f2 k) (pxS nS fS vI gI wL bL L r' room f1 f2 k)
 | 0 => by kernel_rfl
 | 1 => by kernel_rfl
 | m + 2 => by kernel_rfl
theorem pa_fits (r L r' : ByteArray) (room : Int) (f1 f2 : Nat → Int) : ∀ k, fits (paR nS fS vI gI wL bL tE s r L r' room f1 f2 k) (pxS nS fS vI gI wL bL L r' room f1 f2 k) = true
 | 0 => by kernel_rfl
 | 1 => by kernel_rfl
 | m + 2 => by kernel_rfl
end
end Go.Ev
namespace Go.Ev
open Go Go.RowKit Go.Proofs
def vP (b : ByteArray) : Int := (Proofs.intP b).1
def gP (b : ByteArray) : Bool := (Proofs.intP b).2
def wd (b : ByteArray) (j : Nat) : ByteArray := wrdF b 32 j
def okB (k : Nat) (b : ByteArray) : Bool := match k with
 | 0 => Nat.beq (wrdN b 32) 2 && ((wd b 0).toList == sTank.toList && gP (wd b 1))
 | _ + 1 => Nat.beq (wrdN b 32) 3 && ((wd b 0).toList == sLayer.toList && (gP (wd b 1) && gP (wd b 2)))
def lnOk (s : ByteArray) (k : Nat) : Bool := Nat.blt k (cntA s 10) && okB k (Proofs.part s 10 k)
def badK (g : Nat → Bool) : Nat → Nat → Option Nat
 | 0, _ => none
 | m + 1, k => match g k with
  | true => badK g m (k + 1)
  | false => some k
theorem badK_none {g : Nat → Bool} : ∀ {m k : Nat}, (∀ j, k ≤ j → j < k + m → g j = true) → badK g m k = none
 | 0, _, _ => rfl
 | m + 1, k, h => by
  unfold badK
  rw [h k (Nat.le_refl _) (by omega)]
  exact badK_none fun j h1 h2 => h j (by omega) (by omega)
theorem badK_some {g : Nat → Bool} : ∀ {m k i : Nat}, (∀ j, k ≤ j → j < i → g j = true) → k ≤ i → i < k + m → g i = false → badK g m k = some i
 | 0, k, i, _, h1, h2, _ => by omega
 | m + 1, k, i, h, h1, h2, h3 => by
  unfold badK
  by_cases e : k = i
  ·subst e; rw [h3]
  ·rw [h k (Nat.le_refl _) (by omega)]
   exact badK_some (fun j a b => h j (by omega) b) (by omega) (by omega) h3
def badAt (s : ByteArray) : Option Nat := badK (lnOk s) (linN s) 0
def goodK (s : ByteArray) (k : Nat) : Prop := ∀ j, j < k → lnOk s j = true
theorem goodK_zero (s : ByteArray) : goodK s 0 := fun j h => by omega
theorem goodK_succ {s : ByteArray} {k : Nat} (h : goodK s k) (hk : lnOk s k = true) : goodK s (k + 1) := fun j hj => by
 by_cases e : j = k
 ·subst e; exact hk
 ·exact h j (by omega)
theorem bad_at {s : ByteArray} {k : Nat} (h : goodK s k) (hk : k < linN s) (hb : lnOk s k = false) : badAt s = some k := badK_some (fun j _ h2 => h j h2) (Nat.zero_le _) (by omega) hb
theorem bad_no {s : ByteArray} (h : goodK s (linN s)) : badAt s = none := badK_none fun j _ h2 => h j (by omega)
theorem lnOk_last {s : ByteArray} (h : beg s 10 0 (cntA s 10) < s.size) : lnOk s (cntA s 10) = false := by
 unfold lnOk
 have : Nat.blt (cntA s 10) (cntA s 10) = false := by
  cases h : Nat.blt (cntA s 10) (cntA s 10) with
  | false => rfl
  | true => rw [Nat.blt_eq] at h; omega
 rw [this]; rfl
theorem lin_right {s : ByteArray} (h : badAt s = none) : linN s = cntA s 10 ∧ ¬ beg s 10 0 (cntA s 10) < s.size := by
 by_cases hb : beg s 10 0 (cntA s 10) < s.size
 ·have hl : linN s = cntA s 10 + 1 := by unfold linN; rw [if_pos hb]
  have : ∀ (m k i : Nat), badK (lnOk s) m k = none → k ≤ i → i < k + m → lnOk s i = true := by
   intro m
   induction m with
   | zero => intro k i _ h1 h2; omega
   | succ m ih =>
    intro k i h h1 h2
    unfold badK at h
    split at h
    ·rename_i hk
     by_cases e : k = i
     ·subst e; exact hk
     ·exact ih (k + 1) i h (by omega) (by omega)
    ·cases h
  have h2 := this _ _ (cntA s 10) h (Nat.zero_le _) (by omega)
  rw [lnOk_last hb] at h2
  cases h2
 ·exact ⟨by unfold linN; rw [if_neg hb], hb⟩
def rmP (s : ByteArray) : Int := vP (wd (Proofs.part s 10 0) 1)
def f1P (s : ByteArray) (j : Nat) : Int := vP (wd (Proofs.part s 10 (j + 1)) 1)
def f2P (s : ByteArray) (j : Nat) : Int := vP (wd (Proofs.part s 10 (j + 1)) 2)
def nlP (s : ByteArray) : Nat := cntA s 10 - 1
theorem wrdN_pos (b : ByteArray) : 1 ≤ wrdN b 32 := by rw [wrdN_is]; omega
theorem get_ext {s : ByteArray} {p q k : Nat} (hq : q ≤ s.size) (hk : p + k < q) : (s.extract p q).data.toList[k]? = some (s.get! (p + k)) := by
 rw [ByteArray.data_extract, Array.toList_extract, List.extract_eq_take_drop, List.getElem?_take, if_pos (by omega), List.getElem?_drop]
 exact get_list (by omega)
theorem line_in {s : ByteArray} {k : Nat} (hk : k < cntA s 10) : whL (headL (restL s k)) = true ∧ bodL (headL (restL s k)) = Proofs.part s 10 k := by
 have h1 := part_in s 10 hk
 have h2 := nxt_ge s 10 (beg s 10 0 k)
 have h3 := (nxt_spec s 10 (p := beg s 10 0 k) (by omega)).2.2.2 h1
 rw [head_in hk]
 have hsz : (s.extract (beg s 10 0 k) (nxt s 10 (beg s 10 0 k) + 1)).size = nxt s 10 (beg s 10 0 k) + 1 - beg s 10 0 k := by rw [ByteArray.size_extract]; omega
 constructor
 ·unfold whL
  rw [hsz, ByteArray.extract_extract]
  have e : decide (1 ≤ nxt s 10 (beg s 10 0 k) + 1 - beg s 10 0 k) = true := by simp only [decide_eq_true_eq]; omega
  rw [e, Bool.true_and, beq_iff_eq]
  congr 1
  refine ByteArray.ext (Array.toList_inj.1 ?_)
  refine List.ext_getElem? fun j => ?_
  have hmin : min (beg s 10 0 k + (nxt s 10 (beg s 10 0 k) + 1 - beg s 10 0 k)) (nxt s 10 (beg s 10 0 k) + 1) = nxt s 10 (beg s 10 0 k) + 1 := by omega
  have hst : beg s 10 0 k + (nxt s 10 (beg s 10 0 k) + 1 - beg s 10 0 k - 1) = nxt s 10 (beg s 10 0 k) := by omega
  rw [hmin, hst]
  match j with
  | 0 =>
   rw [get_ext (by omega) (by omega), Nat.add_zero, h3]
   rfl
  | j + 1 =>
   rw [List.getElem?_eq_none, List.getElem?_eq_none]
   ·show 1 ≤ _; omega
   ·have : (s.extract (nxt s 10 (beg s 10 0 k)) (nxt s 10 (beg s 10 0 k) + 1)).data.toList.length = (s.extract (nxt s 10 (beg s 10 0 k)) (nxt s 10 (beg s 10 0 k) + 1)).size := Array.length_toList
    rw [this, ByteArray.size_extract]
    omega
 ·unfold bodL
  rw [hsz, ByteArray.extract_extract]
  unfold Proofs.part
  congr 1
  omega
theorem line_last {s : ByteArray} : whL (headL (restL s (cntA s 10))) = false := by
 obtain ⟨h1, h2⟩ := part_last s 10
 have h3 := (nxt_spec s 10 h2).2.2.1
 rw [head_last]
 unfold whL Proofs.part
 rw [h1]
 by_cases hz : beg s 10 0 (cntA s 10) < s.size
 ·have hsz : (s.extract (beg s 10 0 (cntA s 10)) s.size).size = s.size - beg s 10 0 (cntA s 10) := by rw [ByteArray.size_extract]; omega
  rw [hsz, ByteArray.extract_extract]
  have hmin : min (beg s 10 0 (cntA s 10) + (s.size - beg s 10 0 (cntA s 10))) s.size = s.size := by omega
  have hst : beg s 10 0 (cntA s 10) + (s.size - beg s 10 0 (cntA s 10) - 1) = s.size - 1 := by omega
  rw [hmin, hst]
  cases hb : (s.extract (s.size - 1) s.size).toList == nlB.toList with
  | false => exact Bool.and_false _
  | true =>
   exfalso
   rw [beq_iff_eq] at hb
   rw [ByteArray.toList_eq, ByteArray.toList_eq] at hb
   have h4 : (s.extract (s.size - 1) s.size).data.toList[0]? = some (s.get! (s.size - 1 + 0)) := get_ext (Nat.le_refl _) (by omega)
   rw [hb] at h4
   have h5 : (10 : UInt8) = s.get! (s.size - 1 + 0) := by
    have h6 : nlB.data.toList[0]? = some 10 := rfl
    rw [h6] at h4
    exact Option.some.inj h4
   exact h3 (s.size - 1) (by omega) (by rw [h1]; omega) h5.symm
 ·have hsz : (s.extract (beg s 10 0 (cntA s 10)) s.size).size = 0 := by rw [ByteArray.size_extract]; omega
  rw [hsz]
  rfl
end Go.Ev
namespace Go.Ev
open Go Go.RowKit Go.Proofs
set_option maxRecDepth 100000
theorem wd_size (b : ByteArray) (j : Nat) : (wrdF b 32 j).size ≤ b.size := by
 by_cases h : j ≤ cntA b 32
 ·rw [wrdF_is b 32 h]
  unfold Proofs.part
  rw [ByteArray.size_extract]
  omega
 ·have hl := Lib.splitB_all ⟨#[(32 : UInt8)]⟩ (Nat.le_refl 1) 0 _ b rfl
  have hc : cntA b 32 = Lib.countB b ⟨#[32]⟩ := by unfold cntA cntP; rw [ext_all]
  unfold wrdF
  rw [List.getD_eq_getElem?_getD, List.getElem?_eq_none (by omega)]
  exact Nat.zero_le _
theorem dn1_eq (n : Nat) : dn1 n = n - 1 := by unfold dn1; rw [Int.toNat_natCast]; rfl
theorem zeN_iff (n : Nat) : zeN n = true ↔ n = 0 := by
 unfold zeN
 rw [beq_iff_eq]
 omega
theorem zeN_no {n : Nat} (h : zeN n = false) : n ≠ 0 := fun e => by rw [(zeN_iff n).2 e] at h; cases h
theorem le1_ok {n : Nat} (h : 1 ≤ n) : le1 n = true := by
 unfold le1
 simp only [Bool.and_eq_true, decide_eq_true_eq]
 omega
theorem in0_ok {n : Nat} (h : 1 ≤ n) : in0 n = true := by
 unfold in0
 simp only [Bool.and_eq_true, decide_eq_true_eq]
 omega
theorem szW_ok {b w : ByteArray} (hb : b.size ≤ 4096) (hw : w.size ≤ b.size) : szW w = true := by
 unfold szW
 simp only [decide_eq_true_eq]
 omega
theorem blt_ok {a b : Nat} (h : a < b) : Nat.blt a b = true := by rw [Nat.blt_eq]; exact h
theorem not2t {x : Bool} (h : (!(!x)) = true) : x = true := by cases x <;> simp_all
theorem not2f {x : Bool} (h : (!(!x)) = false) : x = false := by cases x <;> simp_all
theorem not1t {x : Bool} (h : (!x) = true) : x = false := by cases x <;> simp_all
theorem not1f {x : Bool} (h : (!x) = false) : x = true := by cases x <;> simp_all
theorem beq_no {a b : Nat} (h : a ≠ b) : Nat.beq a b = false := by
 cases e : Nat.beq a b with
 | false => rfl
 | true => exact absurd (Nat.eq_of_beq_eq_true e) h
theorem okB_one (j : Nat) (b : ByteArray) : okB (j + 1) b = (Nat.beq (wrdN b 32) 3 && ((wd b 0).toList == sLayer.toList && (gP (wd b 1) && gP (wd b 2)))) := rfl
theorem okB_zero (b : ByteArray) : okB 0 b = (Nat.beq (wrdN b 32) 2 && ((wd b 0).toList == sTank.toList && gP (wd b 1))) := rfl
theorem appL_ok {m : Nat} (h : m ≤ 1000000000) : appL m = true := by
 have d0 : ((Tryz.prog.info? 152).map (·.bytes)).getD 0 = 16 := by kernel_rfl
 unfold appL
 rw [ble_self, d0]
 have h1 : Nat.blt ((m + 1 + 1) * 16) 140737488355328 = true := by rw [Nat.blt_eq]; omega
 have h2 : Nat.ble (m + 1 + 1) 9223372036854775807 = true := by rw [Nat.ble_eq]; omega
 rw [h1, h2]; rfl
section
variable {b : ByteArray} (hb : b.size ≤ 4096) {ψ : X × St → Prop}
include hb
theorem px0_ok (r' : ByteArray) (hbad : ∀ room, okB 0 b = false → ψ (.ret, pxN r' 0 25 room nilC 0 [])) (hok : okB 0 b = true → ψ (.normal, pxN r' 0 0 (vP (wd b 1)) nilC (IntKind.i64.wrap (0 + 1)) [])) : SkLeads ψ (px0 vP gP r' (wrdN b 32) (wrdF b 32)) := by
 have hp := wrdN_pos b
 unfold px0
 refine sk_need (le1_ok hp) (sk_tt (sk_need (in0_ok hp) (sk_need (blt_ok (show 0 < _ by omega)) (sk_either (fun h1 => ?_) fun h1 => sk_ff (sk_ff (sk_tt (sk_leaf (hbad _ ?_))))))))
 ·have h1 : ((wd b 0).toList == sTank.toList) = true := h1
  refine sk_either (fun h2 => sk_ff (sk_tt (sk_leaf (hbad _ ?_)))) fun h2 => ?_
  ·have h2 := (zeN_iff _).1 h2
   rw [dn1_eq] at h2
   rw [okB_zero]
   have : Nat.beq (wrdN b 32) 2 = false := by rw [show wrdN b 32 = 1 by omega]; rfl
   rw [this]; rfl
  ·have h2 := zeN_no h2
   rw [dn1_eq] at h2
   have hN : 2 ≤ wrdN b 32 := by omega
   refine sk_need (in0_ok (by rw [dn1_eq]; omega)) (sk_need (blt_ok (show 1 < _ by omega)) (sk_need (szW_ok hb (wd_size b _)) (sk_need (le1_ok (by rw [dn1_eq]; omega)) (sk_ff (sk_either (fun h3 => ?_) fun h3 => sk_tt (sk_leaf (hbad _ ?_)))))))
   ·have h3 : gP (wd b 1) = true := not2t h3
    refine sk_either (fun h4 => sk_leaf (hbad _ ?_)) fun h4 => sk_leaf (hok ?_)
    ·have h4 : zeN (dn1 (dn1 (wrdN b 32))) = false := by simpa using h4
     have h4 := zeN_no h4
     rw [dn1_eq, dn1_eq] at h4
     rw [okB_zero]
     have : Nat.beq (wrdN b 32) 2 = false := beq_no (by omega)
     rw [this]; rfl
    ·have h4 : zeN (dn1 (dn1 (wrdN b 32))) = true := by simpa using h4
     have h4 := (zeN_iff _).1 h4
     rw [dn1_eq, dn1_eq] at h4
     rw [okB_zero]
     rw [show wrdN b 32 = 2 by omega, h1, h3]; rfl
   ·have h3 : gP (wd b 1) = false := not2f h3
    rw [okB_zero]
    rw [h3, Bool.and_false, Bool.and_false]
 ·have h1 : ((wd b 0).toList == sTank.toList) = false := h1
  rw [okB_zero]
  rw [h1, Bool.false_and, Bool.and_false]
theorem px1_ok (r' : ByteArray) (room : Int) (f1 f2 : Nat → Int) (j : Nat) (hj : j ≤ 1000000) (un : SkX) (hbad : ∀ x y, okB (j + 1) b = false → ψ (.ret, pxN r' ((j + 1 : Nat) : Int) 25 room (paA f1 f2 x y j).1 ((j + 1 : Nat) : Int) (paA f1 f2 x y j).2)) (hun : okB (j + 1) b = false → SkLeads ψ un)
  (hok : okB (j + 1) b = true → ψ (.normal, pxN r' 0 0 room (paA f1 f2 (vP (wd b 1)) (vP (wd b 2)) j).1 (IntKind.i64.wrap (((j + 1 : Nat) : Int) + 1)) (paA f1 f2 (vP (wd b 1)) (vP (wd b 2)) j).2)) : SkLeads ψ (px1 vP gP r' room f1 f2 j (wrdN b 32) (wrdF b 32) un) := by
 have hp := wrdN_pos b
 have hap : ∀ {S : SkX}, SkLeads ψ S → SkLeads ψ (apS S j) := fun {S} h => by
  cases j with
  | zero => exact h
  | succ m => exact sk_need (appL_ok (by omega)) h
 have hapN : ∀ {S : SkX}, SkLeads ψ S → SkLeads ψ (apN S j) := fun {S} h => by
  cases j with
  | zero => exact h
  | succ m => exact sk_nn (sk_need (appL_ok (by omega)) h)
 have no3 : wrdN b 32 ≠ 3 → okB (j + 1) b = false := fun h => by
  rw [okB_one]
  rw [show Nat.beq (wrdN b 32) 3 = false from beq_no h]; rfl
 unfold px1
 refine sk_need (in0_ok hp) (sk_need (blt_ok (show 0 < _ by omega)) (sk_either (fun h1 => ?_) fun h1 => sk_tt (hun ?_)))
 ·have h1 : ((wd b 0).toList == sLayer.toList) = true := h1
  refine sk_either (fun h2 => sk_either (fun _ => hap (sk_ff (sk_tt (sk_leaf (hbad _ _ (no3 ?_)))))) fun h3 => ?_) fun h2 => ?_
  ·have h2 := (zeN_iff _).1 h2
   rw [dn1_eq] at h2
   omega
  ·rw [h2] at h3; cases h3
  ·have h2 := zeN_no h2
   rw [dn1_eq] at h2
   refine sk_need (in0_ok (by rw [dn1_eq]; omega)) (sk_need (blt_ok (show 1 < _ by omega)) (sk_need (szW_ok hb (wd_size b _)) (sk_need (le1_ok (by rw [dn1_eq]; omega)) (sk_ff (sk_either (fun h3 => hap (sk_ff (sk_tt (sk_leaf (hbad _ _ (no3 ?_)))))) fun h3 => ?_)))))
   ·have h3 := (zeN_iff _).1 h3
    rw [dn1_eq, dn1_eq] at h3
    omega
   ·have h3 := zeN_no h3
    rw [dn1_eq, dn1_eq] at h3
    refine sk_need (in0_ok (by rw [dn1_eq, dn1_eq]; omega)) (sk_need (blt_ok (show 2 < _ by omega)) (sk_need (szW_ok hb (wd_size b _)) (sk_need (le1_ok (by rw [dn1_eq, dn1_eq]; omega)) (sk_either (fun h4 => hapN (sk_ff (sk_tt (sk_leaf (hbad _ _ ?_))))) fun h4 => hap (sk_either (fun h5 => ?_) fun h5 => sk_tt (sk_leaf (hbad _ _ ?_)))))))
    ·have h4 : gP (wd b 1) = false := not1t h4
     rw [okB_one]
     rw [h4, Bool.false_and, Bool.and_false, Bool.and_false]
    ·have h4 : gP (wd b 1) = true := not1f h4
     have h5 : gP (wd b 2) = true := not2t h5
     refine sk_either (fun h6 => sk_leaf (hbad _ _ (no3 ?_))) fun h6 => sk_leaf (hok ?_)
     ·have h6 : zeN (dn1 (dn1 (dn1 (wrdN b 32)))) = false := by simpa using h6
      have h6 := zeN_no h6
      rw [dn1_eq, dn1_eq, dn1_eq] at h6
      omega
     ·have h6 : zeN (dn1 (dn1 (dn1 (wrdN b 32)))) = true := by simpa using h6
      have h6 := (zeN_iff _).1 h6
      rw [dn1_eq, dn1_eq, dn1_eq] at h6
      rw [okB_one]
      rw [show wrdN b 32 = 3 by omega, h1, h4, h5]; rfl
    ·have h5 : gP (wd b 2) = false := not2f h5
     rw [okB_one]
     rw [h5, Bool.and_false, Bool.and_false, Bool.and_false]
 ·have h1 : ((wd b 0).toList == sLayer.toList) = false := h1
  rw [okB_one]
  rw [h1, Bool.false_and, Bool.and_false]
end
section
variable (s : ByteArray)
def paHd (k : Nat) : St := paH (restL s k) (rmP s) (f1P s) (f2P s) k
def PaBad (q : X × St) : Prop := ∃ k r room c tb, badAt s = some k ∧ (tb = [] ∨ ∃ B, tb = [B]) ∧ q = (.ret, pxN r (k : Int) 25 room c (k : Int) tb)
def PaEnd (q : X × St) : Prop := (q = (.normal, paHd s (linN s)) ∧ badAt s = none) ∨ PaBad s q
def PaRnd (k : Nat) (q : X × St) : Prop := match q.1 with | .normal => q.2.Le (paHd s (k + 1)) ∧ goodK s (k + 1) | _ => PaEnd s q
theorem rnd_bad {k : Nat} {r : ByteArray} {room : Int} {c : C} {tb : List Blk} (h : badAt s = some k) (ht : tb = [] ∨ ∃ B, tb = [B]) : PaRnd s k (.ret, pxN r (k : Int) 25 room c (k : Int) tb) := .inr ⟨k, r, room, c, tb, h, ht, rfl⟩
theorem rnd_bad0 {r : ByteArray} {room : Int} {c : C} {tb : List Blk} (h : badAt s = some 0) (ht : tb = [] ∨ ∃ B, tb = [B]) : PaRnd s 0 (.ret, pxN r 0 25 room c 0 tb) := by
 have e : (0 : Int) = ((0 : Nat) : Int) := rfl
 refine .inr ⟨0, r, room, c, tb, h, ht, ?_⟩
 rw [← e]
theorem paT_one (f1 f2 : Nat → Int) : ∀ k, paT f1 f2 k = [] ∨ ∃ B, paT f1 f2 k = [B]
 | 0 => .inl rfl
 | 1 => .inl rfl
 | m + 2 => .inr ⟨_, rfl⟩
theorem paA_one (f1 f2 : Nat → Int) (a b : Int) : ∀ j, (paA f1 f2 a b j).2 = [] ∨ ∃ B, (paA f1 f2 a b j).2 = [B]
 | 0 => .inr ⟨_, rfl⟩
 | m + 1 => .inr ⟨_, rfl⟩
theorem rnd_ok0 (r' : ByteArray) (room : Int) (f1 f2 : Nat → Int) : (pxN r' 0 0 room nilC (IntKind.i64.wrap (0 + 1)) []).Le (paH r' room f1 f2 1) := by
 have e : IntKind.i64.wrap (0 + 1) = ((1 : Nat) : Int) := by decide
 rw [e]
 exact St.Le.refl _
theorem rnd_ok1 (r' : ByteArray) (room : Int) (f1 f2 : Nat → Int) {a b : Int} : ∀ (j : Nat), j ≤ 1000000 → a = f1 j → b = f2 j → (pxN r' 0 0 room (paA f1 f2 a b j).1 (IntKind.i64.wrap (((j + 1 : Nat) : Int) + 1)) (paA f1 f2 a b j).2).Le (paH r' room f1 f2 (j + 2))
 | 0, _, ha, hb => by
  rw [wrap_succ (by omega)]
  exact le_news (show 0 + 7 ≤ lim by decide) ⟨⟨rfl, fun _ _ _ h => h⟩, ⟨rfl, fun _ _ _ h => h⟩, ⟨rfl, fun _ _ _ h => h⟩, ⟨rfl, fun _ _ _ h => h⟩, ⟨rfl, fun _ _ _ h => h⟩, ⟨rfl, fun _ _ _ h => h⟩, ⟨rfl, two_rows ha hb⟩, trivial⟩
 | m + 1, hj, ha, hb => by
  subst ha; subst hb
  rw [wrap_succ (by omega)]
  show (pxN r' 0 0 room (.sl true 6 0 2 0 (m + 1 + 1)) ((m + 1 + 1 + 1 : Nat) : Int) [⟨false, 152, .rows (m + 1 + 1) (tkC (putF f1 (m + 1) (f1 (m + 1))) (putF f2 (m + 1) (f2 (m + 1))))⟩]).Le _
  rw [putF_self, putF_self]
  exact St.Le.refl _
noncomputable def pxK (r' : ByteArray) (room : Int) (f1 f2 : Nat → Int) (N : Nat) (w : Nat → ByteArray) : Nat → SkX
 | 0 => px0 vP gP r' N w
 | 1 => .need (le1 N) (.ff (.ff (.tt (px1 vP gP r' room f1 f2 0 N w (pxU r' room f1 f2 1)))))
 | m + 2 => .need (le1 N) (.ff (.ff (.node (decide (((m + 2 : Nat) : Int) > 0)) (px1 vP gP r' room f1 f2 (m + 1) N w (pxU r' room f1 f2 (m + 2))) (.ff (.tt (pxU r' room f1 f2 (m + 2)))))))
theorem pxK0 {b r' : ByteArray} (hb : b.size ≤ 4096) (e : b = Proofs.part s 10 (0)) (hbad : okB (0) b = false → badAt s = some (0)) (hgood : okB (0) b = true → goodK s (0 + 1)) (hle : ∀ st : St, st.Le (paH r' (rmP s) (f1P s) (f2P s) (0 + 1)) → st.Le (paHd s (0 + 1))) :
  SkLeads (PaRnd s (0)) (px0 vP gP r' (wrdN b 32) (wrdF b 32)) := by
 refine px0_ok hb r' (fun room h => rnd_bad0 s (hbad h) (.inl rfl)) fun h => ?_
 refine ⟨hle _ ?_, hgood h⟩
 rw [show vP (wd b 1) = rmP s by rw [e]; rfl]
 exact rnd_ok0 _ _ _ _
theorem pxK1 {b r' : ByteArray} (hb : b.size ≤ 4096) (e : b = Proofs.part s 10 (1)) (hbad : okB (1) b = false → badAt s = some (1)) (hgood : okB (1) b = true → goodK s (1 + 1)) (hle : ∀ st : St, st.Le (paH r' (rmP s) (f1P s) (f2P s) (1 + 1)) → st.Le (paHd s (1 + 1))) :
  SkLeads (PaRnd s (1)) (.need (le1 (wrdN b 32)) (.ff (.ff (.tt (px1 vP gP r' (rmP s) (f1P s) (f2P s) 0 (wrdN b 32) (wrdF b 32) (pxU r' (rmP s) (f1P s) (f2P s) 1)))))) := by
 refine sk_need (le1_ok (wrdN_pos _)) (sk_ff (sk_ff (sk_tt ?_)))
 refine px1_ok hb _ _ _ _ 0 (by omega) _ (fun x y h => rnd_bad s (hbad h) (paA_one _ _ _ _ 0)) (fun h => sk_leaf (rnd_bad s (hbad h) (.inl rfl))) fun h => ?_
 exact ⟨hle _ (rnd_ok1 r' (rmP s) (f1P s) (f2P s) 0 (by omega) (by rw [e]; rfl) (by rw [e]; rfl)), hgood h⟩
theorem pxK2 {b r' : ByteArray} (hb : b.size ≤ 4096) (m : Nat) (hm : m + 2 ≤ 1000000) (e : b = Proofs.part s 10 (m + 2)) (hbad : okB (m + 2) b = false → badAt s = some (m + 2)) (hgood : okB (m + 2) b = true → goodK s (m + 2 + 1)) (hle : ∀ st : St, st.Le (paH r' (rmP s) (f1P s) (f2P s) (m + 2 + 1)) → st.Le (paHd s (m + 2 + 1))) :
  SkLeads (PaRnd s (m + 2)) (.need (le1 (wrdN b 32)) (.ff (.ff (.node (decide (((m + 2 : Nat) : Int) > 0)) (px1 vP gP r' (rmP s) (f1P s) (f2P s) (m + 1) (wrdN b 32) (wrdF b 32) (pxU r' (rmP s) (f1P s) (f2P s) (m + 2))) (.ff (.tt (pxU r' (rmP s) (f1P s) (f2P s) (m + 2)))))))) := by
 refine sk_need (le1_ok (wrdN_pos _)) (sk_ff (sk_ff (sk_yes (by simp only [decide_eq_true_eq]; omega) ?_)))
 refine px1_ok hb _ _ _ _ (m + 1) (by omega) _ (fun x y h => rnd_bad s (hbad h) (paA_one _ _ _ _ (m + 1))) (fun h => sk_leaf (rnd_bad s (hbad h) (.inr ⟨_, rfl⟩))) fun h => ?_
 exact ⟨hle _ (rnd_ok1 r' (rmP s) (f1P s) (f2P s) (m + 1) (by omega) (by rw [e]; rfl) (by rw [e]; rfl)), hgood h⟩
theorem pxK_ok {b r' : ByteArray} (hb : b.size ≤ 4096) (k : Nat) (hk : k ≤ 1000000) (e : b = Proofs.part s 10 k) (hbad : okB k b = false → badAt s = some k) (hgood : okB k b = true → goodK s (k + 1)) (hle : ∀ st : St, st.Le (paH r' (rmP s) (f1P s) (f2P s) (k + 1)) → st.Le (paHd s (k + 1))) : SkLeads (PaRnd s k) (pxK r' (rmP s) (f1P s) (f2P s) (wrdN b 32) (wrdF b 32) k) := by
 cases k with
 | zero => exact pxK0 s hb e hbad hgood hle
 | succ k =>
  cases k with
  | zero => exact pxK1 s hb e hbad hgood hle
  | succ m => exact pxK2 s hb m hk e hbad hgood hle
theorem pa_round (hs : s.size ≤ 4096) (k : Nat) (hk : k < linN s) (hg : goodK s k) :
  (paR wrdN wrdF vP gP whL bodL tankE s (restL s k) (headL (restL s k)) (restL s (k + 1)) (rmP s) (f1P s) (f2P s) k).All (PaRnd s k) := by
 refine all_into (pa_into wrdN wrdF vP gP whL bodL tankE s _ _ _ _ _ _ k) (pa_fits wrdN wrdF vP gP whL bodL tankE s _ _ _ _ _ _ k) (SkLeads.all ?_)
 have hlL : (headL (restL s k)).size ≤ 1000000000 := by
  have h1 := restL_le s k
  have h2 : (headL (restL s k)).size ≤ (restL s k).size := by
   unfold headL
   split
   ·rw [ByteArray.size_extract]; omega
   ·exact Nat.le_refl _
  omega
 have hneed : (decide ((⟨#[10]⟩ : ByteArray) = nlB) && Nat.ble (headL (restL s k)).size 1000000000) = true := by
  rw [Bool.and_eq_true, decide_eq_true_eq, Nat.ble_eq]
  exact ⟨rfl, hlL⟩
 have hkl : linN s ≤ cntA s 10 + 1 := by unfold linN; split <;> omega
 refine sk_nn (sk_need hneed (sk_either (fun hw => ?_) fun hw => sk_tt (sk_tt (sk_leaf (rnd_bad s ?_ (paT_one _ _ k))))))
 ·have hkc : k < cntA s 10 := by
   rcases Nat.lt_or_ge k (cntA s 10) with h | h
   ·exact h
   ·have e : k = cntA s 10 := by omega
    subst e
    rw [line_last] at hw
    cases hw
  obtain ⟨_, hb⟩ := line_in hkc
  have hbs : (bodL (headL (restL s k))).size ≤ 4096 := by
   rw [hb]; unfold Proofs.part; rw [ByteArray.size_extract]; omega
  have hln : lnOk s k = okB k (Proofs.part s 10 k) := by unfold lnOk; rw [blt_ok hkc, Bool.true_and]
  have hbad : okB k (Proofs.part s 10 k) = false → badAt s = some k := fun h => bad_at hg hk (by rw [hln]; exact h)
  have hgood : okB k (Proofs.part s 10 k) = true → goodK s (k + 1) := fun h => goodK_succ hg (by rw [hln]; exact h)
  have hks : k ≤ 1000000 := by
   have h1 : cntA s 10 ≤ s.size := by rw [← mAt_end]; exact mAt_le s 10 _
   omega
  rw [hb] at hbs ⊢
  refine sk_ff (sk_need (by simp only [decide_eq_true_eq]; omega) ?_)
  exact pxK_ok s hbs k hks rfl hbad hgood fun _ h => h
 ·have e : k = cntA s 10 := by
   rcases Nat.lt_or_ge k (cntA s 10) with h | h
   ·rw [(line_in h).1] at hw; cases hw
   ·omega
  have hlast : beg s 10 0 (cntA s 10) < s.size := by
   unfold linN at hk
   split at hk
   ·assumption
   ·omega
  subst e
  exact bad_at hg hk (lnOk_last hlast)
end
end Go.Ev
namespace Go.Ev
open Go Go.RowKit Go.Proofs
set_option maxRecDepth 100000
def e0S (s : ByteArray) : Int := firstZ [errIf (decide ((s.size : Int) > 4096)) 26, errIf (s.toList == sNil.toList) 25]
def psE (s : ByteArray) : Int := match e0S s != 0 with
 | true => e0S s
 | false => match badAt s with
  | some _ => 25
  | none => tankE (nlP s) (rmP s) (f1P s) (f2P s)
def psAt (s : ByteArray) : Int := match e0S s != 0 with
 | true => 0
 | false => match badAt s with
  | some k => (k : Int)
  | none => match tankE (nlP s) (rmP s) (f1P s) (f2P s) != 0 with
   | true => (cntA s 10 : Int)
   | false => 0
def errV (a e : Int) : A := .tup [(true, [ci 0, nilC]), (false, [ci a]), (false, [ci e])]
def paV (room : Int) : Nat → A
 | 0 => .tup [(true, [ci room, nilC]), (false, [ci 0]), (false, [ci 0])]
 | m + 1 => .tup [(true, [ci room, .sl true 3 0 2 0 (m + 1)]), (false, [ci 0]), (false, [ci 0])]
def paNw (room : Int) (f1 f2 : Nat → Int) : Nat → List Blk
 | 0 => []
 | m + 1 => [tbox 81 room (.sl true 3 0 2 0 (m + 1)), ⟨false, 3, .flat [ci 0]⟩, ⟨false, 31, .flat [ci 0]⟩, ⟨false, 152, .rows (m + 1) (tkC f1 f2)⟩]
def pzN (room : Int) (c : C) (a e : Int) (tb : List Blk) : St := paN [(2, .one (.ptr 0 0 1 0)), (3, .one (.ptr 1 0 1 0)), (4, .one (.ptr 2 0 1 0))] (tbox 81 room c :: ⟨false, 3, .flat [ci a]⟩ :: ⟨false, 31, .flat [ci e]⟩ :: tb)
section
variable (nS : ByteArray → UInt8 → Nat) (fS : ByteArray → UInt8 → Nat → ByteArray) (vI : ByteArray → Int) (gI : ByteArray → Bool) (wL : ByteArray → Bool) (bL : ByteArray → ByteArray) (tE : Nat → Int → (Nat → Int) → (Nat → Int) → Int) (s : ByteArray)
noncomputable def pzO : Sk ((X × St) ⊕ (List Bool × St)) := .node (e0S s != 0) (.leaf (.inl (.ret, pzN 0 nilC 0 (e0S s) []))) (.leaf (.inr (paPath, paH s 0 (fun _ => 0) (fun _ => 0) 0)))
theorem pzO_into : paO nS fS vI gI wL bL tE s = into (paO nS fS vI gI wL bL tE s) (pzO s) := by kernel_rfl
theorem pzO_fits : fits (paO nS fS vI gI wL bL tE s) (pzO s) = true := by kernel_rfl
theorem paX_bad0 (r : ByteArray) (a e room : Int) (c : C) (k : Int) : paX nS fS vI gI wL bL tE s (.ret, pxN r a e room c k []) = .leaf (.inl (.ret, pzN 0 nilC a e [])) := by kernel_rfl
theorem paX_bad1 (r : ByteArray) (a e room : Int) (c : C) (k : Int) (B : Blk) : paX nS fS vI gI wL bL tE s (.ret, pxN r a e room c k [B]) = .leaf (.inl (.ret, pzN 0 nilC a e [])) := by kernel_rfl
def pzS1 (room : Int) (e : Int) : Sk ((X × St) ⊕ (List Bool × St)) := .node (e != 0) (.leaf (.inl (.ret, pzN 0 nilC 1 e []))) (.leaf (.inl (.ret, pzN room nilC 0 0 [])))
theorem pz1_into (r : ByteArray) (room : Int) (f1 f2 : Nat → Int) : paX nS fS vI gI wL bL tE s (.normal, paH r room f1 f2 1) = into (paX nS fS vI gI wL bL tE s (.normal, paH r room f1 f2 1)) (pzS1 room (tE 0 room (fun _ => 0) (fun _ => 0))) := by kernel_rfl
theorem pz1_fits (r : ByteArray) (room : Int) (f1 f2 : Nat → Int) : fits (paX nS fS vI gI wL bL tE s (.normal, paH r room f1 f2 1)) (pzS1 room (tE 0 room (fun _ => 0) (fun _ => 0))) = true := by kernel_rfl
def pzS2 (m : Nat) (room : Int) (f1 f2 : Nat → Int) (e : Int) : Sk ((X × St) ⊕ (List Bool × St)) := .need (okN (m + 1)) (.node (e != 0) (.leaf (.inl (.ret, pzN 0 nilC ((m + 2 : Nat) : Int) e []))) (.leaf (.inl (.ret, pzN room (.sl true 3 0 2 0 (m + 1)) 0 0 [⟨false, 152, .rows (m + 1) (tkC f1 f2)⟩]))))
theorem pz2_into (r : ByteArray) (room : Int) (f1 f2 : Nat → Int) (m : Nat) : paX nS fS vI gI wL bL tE s (.normal, paH r room f1 f2 (m + 2)) = into (paX nS fS vI gI wL bL tE s (.normal, paH r room f1 f2 (m + 2))) (pzS2 m room f1 f2 (tE (m + 1) room f1 f2)) := by kernel_rfl
theorem pz2_fits (r : ByteArray) (room : Int) (f1 f2 : Nat → Int) (m : Nat) : fits (paX nS fS vI gI wL bL tE s (.normal, paH r room f1 f2 (m + 2))) (pzS2 m room f1 f2 (tE (m + 1) room f1 f2)) = true := by kernel_rfl
end
theorem pz_left (a e : Int) : Left2 Tryz.prog Tryz.f69 (hpT [] [] []) (errV a e) (hpT [] [] []) (.ret, pzN 0 nilC a e []) := left_of (b := true) (by kernel_rfl)
theorem pz_left0 (room : Int) : Left2 Tryz.prog Tryz.f69 (hpT [] [] []) (paV room 0) (hpT [] [] []) (.ret, pzN room nilC 0 0 []) := left_of (b := true) (by kernel_rfl)
theorem pz_left1 (room : Int) (f1 f2 : Nat → Int) (m : Nat) : Left2 Tryz.prog Tryz.f69 (hpT [] [] []) (paV room (m + 1)) (hpT [] [] (paNw room f1 f2 (m + 1))) (.ret, pzN room (.sl true 3 0 2 0 (m + 1)) 0 0 [⟨false, 152, .rows (m + 1) (tkC f1 f2)⟩]) := left_of (b := false) (by kernel_rfl)
theorem tbPa_ok : TabOk Tryz.prog (tabOf (tbPa wrdN wrdF vP gP whL bodL tankE)) := tab_cons (tab_cons (tab_cons (tab_cons tbT1_ok intP_spec) spl_ok) cs_ok) ctw_ok
theorem paCo_eq : paCo = .rangeFunc (.tmp 26) #[27] (rngA paCo) (rngB paCo) := by kernel_rfl
theorem e0_facts {s : ByteArray} (h : (e0S s != 0) = false) : s.size ≤ 4096 ∧ 0 < s.size := by
 have h0 : e0S s = 0 := by simpa using h
 unfold e0S at h0
 obtain ⟨h1, h2⟩ := first0 h0
 obtain ⟨h3, _⟩ := first0 h2
 unfold errIf at h1 h3
 constructor
 ·split at h1
  ·cases h1
  ·rename_i hb
   simp only [decide_eq_false_iff_not] at hb
   omega
 ·split at h3
  ·cases h3
  ·rename_i hb
   exact size_pos_of hb
theorem paH_blk (r : ByteArray) (room : Int) (f1 f2 : Nat → Int) : ∀ k, (paH r room f1 f2 k).hp.blk 0 = some ⟨false, 9, .flat [.lit (.string r)]⟩
 | 0 => by kernel_rfl
 | 1 => by kernel_rfl
 | m + 2 => by kernel_rfl
theorem paH_env (r : ByteArray) (room : Int) (f1 f2 : Nat → Int) (k : Nat) : (paH r room f1 f2 k).env.get D 26 = some (.one (.fn 147 [(0, 0, 1, 0)])) := by kernel_rfl
theorem pa_loop (s : ByteArray) (hs : s.size ≤ 4096) : ComesF Tryz.prog paCo (paB s) (paHd s 0) (PaEnd s) := by
 rw [paCo_eq]
 refine comesF_lines (recT_ok tbPa_ok) rfl rfl 26 27 _ _ 0 9 s (linN s) (fun k hk => lin_pos hk) (lin_end s) (fun k => Nat.le_trans (restL_le s k) (by omega)) paSl (by decide) (by decide) (show 27 < 53 by decide) (paHd s) (goodK s) _ (goodK_zero s) (fun k _ => paH_env _ _ _ _ k) (fun k _ => paH_blk _ _ _ _ k) (fun k hk hg => pa_round s hs k hk hg) fun hg => .inl ⟨rfl, bad_no hg⟩
theorem paHd_zero (s : ByteArray) : paH s 0 (fun _ => 0) (fun _ => 0) 0 = paHd s 0 := by kernel_rfl
theorem pa_loop0 (s : ByteArray) (hs : s.size ≤ 4096) : ComesF Tryz.prog (nthRng (bodyOf Tryz.f69) paPath) (paB s) (paH s 0 (fun _ => 0) (fun _ => 0) 0) (PaEnd s) := by
 rw [paHd_zero]
 exact pa_loop s hs
theorem wN_pos {s : ByteArray} (hn : badAt s = none) (h0 : 0 < s.size) : linN s = cntA s 10 ∧ 1 ≤ cntA s 10 := by
 obtain ⟨h1, h2⟩ := lin_right hn
 refine ⟨h1, ?_⟩
 rcases Nat.eq_zero_or_pos (cntA s 10) with h | h
 ·rw [h] at h2
  exact absurd h0 h2
 ·exact h
theorem pa_call (s : ByteArray) (V : A) (H : Hp) (he : psE s ≠ 0 → V = errV (psAt s) (psE s) ∧ H = hpT [] [] []) (h0 : psE s = 0 → V = paV (rmP s) (nlP s) ∧ H = hpT [] [] (paNw (rmP s) (f1P s) (f2P s) (nlP s))) :
  CallAt Tryz.prog 69 [.one (.lit (.string s))] (hpT [] [] []) V H := by
 refine call_baseR (recT_ok tbPa_ok) (c := bodyOf Tryz.f69) (fn := Tryz.f69) Tryz.func69 (by kernel_rfl) (by kernel_rfl) (false, false) 1 paSl [2, 3, 4] (sB := paB s) (by kernel_rfl) (t := paO wrdN wrdF vP gP whL bodL tankE s) (by delta paO; rfl) (all_into (pzO_into _ _ _ _ _ _ _ s) (pzO_fits _ _ _ _ _ _ _ s) (SkLeads.all ?_))
 refine sk_either (fun h => sk_leaf (cutR_dn ?_)) fun h => ?_
 ·have e1 : psE s = e0S s := by unfold psE; rw [h]
  have e2 : psAt s = 0 := by unfold psAt; rw [h]
  obtain ⟨rfl, rfl⟩ := he (by rw [e1]; simpa using h)
  rw [e1, e2]
  exact pz_left _ _
 ·obtain ⟨hs, hp⟩ := e0_facts h
  refine sk_leaf ⟨PaEnd s, true, [], [2, 3, 4], pa_loop0 s hs, fun q hq => Leads.all ?_⟩
  rcases hq with ⟨rfl, hn⟩ | ⟨k, r, room, c, tb, hb, htb, rfl⟩
  ·obtain ⟨hl, hc⟩ := wN_pos hn hp
   have e1 : psE s = tankE (nlP s) (rmP s) (f1P s) (f2P s) := by unfold psE; rw [h, hn]
   have e2 : psAt s = match tankE (nlP s) (rmP s) (f1P s) (f2P s) != 0 with | true => (cntA s 10 : Int) | false => 0 := by unfold psAt; rw [h, hn]
   have hnl : nlP s + 1 = cntA s 10 := by unfold nlP; omega
   rw [hl, ← hnl]
   rw [← hnl] at e2
   unfold paHd
   revert he h0 e1 e2
   generalize nlP s = n
   generalize rmP s = room
   generalize f1P s = g1
   generalize f2P s = g2
   generalize restL s (n + 1) = r
   intro he h0 e1 e2
   cases n with
   | zero =>
    refine leads_in (show _ = paX wrdN wrdF vP gP whL bodL tankE s (.normal, paH r room g1 g2 1) by delta paX; rfl) (pz1_into _ _ _ _ _ _ _ s r room g1 g2) (pz1_fits _ _ _ _ _ _ _ s r room g1 g2) (sk_either (fun h2 => sk_leaf (cutR_dn ?_)) fun h2 => sk_leaf (cutR_dn ?_))
    ·have h3 : (tankE 0 room g1 g2 != 0) = true := h2
     rw [h3] at e2
     obtain ⟨rfl, rfl⟩ := he (by rw [e1]; simpa using h3)
     rw [e1, e2]
     exact pz_left _ _
    ·have h3 : (tankE 0 room g1 g2 != 0) = false := h2
     obtain ⟨rfl, rfl⟩ := h0 (by rw [e1]; simpa using h3)
     exact pz_left0 room
   | succ m =>
    refine leads_in (show _ = paX wrdN wrdF vP gP whL bodL tankE s (.normal, paH r room g1 g2 (m + 2)) by delta paX; rfl) (pz2_into _ _ _ _ _ _ _ s r room g1 g2 m) (pz2_fits _ _ _ _ _ _ _ s r room g1 g2 m) (sk_need (okN_ok _) (sk_either (fun h2 => sk_leaf (cutR_dn ?_)) fun h2 => sk_leaf (cutR_dn ?_)))
    ·have h3 : (tankE (m + 1) room g1 g2 != 0) = true := h2
     rw [h3] at e2
     obtain ⟨rfl, rfl⟩ := he (by rw [e1]; simpa using h3)
     rw [e1, e2]
     exact pz_left _ _
    ·have h3 : (tankE (m + 1) room g1 g2 != 0) = false := h2
     obtain ⟨rfl, rfl⟩ := h0 (by rw [e1]; simpa using h3)
     exact pz_left1 room g1 g2 m
  ·have e1 : psE s = 25 := by unfold psE; rw [h, hb]
   have e2 : psAt s = (k : Int) := by unfold psAt; rw [h, hb]
   obtain ⟨rfl, rfl⟩ := he (by rw [e1]; decide)
   rw [e1, e2]
   rcases htb with rfl | ⟨B, rfl⟩
   ·exact leads_in (show _ = paX wrdN wrdF vP gP whL bodL tankE s (.ret, pxN r (k : Int) 25 room c (k : Int) []) by delta paX; rfl) (S := .leaf (.inl (.ret, pzN 0 nilC (k : Int) 25 []))) (by rw [paX_bad0]; rfl) (by rw [paX_bad0]; rfl) (sk_leaf (cutR_dn (pz_left _ _)))
   ·exact leads_in (show _ = paX wrdN wrdF vP gP whL bodL tankE s (.ret, pxN r (k : Int) 25 room c (k : Int) [B]) by delta paX; rfl) (S := .leaf (.inl (.ret, pzN 0 nilC (k : Int) 25 []))) (by rw [paX_bad1]; rfl) (by rw [paX_bad1]; rfl) (sk_leaf (cutR_dn (pz_left _ _)))
end Go.Ev
