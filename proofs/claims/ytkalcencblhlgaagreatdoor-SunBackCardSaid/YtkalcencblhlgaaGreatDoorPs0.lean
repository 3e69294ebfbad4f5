/- strings.CutSuffix at a line's end; the table of the program's Parse. Conditions: none. (CutSuffix: turned from salt's.) -/
import Derived.Test.YtkalcencblhlgaaGreatDoorPrS
namespace Go.Ev
open Go Go.RowKit Go.Proofs
set_option maxRecDepth 100000
def whL (s : ByteArray) : Bool := decide (1 ≤ s.size) && (s.extract (s.size - 1) s.size).toList == nlB.toList
def bodL (s : ByteArray) : ByteArray := s.extract 0 (s.size - 1)
def csV (b : ByteArray) (w : Bool) : A := .tup [(false, [.lit (.string b)]), (false, [.lit (.bool w)])]
def cuF (w : ByteArray → Bool) (b : ByteArray → ByteArray) : FT
 | [], [], [s, sep], [] => .need (decide (sep = nlB) && Nat.ble s.size 1000000000) (.node (w s) (.leaf (csV (b s) true, [])) (.leaf (csV s false, [])))
 | _, _, _, _ => .fail 531
def csSp (w : ByteArray → Bool) (b : ByteArray → ByteArray) : Spec := fun args h => specT [(false, [.s]), (false, [.s])] [] (cuF w b) args h
def csI (L : ByteArray) : Int := IntKind.i64.wrap ((L.size : Int) - (nlB.size : Int))
def csS (L : ByteArray) : SkL := .node (decide ((L.size : Int) ≥ (nlB.size : Int))) (.need (decide (0 ≤ csI L) && decide (csI L ≤ (L.size : Int)) && decide ((L.size : Int) ≤ (L.size : Int))) (.node (!((L.extract (csI L).toNat (Int.toNat (L.size : Int))).toList == nlB.toList)) (.leaf (.inl (true, csV L false, hpT [] [] [])))
 (.need (decide ((0 : Int) ≤ 0) && decide (0 ≤ csI L) && decide (csI L ≤ (L.size : Int))) (.leaf (.inl (true, csV (L.extract (Int.toNat 0) (csI L).toNat) true, hpT [] [] []))))))
 (.tt (.leaf (.inl (true, csV L false, hpT [] [] []))))
def csR (L : ByteArray) : A := match whL L with
 | true => csV (bodL L) true
 | false => csV L false
theorem cs_call (L : ByteArray) (hL : L.size ≤ 1000000000) : CallAt Tryz.prog 72 [.one (.lit (.string L)), .one (.lit (.string nlB))] (hpT [] [] []) (csR L) (hpT [] [] []) := by
 have e1 : (nlB.size : Int) = 1 := rfl
 refine call_sk noTab_ok Tryz.func72 (by kernel_rfl) (false, false) (by kernel_rfl) (S := csS L) (by kernel_rfl) (by kernel_rfl) (SkLeads.all ?_)
 refine sk_either (fun h => ?_) fun h => sk_tt (sk_leaf ?_)
 ·have h1 : 1 ≤ L.size := by simp only [decide_eq_true_eq] at h; omega
  have hc : csI L = ((L.size - 1 : Nat) : Int) := by
   unfold csI
   rw [e1, IntKind.wrap_i64]
   omega
  have hn : decide (1 ≤ L.size) = true := by simp [h1]
  rw [hc]
  simp only [Int.toNat_natCast]
  refine sk_need (by simp only [Bool.and_eq_true, decide_eq_true_eq]; omega) (sk_either (fun h2 => sk_leaf ?_) fun h2 => sk_need (by simp only [Bool.and_eq_true, decide_eq_true_eq]; omega) (sk_leaf ?_))
  ·show (_, _) = (_, _)
   have hw : whL L = false := by unfold whL; rw [hn]; simpa using h2
   unfold csR; rw [hw]
  ·show (_, _) = (_, _)
   have hw : whL L = true := by unfold whL; rw [hn]; simpa using h2
   unfold csR; rw [hw]; rfl
 ·show (_, _) = (_, _)
  have h1 : ¬ 1 ≤ L.size := by simp only [decide_eq_false_iff_not] at h; omega
  have hw : whL L = false := by unfold whL; simp [h1]
  unfold csR; rw [hw]
theorem cs_ok : SpecOk Tryz.prog 72 (csSp whL bodL) := by
 refine specT_ok (by decide) (by decide) fun l m n ts v news hl hm hn ht hnil hF => ?_
 unfold cuF at hF
 split at hF
 ·rename_i L sep
  obtain ⟨hok, hF2⟩ := Tree.need_some hF
  clear hF
  rw [Bool.and_eq_true, decide_eq_true_eq] at hok
  obtain ⟨rfl, hok⟩ := hok
  have hv : v = csR L ∧ news = [] := by
   unfold csR
   cases hb : whL L with
   | true => rw [hb] at hF2; simp only [Tree.run, Option.some.injEq, Prod.mk.injEq] at hF2; obtain ⟨rfl, rfl⟩ := hF2; exact ⟨rfl, rfl⟩
   | false => rw [hb] at hF2; simp only [Tree.run, Option.some.injEq, Prod.mk.injEq] at hF2; obtain ⟨rfl, rfl⟩ := hF2; exact ⟨rfl, rfl⟩
  obtain ⟨rfl, rfl⟩ := hv
  exact cs_call L (Nat.le_of_ble_eq_true hok)
 ·cases hF
def modesF (f : FuncId) : Bool × Bool := (Nat.beq f 124, false)
def recF (P : Program) (T : FuncId → Option Spec) : Code → St → Tree (X × St) := evCode P T modesF 100
theorem recF_ok {T : FuncId → Option Spec} (hT : TabOk Tryz.prog T) : RecOk Tryz.prog (recF Tryz.prog T) := (code_ok hT noOwn mixed 100).1
section
variable (nS : ByteArray → UInt8 → Nat) (fS : ByteArray → UInt8 → Nat → ByteArray) (vI : ByteArray → Int) (gI : ByteArray → Bool) (wL : ByteArray → Bool) (bL : ByteArray → ByteArray) (E : FE)
def tbPa : List (FuncId × Spec) := (54, ckSp E) :: (72, csSp wL bL) :: (73, splSp nS fS) :: (140, txiSp vI gI) :: tbBase
noncomputable def paRe : Code → St → Tree (X × St) := recF Tryz.prog (tabOf (tbPa nS fS vI gI wL bL E))
end
section
variable (s : ByteArray)
def paB : St := baseM 90 [.one (.lit (.string s))] (hpT [] [] [])
end
section
variable (nS : ByteArray → UInt8 → Nat) (fS : ByteArray → UInt8 → Nat → ByteArray) (vI : ByteArray → Int) (gI : ByteArray → Bool) (wL : ByteArray → Bool) (bL : ByteArray → ByteArray) (E : FE) (s : ByteArray)
noncomputable def paO : Tree ((X × St) ⊕ (List Bool × St)) := evOr (paRe nS fS vI gI wL bL E) (bodyOf Tryz.f22) [29, 2, 3, 4, 6, 7] [2, 3, 4] (paB s)
end
def sbox (nm : ByteArray) (c : C) : Blk := ⟨false, 40, .flat [cs nm, c]⟩
def paN (env : List (Nat × A)) (news : List Blk) : St := stN 90 (envL env) (bsS [] []) [] news true
def paE : List (Nat × A) := [(29, .one (.fn 119 [(0, 0, 1, 0)])), (2, .one (.ptr 1 0 1 0)), (3, .one (.ptr 2 0 1 0)), (4, .one (.ptr 3 0 1 0)), (6, .one (.ptr 4 0 1 0)), (7, .one (.ptr 5 0 1 0))]
def paW (r : ByteArray) (a e : Int) (nm : ByteArray) (c : C) (k : Int) (tb : List Blk) : List Blk := ⟨false, 9, .flat [.lit (.string r)]⟩ :: sbox sNil nilC :: ⟨false, 3, .flat [ci a]⟩ :: ⟨false, 35, .flat [ci e]⟩ :: sbox nm c :: ⟨false, 3, .flat [ci k]⟩ :: tb
def paC : Nat → C
 | 0 => nilC
 | 1 => nilC
 | m + 2 => .sl true 6 0 4 0 (m + 1)
def paT (f0 f1 f2 f3 : Nat → Int) : Nat → List Blk
 | 0 => []
 | 1 => []
 | m + 2 => [⟨false, 113, .rows (m + 1) (skC f0 f1 f2 f3)⟩]
def paM (nm : ByteArray) : Nat → ByteArray
 | 0 => sNil
 | _ + 1 => nm
def paH (r nm : ByteArray) (f0 f1 f2 f3 : Nat → Int) (k : Nat) : St := paN paE (paW r 0 0 (paM nm k) (paC k) (k : Int) (paT f0 f1 f2 f3 k))
def paSl : List Nat := [29, 2, 3, 4, 6, 7]
section
variable (nS : ByteArray → UInt8 → Nat) (fS : ByteArray → UInt8 → Nat → ByteArray) (vI : ByteArray → Int) (gI : ByteArray → Bool) (wL : ByteArray → Bool) (bL : ByteArray → ByteArray) (E : FE) (s : ByteArray)
noncomputable def paPath : List Bool := pathR (bodyOf Tryz.f22) 0
noncomputable def paCo : Code := nthRng (bodyOf Tryz.f22) paPath
noncomputable def paR (r L r' nm : ByteArray) (f0 f1 f2 f3 : Nat → Int) (k : Nat) : Tree (X × St) := linT (paRe nS fS vI gI wL bL E) (rngA paCo) (rngB paCo) paSl (paB s) (midL (paH r nm f0 f1 f2 f3 k) 30 0 9 L r')
end
end Go.Ev
namespace Go.Ev
open Go Go.RowKit Go.Proofs
set_option maxRecDepth 100000
def le1 (n : Nat) : Bool := decide ((0 : Int) ≤ 1) && decide ((1 : Int) ≤ (n : Int)) && decide ((n : Int) ≤ (n : Int))
def in0 (n : Nat) : Bool := decide ((0 : Int) ≤ 0) && decide ((0 : Int) < (n : Int))
def szW (b : ByteArray) : Bool := decide (b.size < 9223372036854775807)
def zeN (n : Nat) : Bool := ((n : Int) == 0)
def dnW (N : Nat) : Nat → Nat
 | 0 => N
 | j + 1 => Int.toNat (dnW N j : Int) - Int.toNat 1
def oW : Nat → Nat
 | 0 => 0
 | j + 1 => oW j + Int.toNat 1
def ixW (j : Nat) : Nat := oW j + Int.toNat 0
def sSkyW : ByteArray := ⟨#[115, 107, 121]⟩
def tts : Nat → SkX → SkX
 | 0, S => S
 | n + 1, S => .tt (tts n S)
def wdS (N : Nat) (w : Nat → ByteArray) (j : Nat) (no ok : SkX) : SkX := .node (zeN (dnW N j)) (.tt no) (.need (in0 (dnW N j)) (.need (Nat.blt (ixW j) N) (.node ((w (ixW j)).toList == sNil.toList) no (.need (in0 (dnW N j)) (.need (Nat.blt (ixW j) N) (.need (le1 (dnW N j)) ok))))))
def pyN (r : ByteArray) (a e : Int) (nm : ByteArray) (c : C) (k : Int) (tb : List Blk) : St := paN paE (paW r a e nm c k tb)
def pyU (r' nm : ByteArray) (f0 f1 f2 f3 : Nat → Int) (k : Nat) : SkX := .leaf (.ret, pyN r' (k : Int) 25 (paM nm k) (paC k) (k : Int) (paT f0 f1 f2 f3 k))
def paA (f0 f1 f2 f3 : Nat → Int) (a b c d : Int) : Nat → C × List Blk
 | 0 => (.sl true 6 0 4 0 1, [⟨false, 113, .flat [ci a, ci b, ci c, ci d]⟩])
 | m + 1 => (.sl true 6 0 4 0 (m + 1 + 1), [⟨false, 113, .rows (m + 1 + 1) (skC (putF f0 (m + 1) a) (putF f1 (m + 1) b) (putF f2 (m + 1) c) (putF f3 (m + 1) d))⟩])
noncomputable def apS (S : SkX) : Nat → SkX
 | 0 => S
 | m + 1 => .nn (.nn (.nn (.need (apN 113 m) S)))
def pyZ (r' nm : ByteArray) (f0 f1 f2 f3 : Nat → Int) (j : Nat) (a b c d : Int) : SkX := .leaf (.ret, pyN r' ((j + 1 : Nat) : Int) 25 nm (paA f0 f1 f2 f3 a b c d j).1 ((j + 1 : Nat) : Int) (paA f0 f1 f2 f3 a b c d j).2)
noncomputable def pyF (r' nm : ByteArray) (f0 f1 f2 f3 : Nat → Int) (j : Nat) (a b c d : Int) : SkX := .ff (apS (.tt (.tt (pyZ r' nm f0 f1 f2 f3 j a b c d))) j)
def pyY (r' nm : ByteArray) (f0 f1 f2 f3 : Nat → Int) (j : Nat) (a b c d : Int) : SkX := .leaf (.normal, pyN r' 0 0 nm (paA f0 f1 f2 f3 a b c d j).1 (IntKind.i64.wrap (((j + 1 : Nat) : Int) + 1)) (paA f0 f1 f2 f3 a b c d j).2)
section
variable (vI : ByteArray → Int) (gI : ByteArray → Bool) (r' nm : ByteArray) (f0 f1 f2 f3 : Nat → Int) (j : Nat) (N : Nat) (w : Nat → ByteArray)
def vAt (i : Nat) : Int := vI (w (ixW i))
noncomputable def py4b : SkX := wdS N w 4 (.tt (pyF r' nm f0 f1 f2 f3 j (vAt vI w 1) (vAt vI w 2) (vAt vI w 3) (vI ⟨#[]⟩))) (.need (szW (w (ixW 4))) (.tt (pyF r' nm f0 f1 f2 f3 j (vAt vI w 1) (vAt vI w 2) (vAt vI w 3) (vAt vI w 4))))
noncomputable def py4g : SkX := wdS N w 4 (.tt (pyF r' nm f0 f1 f2 f3 j (vAt vI w 1) (vAt vI w 2) (vAt vI w 3) (vI ⟨#[]⟩))) (.need (szW (w (ixW 4))) (.node (!gI (w (ixW 3))) (pyF r' nm f0 f1 f2 f3 j (vAt vI w 1) (vAt vI w 2) (vAt vI w 3) (vAt vI w 4))
 (.ff (apS (.node (!gI (w (ixW 4))) (.tt (pyZ r' nm f0 f1 f2 f3 j (vAt vI w 1) (vAt vI w 2) (vAt vI w 3) (vAt vI w 4)))
  (.node (decide ((dnW N 5 : Int) > 0)) (pyZ r' nm f0 f1 f2 f3 j (vAt vI w 1) (vAt vI w 2) (vAt vI w 3) (vAt vI w 4)) (pyY r' nm f0 f1 f2 f3 j (vAt vI w 1) (vAt vI w 2) (vAt vI w 3) (vAt vI w 4)))) j))))
noncomputable def py3b : SkX := wdS N w 3 (tts 5 (pyF r' nm f0 f1 f2 f3 j (vAt vI w 1) (vAt vI w 2) (vI ⟨#[]⟩) (vI ⟨#[]⟩))) (.need (szW (w (ixW 3))) (.tt (.tt (py4b vI r' nm f0 f1 f2 f3 j N w))))
noncomputable def py3g : SkX := wdS N w 3 (tts 5 (pyF r' nm f0 f1 f2 f3 j (vAt vI w 1) (vAt vI w 2) (vI ⟨#[]⟩) (vI ⟨#[]⟩))) (.need (szW (w (ixW 3))) (.node (!gI (w (ixW 2))) (.tt (py4b vI r' nm f0 f1 f2 f3 j N w)) (.tt (py4g vI gI r' nm f0 f1 f2 f3 j N w))))
noncomputable def py2 : SkX := wdS N w 2 (tts 9 (pyF r' nm f0 f1 f2 f3 j (vAt vI w 1) (vI ⟨#[]⟩) (vI ⟨#[]⟩) (vI ⟨#[]⟩))) (.need (szW (w (ixW 2))) (.node (!gI (w (ixW 1))) (.tt (py3b vI r' nm f0 f1 f2 f3 j N w)) (.tt (py3g vI gI r' nm f0 f1 f2 f3 j N w))))
noncomputable def py1 : SkX := wdS N w 1 (tts 13 (pyF r' nm f0 f1 f2 f3 j (vI ⟨#[]⟩) (vI ⟨#[]⟩) (vI ⟨#[]⟩) (vI ⟨#[]⟩))) (.need (szW (w (ixW 1))) (.ff (.tt (py2 vI gI r' nm f0 f1 f2 f3 j N w))))
noncomputable def pyL (U : SkX) : SkX := wdS N w 0 (.ff (.ff (.ff (.tt (.tt U))))) (.node (w (ixW 0) == sSkyW) (.ff (.ff (.tt U))) (.node (w (ixW 0) == sSun) (.ff (.ff (.ff (py1 vI gI r' nm f0 f1 f2 f3 j N w)))) (.ff (.tt (.tt U)))))
end
section
variable (r' : ByteArray) (N : Nat) (w : Nat → ByteArray) (U : SkX)
def py0 : SkX := wdS N w 0 (.ff (.ff (.ff (.tt (.tt U))))) (.node (w (ixW 0) == sSkyW) (.ff (.ff (.ff (wdS N w 1 (.tt (.tt U)) (.ff (.node (decide ((dnW N 2 : Int) > 0)) (.leaf (.ret, pyN r' 0 25 (w (ixW 1)) nilC 0 [])) (.leaf (.normal, pyN r' 0 0 (w (ixW 1)) nilC (IntKind.i64.wrap (0 + 1)) []))))))))
 (.node (w (ixW 0) == sSun) (.ff (.ff (.tt U))) (.ff (.tt (.tt U)))))
def pyO : SkX := wdS N w 0 (.ff (.ff (tts 3 U))) (.node (w (ixW 0) == sSkyW) (tts 3 U) (.node (w (ixW 0) == sSun) (tts 3 U) (tts 3 U)))
end
section
variable (nS : ByteArray → UInt8 → Nat) (fS : ByteArray → UInt8 → Nat → ByteArray) (vI : ByteArray → Int) (gI : ByteArray → Bool) (wL : ByteArray → Bool) (bL : ByteArray → ByteArray) (E : FE) (s : ByteArray)
noncomputable def pyK (r' nm : ByteArray) (f0 f1 f2 f3 : Nat → Int) (N : Nat) (w : Nat → ByteArray) (U : SkX) : Nat → SkX
 | 0 => py0 r' N w U
 | j + 1 => pyL vI gI r' nm f0 f1 f2 f3 j N w U
noncomputable def pyS (L r' nm : ByteArray) (f0 f1 f2 f3 : Nat → Int) (k : Nat) : SkX := .nn (.need (decide ((⟨#[10]⟩ : ByteArray) = nlB) && Nat.ble L.size 1000000000) (.node (wL L)
 (.need (decide ((bL L).size < 4294967281)) (pyK vI gI r' nm f0 f1 f2 f3 (nS (bL L) 32) (fS (bL L) 32) (pyU r' nm f0 f1 f2 f3 k) k))
 (.need (decide (L.size < 4294967281)) (pyO (nS L 32) (fS L 32) (pyU r' nm f0 f1 f2 f3 k)))))
end
end Go.Ev
