/- A sky's text, parsed by the reference: its states. Conditions: none. -/
import Derived.Test.YtkalcencblhlgaaGreatDoorPsr
namespace Go.Ev
open Go Go.RowKit Go.Proofs
set_option maxRecDepth 100000
section
variable (nS : ByteArray → UInt8 → Nat) (fS : ByteArray → UInt8 → Nat → ByteArray) (vI : ByteArray → Int) (gI : ByteArray → Bool) (E : FE)
def tbQa : List (FuncId × Spec) := (7, ckSp E) :: (34, spqSp nS fS) :: (77, txiSp vI gI) :: tbBase
noncomputable def pqRe : Code → St → Tree (X × St) := recT Tryz.prog (tabOf (tbQa nS fS vI gI E))
end
def zqB (s : ByteArray) : St := { baseB 128 [.one (.lit (.string s))] (hpT [] [] []) with wide := true }
def zqN (env : List (Nat × A)) (news : List Blk) : St := { stN 128 (envL env) (bsS [] []) [] news with wide := true }
def rbox (nm : ByteArray) (c : C) : Blk := ⟨false, 24, .flat [cs nm, c]⟩
def zC (j : Nat) : Option Nat → C
 | none => nilC
 | some q => .sl true j 0 4 0 (q + 1)
def zT (f0 f1 f2 f3 : Nat → Int) : Option Nat → List Blk
 | none => []
 | some q => [⟨false, 31, .rows (q + 1) (skC f0 f1 f2 f3)⟩]
def strW (n : Nat) (F : Nat → ByteArray) : Blk := ⟨false, 9, .rows n [.str F]⟩
def zqE (a e : Int) (n : Nat) (i : Int) : List (Nat × A) := [(2, pt 0), (3, int a), (4, int e), (5, pt 1), (6, .one (.sl true 2 0 1 0 n)), (7, int i)]
def zqS (a e : Int) (n : Nat) (i : Int) (F : Nat → ByteArray) (nm : ByteArray) (c : C) (tb : List Blk) : St := zqN (zqE a e n i) (rbox sNil nilC :: rbox nm c :: strW n F :: tb)
def zqSl : List Nat := [2, 3, 4, 5, 6, 7]
def zqH (n : Nat) (F : Nat → ByteArray) (nm : ByteArray) (f0 f1 f2 f3 : Nat → Int) (lay : Option Nat) (i : Int) : St := zqS 0 0 n i F nm (zC 3 lay) (zT f0 f1 f2 f3 lay)
noncomputable def zqLp : Code := nthLoop (bodyOf Tryz.f24) (pathOf (bodyOf Tryz.f24) 0)
noncomputable def zqPa : List Bool := pathOf (bodyOf Tryz.f24) 0
section
variable (nS : ByteArray → UInt8 → Nat) (fS : ByteArray → UInt8 → Nat → ByteArray) (vI : ByteArray → Int) (gI : ByteArray → Bool) (E : FE) (s : ByteArray)
noncomputable def zqO : Tree ((X × St) ⊕ (List Bool × St)) := evO (pqRe nS fS vI gI E) (bodyOf Tryz.f24) zqSl [2, 3, 4] (zqB s)
noncomputable def zqR (n : Nat) (F : Nat → ByteArray) (nm : ByteArray) (f0 f1 f2 f3 : Nat → Int) (lay : Option Nat) (i : Int) : Tree (X × St) := (pqRe nS fS vI gI E zqLp (zqH n F nm f0 f1 f2 f3 lay i)).bind (canonT zqSl zqSl (zqB s))
noncomputable def zqX (q : X × St) : Tree ((X × St) ⊕ (List Bool × St)) := evO2 (pqRe nS fS vI gI E) true (bodyOf Tryz.f24) zqPa [] [2, 3, 4] (zqB s) q
end
end Go.Ev
namespace Go.Ev
open Go Go.RowKit Go.Proofs
set_option maxRecDepth 100000
def c32 : UInt8 := UInt8.ofNat (Int.toNat 32)
def c10 : UInt8 := UInt8.ofNat (Int.toNat 10)
def inQ (i : Int) (n : Nat) : Bool := decide (0 ≤ i) && decide (i < (n : Int))
def kI : Nat → Int
 | 0 => 1
 | j + 1 => IntKind.i64.wrap (kI j + 1)
def kN (j : Nat) : Nat := 0 + (kI j).toNat
theorem kI_eq : ∀ j, j ≤ 1000 → kI j = ((j + 1 : Nat) : Int)
 | 0, _ => rfl
 | j + 1, h => by
  show IntKind.i64.wrap (kI j + 1) = _
  rw [kI_eq j (by omega), wrap_succ (by omega)]
theorem kN_eq (j : Nat) (h : j ≤ 1000) : kN j = j + 1 := by unfold kN; rw [kI_eq j h, Int.toNat_natCast, Nat.zero_add]
def zqA (f0 f1 f2 f3 : Nat → Int) (a b c d : Int) : Option Nat → C × List Blk
 | none => (.sl true 3 0 4 0 1, [⟨false, 31, .flat [ci a, ci b, ci c, ci d]⟩])
 | some q => (.sl true 3 0 4 0 (q + 1 + 1), [⟨false, 31, .rows (q + 1 + 1) (skC (putF f0 (q + 1) a) (putF f1 (q + 1) b) (putF f2 (q + 1) c) (putF f3 (q + 1) d))⟩])
noncomputable def zqP (S : SkX) : Option Nat → SkX
 | none => S
 | some q => .nn (.nn (.nn (.nn (.need (apN 31 q) S))))
section
variable (vI : ByteArray → Int) (gI : ByteArray → Bool) (n : Nat) (F : Nat → ByteArray) (nm : ByteArray) (f0 f1 f2 f3 : Nat → Int) (lay : Option Nat) (i : Int) (N : Nat) (w : Nat → ByteArray)
def zqU (a : Int) : SkX := .leaf (.ret, zqS a 25 n i F nm (zC 3 lay) (zT f0 f1 f2 f3 lay))
def zqG (U : SkX) (j : Nat) (rest : SkX) : SkX := .tt (.need (inQ (kI j) N) (.need (Nat.blt (kN j) N) (.need (szW (w (kN j))) (.node (!gI (w (kN j))) U rest))))
def zqY (a b c d : Int) : SkX := .leaf (.normal, zqS 0 0 n (IntKind.i64.wrap (i + 1)) F nm (zqA f0 f1 f2 f3 a b c d lay).1 (zqA f0 f1 f2 f3 a b c d lay).2)
noncomputable def zsS : SkX := .node ((N : Int) != 5) (.tt (zqU n F nm f0 f1 f2 f3 lay i i)) (.need (in0 N) (.need (Nat.blt (0 + Int.toNat 0) N) (.node (!((w (0 + Int.toNat 0)).toList == sSun.toList)) (zqU n F nm f0 f1 f2 f3 lay i i)
 (zqG gI N w (zqU n F nm f0 f1 f2 f3 lay i i) 0 (zqG gI N w (zqU n F nm f0 f1 f2 f3 lay i i) 1 (zqG gI N w (zqU n F nm f0 f1 f2 f3 lay i i) 2 (zqG gI N w (zqU n F nm f0 f1 f2 f3 lay i i) 3 (.ff (zqP (zqY n F nm f0 f1 f2 f3 lay i (vI (w (kN 0))) (vI (w (kN 1))) (vI (w (kN 2))) (vI (w (kN 3)))) lay)))))))))
def zkS : SkX := .node ((N : Int) != 2) (.tt (.tt (zqU n F nm f0 f1 f2 f3 lay i 0))) (.need (in0 N) (.need (Nat.blt (0 + Int.toNat 0) N) (.node (!((w (0 + Int.toNat 0)).toList == sSkyW.toList)) (.tt (zqU n F nm f0 f1 f2 f3 lay i 0))
 (.need (inQ 1 N) (.need (Nat.blt (0 + Int.toNat 1) N) (.node ((w (0 + Int.toNat 1)).toList == sNil.toList) (zqU n F nm f0 f1 f2 f3 lay i 0) (.need (inQ 1 N) (.need (Nat.blt (0 + Int.toNat 1) N) (.leaf (.normal, zqS 0 0 n (IntKind.i64.wrap (i + 1)) F (w (0 + Int.toNat 1)) (zC 3 lay) (zT f0 f1 f2 f3 lay)))))))))))
noncomputable def zqRS (nS : ByteArray → UInt8 → Nat) (fS : ByteArray → UInt8 → Nat → ByteArray) : SkX := .node (decide (i < (n : Int))) (.node (i == IntKind.i64.wrap ((n : Int) - 1)) (.need (inQ i n) (.need (Nat.blt (0 + i.toNat) n) (.node (!((F (0 + i.toNat)).toList == sNil.toList)) (zqU n F nm f0 f1 f2 f3 lay i i) (.leaf (.normal, zqH n F nm f0 f1 f2 f3 lay (IntKind.i64.wrap (i + 1)))))))
 (.need (inQ i n) (.need (Nat.blt (0 + i.toNat) n) (.need (decide ((0 : Int) ≤ 32) && decide ((32 : Int) < 256) && Nat.ble (F (0 + i.toNat)).size 1000000)
  (.node (i == 0) (zkS n F nm f0 f1 f2 f3 lay i (nS (F (0 + i.toNat)) c32) (fS (F (0 + i.toNat)) c32)) (zsS vI gI n F nm f0 f1 f2 f3 lay i (nS (F (0 + i.toNat)) c32) (fS (F (0 + i.toNat)) c32))))))) (.leaf (.exit 0, zqH n F nm f0 f1 f2 f3 lay i))
end
section
variable (nS : ByteArray → UInt8 → Nat) (fS : ByteArray → UInt8 → Nat → ByteArray) (vI : ByteArray → Int) (gI : ByteArray → Bool) (E : FE) (s : ByteArray) (n : Nat) (F : Nat → ByteArray) (nm : ByteArray) (f0 f1 f2 f3 : Nat → Int)
theorem zqR_i0 (i : Nat) : zqR nS fS vI gI E s n F nm f0 f1 f2 f3 none (i : Int) = into (zqR nS fS vI gI E s n F nm f0 f1 f2 f3 none (i : Int)) (zqRS vI gI n F nm f0 f1 f2 f3 none (i : Int) nS fS) := by kernel_rfl
theorem zqR_i1 (q i : Nat) : zqR nS fS vI gI E s n F nm f0 f1 f2 f3 (some q) (i : Int) = into (zqR nS fS vI gI E s n F nm f0 f1 f2 f3 (some q) (i : Int)) (zqRS vI gI n F nm f0 f1 f2 f3 (some q) (i : Int) nS fS) := by kernel_rfl
theorem zqR_f0 (i : Nat) : fits (zqR nS fS vI gI E s n F nm f0 f1 f2 f3 none (i : Int)) (zqRS vI gI n F nm f0 f1 f2 f3 none (i : Int) nS fS) = true := by kernel_rfl
theorem zqR_f1 (q i : Nat) : fits (zqR nS fS vI gI E s n F nm f0 f1 f2 f3 (some q) (i : Int)) (zqRS vI gI n F nm f0 f1 f2 f3 (some q) (i : Int) nS fS) = true := by kernel_rfl
theorem zqR_into (i : Nat) : ∀ lay, zqR nS fS vI gI E s n F nm f0 f1 f2 f3 lay (i : Int) = into (zqR nS fS vI gI E s n F nm f0 f1 f2 f3 lay (i : Int)) (zqRS vI gI n F nm f0 f1 f2 f3 lay (i : Int) nS fS)
 | none => zqR_i0 nS fS vI gI E s n F nm f0 f1 f2 f3 i
 | some q => zqR_i1 nS fS vI gI E s n F nm f0 f1 f2 f3 q i
theorem zqR_fits (i : Nat) : ∀ lay, fits (zqR nS fS vI gI E s n F nm f0 f1 f2 f3 lay (i : Int)) (zqRS vI gI n F nm f0 f1 f2 f3 lay (i : Int) nS fS) = true
 | none => zqR_f0 nS fS vI gI E s n F nm f0 f1 f2 f3 i
 | some q => zqR_f1 nS fS vI gI E s n F nm f0 f1 f2 f3 q i
end
theorem tbQa_ok : TabOk Tryz.prog (tabOf (tbQa wrdN wrdF vS gS skyE)) := tab_cons (tab_cons (tab_cons tbBase_ok sgn_ok) spq_ok) qk_ok
theorem le_wide {s t : St} (h : s.Le t) : ({ s with wide := true } : St).Le { t with wide := true } := ⟨h.next, h.low, h.globs, h.lp, h.size, fun r => by
 have := h.r ⟨r.rh, r.defers, r.size, r.env⟩
 exact ⟨this.rh, this.defers, this.size, this.env⟩⟩
def nmK (s : ByteArray) : Nat → ByteArray
 | 0 => sNil
 | _ + 1 => nmP s
def layK : Nat → Option Nat
 | 0 => none
 | 1 => none
 | m + 2 => some m
def zqHd (s : ByteArray) (i : Nat) : St := zqH (wrdN s 10) (wrdF s 10) (nmK s (min i (cntA s 10))) (f0P s) (f1P s) (f2P s) (f3P s) (layK (min i (cntA s 10))) (i : Int)
def PqBad (s : ByteArray) (q : X × St) : Prop := ∃ k nm g0 g1 g2 g3 lay, badAt s = some k ∧ q = (.ret, zqS (k : Int) 25 (wrdN s 10) (k : Int) (wrdF s 10) nm (zC 3 lay) (zT g0 g1 g2 g3 lay))
def PqEnd (s : ByteArray) (q : X × St) : Prop := (q = (.exit 0, zqHd s (cntA s 10 + 1)) ∧ badAt s = none) ∨ PqBad s q
structure GoodQ (s : ByteArray) (i : Nat) : Prop where
 le : i ≤ cntA s 10 + 1
 ok : ∀ j, j < i → j < cntA s 10 → lnOk s j = true
 last : i = cntA s 10 + 1 → ¬ beg s 10 0 (cntA s 10) < s.size
def PqRnd (s : ByteArray) (i : Nat) (q : X × St) : Prop := match q.1 with | .normal => ∃ y, q.2.Le (zqHd s y) ∧ GoodQ s y ∧ cntA s 10 + 1 - y < cntA s 10 + 1 - i | _ => PqEnd s q
section
variable {s : ByteArray}
theorem pq_bad {i k : Nat} {nm : ByteArray} {g0 g1 g2 g3 : Nat → Int} {lay : Option Nat} (h : badAt s = some k) : PqRnd s i (.ret, zqS (k : Int) 25 (wrdN s 10) (k : Int) (wrdF s 10) nm (zC 3 lay) (zT g0 g1 g2 g3 lay)) := .inr ⟨k, nm, g0, g1, g2, g3, lay, h, rfl⟩
theorem good_goodK {i : Nat} (h : GoodQ s i) (hi : i ≤ cntA s 10) : goodK s i := fun j hj => h.ok j hj (by omega)
theorem zqA_le (n : Nat) (F : Nat → ByteArray) (nm : ByteArray) (g0 g1 g2 g3 : Nat → Int) (i : Int) {a b c d : Int} : ∀ (k : Nat), a = g0 k → b = g1 k → c = g2 k → d = g3 k → (zqS 0 0 n i F nm (zqA g0 g1 g2 g3 a b c d (layK (k + 1))).1 (zqA g0 g1 g2 g3 a b c d (layK (k + 1))).2).Le (zqH n F nm g0 g1 g2 g3 (layK (k + 2)) i) := by
 intro k ha hb hc hd
 cases k with
 | zero => exact le_wide (le_news (show 0 + 4 ≤ lim by decide) ⟨⟨rfl, fun _ _ _ h => h⟩, ⟨rfl, fun _ _ _ h => h⟩, ⟨rfl, fun _ _ _ h => h⟩, ⟨rfl, four_rows ha hb hc hd⟩, trivial⟩)
 | succ m =>
  subst ha; subst hb; subst hc; subst hd
  show (zqS 0 0 n i F nm (.sl true 3 0 4 0 (m + 1 + 1)) [⟨false, 31, .rows (m + 1 + 1) (skC (putF g0 (m + 1) (g0 (m + 1))) (putF g1 (m + 1) (g1 (m + 1))) (putF g2 (m + 1) (g2 (m + 1))) (putF g3 (m + 1) (g3 (m + 1))))⟩]).Le _
  rw [putF_self, putF_self, putF_self, putF_self]
  exact St.Le.refl _
theorem nz_bne {N k : Nat} {b : Bool} (h : ((N : Int) != (k : Int)) = b) : (b = true → N ≠ k) ∧ (b = false → N = k) := by
 subst h
 constructor
 ·intro h e
  subst e
  simp at h
 ·intro h
  simp only [bne_eq_false_iff_eq] at h
  omega
section
variable {i : Nat} (hg : GoodQ s i) (hi : i < cntA s 10) (hs : s.size ≤ 4096)
include hg hi in
theorem pq_no (h : okB i (Proofs.part s 10 i) = false) : badAt s = some i := by
 have hkl : i < linN s := by unfold linN; split <;> omega
 have hln : lnOk s i = okB i (Proofs.part s 10 i) := by unfold lnOk; rw [blt_ok hi, Bool.true_and]
 exact bad_at (good_goodK hg (by omega)) hkl (by rw [hln]; exact h)
include hg hi in
theorem pq_yes (h : okB i (Proofs.part s 10 i) = true) : GoodQ s (i + 1) := by
 have hln : lnOk s i = okB i (Proofs.part s 10 i) := by unfold lnOk; rw [blt_ok hi, Bool.true_and]
 exact ⟨by omega, fun j hj hjc => by
  by_cases e : j = i
  ·subst e; rw [hln]; exact h
  ·exact hg.ok j (by omega) hjc, fun e => by omega⟩
theorem in1_ok {N : Nat} (h : 2 ≤ N) : inQ 1 N = true := by
 unfold inQ
 simp only [Bool.and_eq_true, decide_eq_true_eq]
 omega
end
theorem zk_ok (hs : s.size ≤ 4096) (hg : GoodQ s 0) (hi : 0 < cntA s 10) : SkLeads (PqRnd s 0) (zkS (wrdN s 10) (wrdF s 10) (nmK s 0) (f0P s) (f1P s) (f2P s) (f3P s) (layK 0) ((0 : Nat) : Int) (wrdN (Proofs.part s 10 0) 32) (wrdF (Proofs.part s 10 0) 32)) := by
 generalize hb : Proofs.part s 10 0 = b
 have hU : okB 0 b = false → SkLeads (PqRnd s 0) (zqU (wrdN s 10) (wrdF s 10) (nmK s 0) (f0P s) (f1P s) (f2P s) (f3P s) (layK 0) ((0 : Nat) : Int) 0) := fun h => sk_leaf (pq_bad (pq_no hg hi (by rw [hb]; exact h)))
 have hp := wrdN_pos b
 unfold zkS
 refine sk_either (fun h => sk_tt (sk_tt (hU ?_))) fun h => ?_
 ·rw [okB_zero, beq_no ((nz_bne (k := 2) h).1 rfl)]; rfl
 ·have hN := (nz_bne (k := 2) h).2 rfl
  refine sk_need (in0_ok hp) (sk_need (blt_ok (show 0 < _ by omega)) (sk_either (fun h0 => sk_tt (hU ?_)) fun h0 => sk_need (in1_ok (by omega)) (sk_need (blt_ok (show 1 < _ by omega)) (sk_either (fun h1 => hU ?_) fun h1 => sk_need (in1_ok (by omega)) (sk_need (blt_ok (show 1 < _ by omega)) (sk_leaf ?_))))))
  ·have h0 : ((wd b 0).toList == sSkyW.toList) = false := not1t h0
   rw [okB_zero, h0, Bool.false_and, Bool.and_false]
  ·have h1 : ((wd b 1).toList == sNil.toList) = true := h1
   rw [okB_zero, h1, Bool.not_true, Bool.and_false, Bool.and_false]
  ·have h0 : ((wd b 0).toList == sSkyW.toList) = true := not1f h0
   have h1 : ((wd b 1).toList == sNil.toList) = false := h1
   have hok : okB 0 b = true := by rw [okB_zero, hN, h0, h1]; rfl
   refine ⟨1, ?_, pq_yes hg hi (by rw [hb]; exact hok), by omega⟩
   unfold zqHd
   rw [show min 1 (cntA s 10) = 1 by omega, wrap_succ (by omega), show wrdF b 32 (0 + Int.toNat 1) = nmK s 1 by rw [← hb]; rfl]
   exact St.Le.refl _
theorem zqG_ok {ψ : X × St → Prop} {b : ByteArray} (hb : b.size ≤ 4096) {U rest : SkX} (hN : wrdN b 32 = 5) (j : Nat) (hj : j < 4) (h1 : gS (wd b (j + 1)) = false → SkLeads ψ U) (h2 : gS (wd b (j + 1)) = true → SkLeads ψ rest) : SkLeads ψ (zqG gS (wrdN b 32) (wrdF b 32) U j rest) := by
 have hk := kI_eq j (by omega)
 have hn := kN_eq j (by omega)
 have hin : inQ (kI j) (wrdN b 32) = true := by
  rw [hk, hN]
  unfold inQ
  simp only [Bool.and_eq_true, decide_eq_true_eq]
  omega
 unfold zqG
 rw [hn]
 exact sk_tt (sk_need hin (sk_need (blt_ok (by omega)) (sk_need (szW_ok hb (wd_size b _)) (sk_either (fun h => h1 (not1t h)) fun h => h2 (not1f h)))))
theorem zs_ok (hs : s.size ≤ 4096) {j : Nat} (hg : GoodQ s (j + 1)) (hi : j + 1 < cntA s 10) : SkLeads (PqRnd s (j + 1)) (zsS vS gS (wrdN s 10) (wrdF s 10) (nmK s (j + 1)) (f0P s) (f1P s) (f2P s) (f3P s) (layK (j + 1)) ((j + 1 : Nat) : Int) (wrdN (Proofs.part s 10 (j + 1)) 32) (wrdF (Proofs.part s 10 (j + 1)) 32)) := by
 have hks : j ≤ 1000000 := by
  have h1 : cntA s 10 ≤ s.size := by rw [← mAt_end]; exact mAt_le s 10 _
  omega
 have hbs : (Proofs.part s 10 (j + 1)).size ≤ 4096 := by unfold Proofs.part; rw [ByteArray.size_extract]; omega
 generalize hb : Proofs.part s 10 (j + 1) = b at hbs
 have hU : okB (j + 1) b = false → SkLeads (PqRnd s (j + 1)) (zqU (wrdN s 10) (wrdF s 10) (nmK s (j + 1)) (f0P s) (f1P s) (f2P s) (f3P s) (layK (j + 1)) ((j + 1 : Nat) : Int) ((j + 1 : Nat) : Int)) := fun h => sk_leaf (pq_bad (pq_no hg hi (by rw [hb]; exact h)))
 have hp := wrdN_pos b
 unfold zsS
 refine sk_either (fun h => sk_tt (hU (no5 j ((nz_bne (k := 5) h).1 rfl)))) fun h => ?_
 have hN := (nz_bne (k := 5) h).2 rfl
 refine sk_need (in0_ok hp) (sk_need (blt_ok (show 0 < _ by omega)) (sk_either (fun h0 => hU ?_) fun h0 => ?_))
 ·have h0 : ((wd b 0).toList == sSun.toList) = false := not1t h0
  rw [okB_one, h0, Bool.false_and, Bool.and_false]
 ·have h0 : ((wd b 0).toList == sSun.toList) = true := not1f h0
  refine zqG_ok hbs hN 0 (by omega) (fun h => hU (gbad j 1 (by omega) (by omega) h)) fun g1 => zqG_ok hbs hN 1 (by omega) (fun h => hU (gbad j 2 (by omega) (by omega) h)) fun g2 => zqG_ok hbs hN 2 (by omega) (fun h => hU (gbad j 3 (by omega) (by omega) h)) fun g3 => zqG_ok hbs hN 3 (by omega) (fun h => hU (gbad j 4 (by omega) (by omega) h)) fun g4 => sk_ff ?_
  have hok : okB (j + 1) b = true := by rw [okB_one, hN, h0, g1, g2, g3, g4]; rfl
  have hX : SkLeads (PqRnd s (j + 1)) (zqY (wrdN s 10) (wrdF s 10) (nmK s (j + 1)) (f0P s) (f1P s) (f2P s) (f3P s) (layK (j + 1)) ((j + 1 : Nat) : Int) (vS (wrdF b 32 (kN 0))) (vS (wrdF b 32 (kN 1))) (vS (wrdF b 32 (kN 2))) (vS (wrdF b 32 (kN 3)))) := by
   refine sk_leaf ⟨j + 2, ?_, pq_yes hg hi (by rw [hb]; exact hok), by omega⟩
   rw [kN_eq 0 (by omega), kN_eq 1 (by omega), kN_eq 2 (by omega), kN_eq 3 (by omega), wrap_succ (by omega)]
   unfold zqHd
   rw [show min (j + 2) (cntA s 10) = j + 2 by omega]
   subst hb
   exact zqA_le (wrdN s 10) (wrdF s 10) (nmK s (j + 1)) (f0P s) (f1P s) (f2P s) (f3P s) ((j + 1 + 1 : Nat) : Int) j rfl rfl rfl rfl
  cases j with
  | zero => exact hX
  | succ m =>
   have d0 : ((Tryz.prog.info? 31).map (·.bytes)).getD 0 = 32 := by kernel_rfl
   exact sk_nn (sk_nn (sk_nn (sk_nn (sk_need (apN_ok (by rw [d0]; decide) (by omega)) hX))))
theorem part_empty : ((Proofs.part s 10 (cntA s 10)).toList == sNil.toList) = true ↔ ¬ beg s 10 0 (cntA s 10) < s.size := by
 obtain ⟨h1, h2⟩ := part_last s 10
 have hsz : (Proofs.part s 10 (cntA s 10)).size = s.size - beg s 10 0 (cntA s 10) := by
  unfold Proofs.part
  rw [h1, ByteArray.size_extract]
  omega
 constructor
 ·intro h hlt
  rw [beq_iff_eq, ByteArray.toList_eq, ByteArray.toList_eq] at h
  have : (Proofs.part s 10 (cntA s 10)).data.toList.length = 0 := by rw [h]; rfl
  have e : (Proofs.part s 10 (cntA s 10)).data.toList.length = (Proofs.part s 10 (cntA s 10)).size := Array.length_toList
  omega
 ·intro h
  have : (Proofs.part s 10 (cntA s 10)).size = 0 := by omega
  rw [beq_iff_eq, ByteArray.toList_eq, ByteArray.toList_eq]
  have e : (Proofs.part s 10 (cntA s 10)).data.toList.length = (Proofs.part s 10 (cntA s 10)).size := Array.length_toList
  rw [this] at e
  exact List.length_eq_zero_iff.1 e
theorem pq_round (hs : s.size ≤ 4096) {i : Nat} (hg : GoodQ s i) : ComesF Tryz.prog zqLp (zqB s) (zqHd s i) (PqRnd s i) := by
 have hcs : cntA s 10 ≤ s.size := by rw [← mAt_end]; exact mAt_le s 10 _
 have hle := hg.le
 refine comesF_round (recT_ok tbQa_ok) rfl zqSl zqSl (Leads.all ?_)
 unfold zqHd
 refine leads_in (show _ = zqR wrdN wrdF vS gS skyE s (wrdN s 10) (wrdF s 10) (nmK s (min i (cntA s 10))) (f0P s) (f1P s) (f2P s) (f3P s) (layK (min i (cntA s 10))) (i : Int) by delta zqR; rfl) (zqR_into wrdN wrdF vS gS skyE s (wrdN s 10) (wrdF s 10) (nmK s (min i (cntA s 10))) (f0P s) (f1P s) (f2P s) (f3P s) i (layK (min i (cntA s 10)))) (zqR_fits wrdN wrdF vS gS skyE s (wrdN s 10) (wrdF s 10) (nmK s (min i (cntA s 10))) (f0P s) (f1P s) (f2P s) (f3P s) i (layK (min i (cntA s 10)))) ?_
 unfold zqRS
 have hn : wrdN s 10 = cntA s 10 + 1 := wrdN_is s 10
 have hix : (0 + Int.toNat (i : Int)) = i := by rw [Int.toNat_natCast, Nat.zero_add]
 rw [hix]
 refine sk_either (fun h1 => ?_) fun h1 => sk_leaf ?_
 ·have h1 : i < cntA s 10 + 1 := by simp only [decide_eq_true_eq] at h1; omega
  have hin : inQ (i : Int) (wrdN s 10) = true := by
   unfold inQ
   simp only [Bool.and_eq_true, decide_eq_true_eq]
   omega
  have hw : IntKind.i64.wrap ((wrdN s 10 : Int) - 1) = (cntA s 10 : Int) := by
   rw [IntKind.wrap_i64]
   omega
  rw [hw]
  have hF : wrdF s 10 i = Proofs.part s 10 i := wrdF_is s 10 (by omega)
  rw [hF]
  refine sk_either (fun h2 => ?_) fun h2 => ?_
  ·have h2 : i = cntA s 10 := by rw [beq_iff_eq] at h2; omega
   refine sk_need hin (sk_need (blt_ok (by omega)) (sk_either (fun h3 => sk_leaf ?_) fun h3 => sk_leaf ?_))
   ·have h4 : beg s 10 0 (cntA s 10) < s.size := by
     rcases Classical.em (beg s 10 0 (cntA s 10) < s.size) with h | h
     ·exact h
     ·have := part_empty.2 h
      rw [h2, this] at h3
      cases h3
    have hl : linN s = cntA s 10 + 1 := by unfold linN; rw [if_pos h4]
    refine pq_bad (bad_at (good_goodK hg (by omega)) (by omega) ?_)
    rw [h2]
    exact lnOk_last h4
   ·have h4 : ¬ beg s 10 0 (cntA s 10) < s.size := part_empty.1 (by rw [← h2]; simpa using h3)
    refine ⟨i + 1, ?_, ⟨by omega, fun j hj hjc => hg.ok j (by omega) hjc, fun _ => h4⟩, by omega⟩
    unfold zqHd
    rw [show min (i + 1) (cntA s 10) = min i (cntA s 10) by omega, wrap_succ (by omega)]
    exact St.Le.refl _
  ·have h2 : i < cntA s 10 := by
    rcases Nat.lt_or_ge i (cntA s 10) with h | h
    ·exact h
    ·have e : i = cntA s 10 := by omega
     rw [e] at h2
     simp at h2
   have hps : (Proofs.part s 10 i).size ≤ s.size := by unfold Proofs.part; rw [ByteArray.size_extract]; omega
   rw [show min i (cntA s 10) = i by omega]
   refine sk_need hin (sk_need (blt_ok (by omega)) (sk_need ?_ ?_))
   ·simp only [Bool.and_eq_true, decide_eq_true_eq, Nat.ble_eq]
    omega
   ·cases i with
    | zero => exact sk_yes rfl (zk_ok hs hg h2)
    | succ j => exact sk_no (by simp only [beq_eq_false_iff_ne]; omega) (zs_ok hs hg h2)
 ·have h1 : i = cntA s 10 + 1 := by simp only [decide_eq_false_iff_not] at h1; omega
  have h4 := hg.last h1
  have hl : linN s = cntA s 10 := by unfold linN; rw [if_neg h4]
  refine .inl ⟨by unfold zqHd; rw [h1], bad_no ?_⟩
  rw [hl]
  exact fun j hj => hg.ok j (by omega) hj
theorem zq_loop (hs : s.size ≤ 4096) : ComesF Tryz.prog (.loop zqLp) (zqB s) (zqHd s 0) (PqEnd s) := by
 refine comesF_loop (zqHd s) (fun i => cntA s 10 + 1 - i) (GoodQ s) (PqEnd s) (fun i hg => (pq_round hs hg).mono fun q hq => ?_) 0 ⟨Nat.zero_le _, fun j hj => by omega, fun e => by omega⟩
 unfold PqRnd at hq
 obtain ⟨x, st⟩ := q
 cases x with
 | normal => exact hq
 | exit i => exact hq
 | ret => exact hq
end
def znN (nm : ByteArray) (c : C) (a e : Int) (tb : List Blk) : St := zqN [(2, pt 0), (3, int a), (4, int e)] (rbox nm c :: tb)
def qaNw (nm : ByteArray) (f0 f1 f2 f3 : Nat → Int) (m : Nat) : List Blk := [rbox nm (.sl true 1 0 4 0 (m + 1)), ⟨false, 31, .rows (m + 1) (skC f0 f1 f2 f3)⟩]
def qaV (nm : ByteArray) (m : Nat) : A := .tup [(true, [cs nm, .sl true 1 0 4 0 (m + 1)]), (false, [ci 0]), (false, [ci 0])]
section
variable (nS : ByteArray → UInt8 → Nat) (fS : ByteArray → UInt8 → Nat → ByteArray) (vI : ByteArray → Int) (gI : ByteArray → Bool) (E : FE) (s : ByteArray)
noncomputable def znO : SkO := .node (decide ((s.size : Int) > 4096)) (.leaf (.inl (.ret, znN sNil nilC 0 26 []))) (.node (s.toList == sNil.toList) (.leaf (.inl (.ret, znN sNil nilC 0 25 []))) (.need (decide ((0 : Int) ≤ 10) && decide ((10 : Int) < 256) && Nat.ble s.size 1000000) (.leaf (.inr (zqPa, zqH (nS s c10) (fS s c10) sNil (fun _ => 0) (fun _ => 0) (fun _ => 0) (fun _ => 0) none 0)))))
theorem znO_into : zqO nS fS vI gI E s = into (zqO nS fS vI gI E s) (znO nS fS s) := by kernel_rfl
theorem znO_fits : fits (zqO nS fS vI gI E s) (znO nS fS s) = true := by kernel_rfl
theorem zqX_bad (a e : Int) (n : Nat) (i : Int) (F : Nat → ByteArray) (nm : ByteArray) (g0 g1 g2 g3 : Nat → Int) (lay : Option Nat) : zqX nS fS vI gI E s (.ret, zqS a e n i F nm (zC 3 lay) (zT g0 g1 g2 g3 lay)) = .leaf (.inl (.ret, znN sNil nilC a e [])) := by
 cases lay with
 | none => kernel_rfl
 | some q => kernel_rfl
def znS1 (n : Nat) (nm : ByteArray) (e : Int) : SkO := .node (e != 0) (.leaf (.inl (.ret, znN sNil nilC (IntKind.i64.wrap ((n : Int) - 1)) e []))) (.leaf (.inl (.ret, znN nm nilC 0 0 [])))
theorem zn1_into (n : Nat) (F : Nat → ByteArray) (nm : ByteArray) (g0 g1 g2 g3 : Nat → Int) (i : Int) : zqX nS fS vI gI E s (.exit 0, zqH n F nm g0 g1 g2 g3 none i) = into (zqX nS fS vI gI E s (.exit 0, zqH n F nm g0 g1 g2 g3 none i)) (znS1 n nm (E nm 0 (fun _ => 0) (fun _ => 0) (fun _ => 0) (fun _ => 0))) := by kernel_rfl
theorem zn1_fits (n : Nat) (F : Nat → ByteArray) (nm : ByteArray) (g0 g1 g2 g3 : Nat → Int) (i : Int) : fits (zqX nS fS vI gI E s (.exit 0, zqH n F nm g0 g1 g2 g3 none i)) (znS1 n nm (E nm 0 (fun _ => 0) (fun _ => 0) (fun _ => 0) (fun _ => 0))) = true := by kernel_rfl
def znS2 (n : Nat) (nm : ByteArray) (g0 g1 g2 g3 : Nat → Int) (q : Nat) (e : Int) : SkO := .need (okN (q + 1)) (.node (e != 0) (.leaf (.inl (.ret, znN sNil nilC (IntKind.i64.wrap ((n : Int) - 1)) e []))) (.leaf (.inl (.ret, znN nm (.sl true 1 0 4 0 (q + 1)) 0 0 [⟨false, 31, .rows (q + 1) (skC g0 g1 g2 g3)⟩]))))
theorem zn2_into (n : Nat) (F : Nat → ByteArray) (nm : ByteArray) (g0 g1 g2 g3 : Nat → Int) (q : Nat) (i : Int) : zqX nS fS vI gI E s (.exit 0, zqH n F nm g0 g1 g2 g3 (some q) i) = into (zqX nS fS vI gI E s (.exit 0, zqH n F nm g0 g1 g2 g3 (some q) i)) (znS2 n nm g0 g1 g2 g3 q (E nm (q + 1) g0 g1 g2 g3)) := by kernel_rfl
theorem zn2_fits (n : Nat) (F : Nat → ByteArray) (nm : ByteArray) (g0 g1 g2 g3 : Nat → Int) (q : Nat) (i : Int) : fits (zqX nS fS vI gI E s (.exit 0, zqH n F nm g0 g1 g2 g3 (some q) i)) (znS2 n nm g0 g1 g2 g3 q (E nm (q + 1) g0 g1 g2 g3)) = true := by kernel_rfl
end
theorem zn_left (a e : Int) : Left2 Tryz.prog Tryz.f24 (hpT [] [] []) (errV a e) (hpT [] [] []) (.ret, znN sNil nilC a e []) := left_of (b := true) (by kernel_rfl)
theorem zn_left1 (nm : ByteArray) (f0 f1 f2 f3 : Nat → Int) (m : Nat) : Left2 Tryz.prog Tryz.f24 (hpT [] [] []) (qaV nm m) (hpT [] [] (qaNw nm f0 f1 f2 f3 m)) (.ret, znN nm (.sl true 1 0 4 0 (m + 1)) 0 0 [⟨false, 31, .rows (m + 1) (skC f0 f1 f2 f3)⟩]) := left_of (b := false) (by kernel_rfl)
theorem zq_start0 (N : Nat) (F : Nat → ByteArray) (s : ByteArray) (g0 g1 g2 g3 : Nat → Int) : zqH N F sNil (fun _ => 0) (fun _ => 0) (fun _ => 0) (fun _ => 0) none 0 = zqH N F (nmK s 0) g0 g1 g2 g3 (layK 0) ((0 : Nat) : Int) := by kernel_rfl
theorem zq_start (s : ByteArray) : zqH (wrdN s c10) (wrdF s c10) sNil (fun _ => 0) (fun _ => 0) (fun _ => 0) (fun _ => 0) none 0 = zqHd s 0 := by
 have hc : c10 = 10 := rfl
 unfold zqHd
 rw [Nat.zero_min, hc]
 exact zq_start0 _ _ s _ _ _ _
theorem zq_loop0 (s : ByteArray) (hs : s.size ≤ 4096) : ComesF Tryz.prog (.loop (nthLoop (bodyOf Tryz.f24) zqPa)) (zqB s) (zqH (wrdN s c10) (wrdF s c10) sNil (fun _ => 0) (fun _ => 0) (fun _ => 0) (fun _ => 0) none 0) (PqEnd s) := by
 rw [zq_start]
 exact zq_loop hs
theorem psAt_sky {s : ByteArray} (h : (e0S s != 0) = false) (hn : badAt s = none) (ht : (skyE (nmP s) (nlP s) (f0P s) (f1P s) (f2P s) (f3P s) != 0) = true) : psAt s = (cntA s 10 : Int) := by
 unfold psAt
 rw [h, hn, ht]
theorem psq_call (s : ByteArray) (V : A) (H : Hp) (he : psE s ≠ 0 → V = errV (psAt s) (psE s) ∧ H = hpT [] [] []) (h0 : ∀ m, psE s = 0 → nlP s = m + 1 → V = qaV (nmP s) m ∧ H = hpT [] [] (qaNw (nmP s) (f0P s) (f1P s) (f2P s) (f3P s) m)) :
  CallAt Tryz.prog 24 [.one (.lit (.string s))] (hpT [] [] []) V H := by
 have hbad : ∀ {e : Int}, e0S s = e → e ≠ 0 → V = errV 0 e ∧ H = hpT [] [] [] := fun {e} h1 h2 => by
  have hb : (e0S s != 0) = true := by rw [h1, bne_iff_ne]; exact h2
  have e1 : psE s = e0S s := by unfold psE; rw [hb]
  have e2 : psAt s = 0 := by unfold psAt; rw [hb]
  have h3 := he (by rw [e1, h1]; exact h2)
  rw [e1, e2, h1] at h3
  exact h3
 refine call_baseS (recT_ok tbQa_ok) (c := bodyOf Tryz.f24) (fn := Tryz.f24) Tryz.func24 (by kernel_rfl) (by kernel_rfl) (true, false) 1 zqSl [2, 3, 4] (sB := zqB s) (by kernel_rfl) (t := zqO wrdN wrdF vS gS skyE s) (by delta zqO; rfl) (znO_into _ _ _ _ _ s) (znO_fits _ _ _ _ _ s) ?_
 refine sk_either (fun h => sk_done ?_) fun h => sk_either (fun hn => sk_done ?_) fun hn => ?_
 ·have e0 : e0S s = 26 := by unfold e0S; rw [h]; rfl
  obtain ⟨rfl, rfl⟩ := hbad e0 (by decide)
  exact zn_left _ _
 ·have e0 : e0S s = 25 := by unfold e0S; rw [h, hn]; rfl
  obtain ⟨rfl, rfl⟩ := hbad e0 (by decide)
  exact zn_left _ _
 ·obtain ⟨hs, hp, e0⟩ := e0_no h hn
  have hb0 : (e0S s != 0) = false := by rw [e0]; rfl
  refine sk_need ?_ (sk_stop (PqEnd s) true [] [2, 3, 4] (zq_loop0 s hs) fun q hq => ?_)
  ·simp only [Bool.and_eq_true, decide_eq_true_eq, Nat.ble_eq]
   omega
  rcases hq with ⟨rfl, hn⟩ | ⟨k, nm, g0, g1, g2, g3, lay, hb, rfl⟩
  ·obtain ⟨hl, hc⟩ := wN_pos hn hp
   have hcs : cntA s 10 ≤ s.size := by rw [← mAt_end]; exact mAt_le s 10 _
   have e1 : psE s = skyE (nmP s) (nlP s) (f0P s) (f1P s) (f2P s) (f3P s) := by unfold psE; rw [hb0, hn]
   have e2 := psAt_sky hb0 hn
   have hnl : nlP s + 1 = cntA s 10 := by unfold nlP; omega
   have hw : IntKind.i64.wrap ((wrdN s 10 : Int) - 1) = (cntA s 10 : Int) := by
    rw [IntKind.wrap_i64, wrdN_is]
    omega
   unfold zqHd
   rw [show min (cntA s 10 + 1) (cntA s 10) = cntA s 10 by omega]
   have hr : nmK s (cntA s 10) = nmP s := by rw [← hnl]; rfl
   have hlay : layK (cntA s 10) = layK (nlP s + 1) := by rw [hnl]
   rw [hr, hlay]
   rw [← hw] at e2
   revert he h0 e1 e2
   generalize nlP s = n
   generalize nmP s = nm
   generalize f0P s = g0
   generalize f1P s = g1
   generalize f2P s = g2
   generalize f3P s = g3
   generalize wrdF s 10 = F
   generalize wrdN s 10 = N
   intro he h0 e1 e2
   cases n with
   | zero =>
    have hz := sky_zero2 nm g0 g1 g2 g3
    refine leads_in (show _ = zqX wrdN wrdF vS gS skyE s (.exit 0, zqH N F nm g0 g1 g2 g3 none ((cntA s 10 + 1 : Nat) : Int)) by delta zqX; rfl) (zn1_into _ _ _ _ _ s N F nm g0 g1 g2 g3 _) (zn1_fits _ _ _ _ _ s N F nm g0 g1 g2 g3 _) (sk_yes (by rw [sky_zero nm _ _ _ _ g0 g1 g2 g3]; exact hz) (sk_done ?_))
    have e2 := e2 hz
    obtain ⟨rfl, rfl⟩ := he (by rw [e1]; simpa using hz)
    rw [e1, e2, sky_zero nm g0 g1 g2 g3 (fun _ => 0) (fun _ => 0) (fun _ => 0) (fun _ => 0)]
    exact zn_left _ _
   | succ m =>
    refine leads_in (show _ = zqX wrdN wrdF vS gS skyE s (.exit 0, zqH N F nm g0 g1 g2 g3 (some m) ((cntA s 10 + 1 : Nat) : Int)) by delta zqX; rfl) (zn2_into _ _ _ _ _ s N F nm g0 g1 g2 g3 m _) (zn2_fits _ _ _ _ _ s N F nm g0 g1 g2 g3 m _) (sk_need (okN_ok _) (sk_either (fun h2 => sk_done ?_) fun h2 => sk_done ?_))
    ·have h3 : (skyE nm (m + 1) g0 g1 g2 g3 != 0) = true := h2
     have e2 := e2 h3
     obtain ⟨rfl, rfl⟩ := he (by rw [e1]; simpa using h3)
     rw [e1, e2]
     exact zn_left _ _
    ·have h3 : (skyE nm (m + 1) g0 g1 g2 g3 != 0) = false := h2
     obtain ⟨rfl, rfl⟩ := h0 m (by rw [e1]; simpa using h3) rfl
     exact zn_left1 nm g0 g1 g2 g3 m
  ·have e1 : psE s = 25 := by unfold psE; rw [hb0, hb]
   have e2 : psAt s = (k : Int) := by unfold psAt; rw [hb0, hb]
   obtain ⟨rfl, rfl⟩ := he (by rw [e1]; decide)
   rw [e1, e2]
   exact leads_leaf (show _ = zqX wrdN wrdF vS gS skyE s (.ret, zqS (k : Int) 25 (wrdN s 10) (k : Int) (wrdF s 10) nm (zC 3 lay) (zT g0 g1 g2 g3 lay)) by delta zqX; rfl) (zqX_bad _ _ _ _ _ _ _ _ _ _ _ _ _ _ _ _ _) (cutF_dn (zn_left _ _))
end Go.Ev
