/- TopQuartzDay up to its first loop; that loop, which copies the sky. Conditions: none. -/
import Derived.Test.YtjckcdpjibfacaaGreatQe
namespace Go.Ev
open Go Go.Proofs
set_option maxRecDepth 100000
section
variable (fl : Bool) (f : Fq) (nm : ByteArray) (m : Nat) (g0 g1 g2 g3 : Nat → Int) (x y z num den : Int)
def conC : List C := [ci x, ci y, ci z, ci num, ci den]
def qzHp : Hp := skH (m + 2) g0 g1 g2 g3
def qzB : St := baseM 397 [skyA nm (m + 2), .agg (conC x y z num den)] (qzHp m g0 g1 g2 g3)
def qzN (env : List (Nat × A)) (news : List Blk) : St := skM 397 (m + 2) g0 g1 g2 g3 env news
noncomputable def qzC : Code := bodyOf Tryz.f3
noncomputable def qzO : Tree ((X × St) ⊕ (List Bool × St)) := evO (reQ fl f) qzC [2, 3, 4, 5, 88, 89, 90] [4] (qzB nm m g0 g1 g2 g3 x y z num den)
def boxC : Blk := ⟨false, 28, .flat (conC x y z num den)⟩
def qzW (c : C) (tb : List Blk) : List Blk := [skyB 24 nm (m + 2), boxC x y z num den, ⟨false, 38, .flat [cs nm, c]⟩] ++ tb
def dayC : Nat → C
 | 0 => nilC
 | k + 1 => slC true 4 4 (k + 1)
def dayT (g0 g1 g2 g3 : Nat → Int) : Nat → List Blk
 | 0 => []
 | k + 1 => [⟨false, 39, .rows (k + 1) (skC g0 g1 g2 g3)⟩]
def qzE1 (b : Bool) (i : Int) : List (Nat × A) := [(2, pt 1), (3, pt 2), (4, boo b), (5, pt 3), (88, slT 0 4 (m + 2)), (89, int ((m + 2 : Nat) : Int)), (90, int i)]
def qzH1 (k : Nat) : St := qzN m g0 g1 g2 g3 (qzE1 m false (k : Int)) (qzW nm m x y z num den (dayC k) (dayT g0 g1 g2 g3 k))
def path1 : List Bool := [true, true, true, true, false, true]
noncomputable def qzT1 (k : Nat) : Tree (X × St) := (reQ fl f (nthLoop qzC path1) (qzH1 nm m g0 g1 g2 g3 x y z num den k)).bind (canonT [2, 3, 4, 5, 88, 89, 90] [2, 3, 4, 5] (qzB nm m g0 g1 g2 g3 x y z num den))
def qzX1 (b : Bool) (k : Nat) : St := qzN m g0 g1 g2 g3 [(2, pt 1), (3, pt 2), (4, boo b), (5, pt 3)] (qzW nm m x y z num den (dayC k) (dayT g0 g1 g2 g3 k))
noncomputable def qzQ1 (q : X × St) : Tree ((X × St) ⊕ (List Bool × St)) := evO2 (reQ fl f) true qzC path1 [2, 3, 4, 5, 8, 9, 11, 12, 13, 14] [4] (qzB nm m g0 g1 g2 g3 x y z num den) q
noncomputable def qzA1 : Tree ((X × St) ⊕ (List Bool × St)) := qzQ1 fl f nm m g0 g1 g2 g3 x y z num den (.exit 0, qzX1 nm m g0 g1 g2 g3 x y z num den false (m + 2))
end
end Go.Ev
namespace Go.Ev
open Go Go.Proofs
set_option maxRecDepth 100000
def path2 : List Bool := [true, true, true, true, true, true, true, true, true, true, true, false, true]
section
variable (fl : Bool) (f : Fq) (nm : ByteArray) (m : Nat) (g0 g1 g2 g3 : Nat → Int) (x y z num den : Int)
def qzYes : St := qzN m g0 g1 g2 g3 [(4, boo true)] []
def qzR : SkO := .leaf (.inl (.ret, qzYes m g0 g1 g2 g3))
def wdG : Bool := decide (IntKind.i64.wrap (g0 (lN (m + 2)) - g0 z0N) > 59)
noncomputable def qzP1 : SkO := .need (okN (m + 2)) (.node (f.E nm (m + 2) g0 g1 g2 g3 != 0) (.tt (.tt (.tt (qzR m g0 g1 g2 g3)))) (.node (qconeErr x y z num den != 0) (.tt (.tt (qzR m g0 g1 g2 g3))) (.node (decide (maxW x y z > 40)) (.tt (qzR m g0 g1 g2 g3)) (.need (lB (m + 2)) (.need (Nat.blt (lN (m + 2)) (m + 2)) (.need (zB (m + 2)) (.node (wdG m g0) (qzR m g0 g1 g2 g3)
 (.leaf (.inr (path1, qzH1 nm m g0 g1 g2 g3 x y z num den 0))))))))))
noncomputable def qzOS : SkO := .node (decide ((nm.size : Int) ≤ 40)) (.node (decide (((m + 2 : Nat) : Int) ≤ 12)) (.ff (qzP1 f nm m g0 g1 g2 g3 x y z num den)) (.node (!(((m + 2 : Nat) : Int) == 65)) (.tt (.tt (.tt (.tt (qzR m g0 g1 g2 g3))))) (qzP1 f nm m g0 g1 g2 g3 x y z num den))) (.tt (.tt (.tt (.tt (.tt (qzR m g0 g1 g2 g3))))))
theorem qzO_into : qzO fl f nm m g0 g1 g2 g3 x y z num den = into (qzO fl f nm m g0 g1 g2 g3 x y z num den) (qzOS f nm m g0 g1 g2 g3 x y z num den) := by kernel_rfl
theorem qzO_fits : fits (qzO fl f nm m g0 g1 g2 g3 x y z num den) (qzOS f nm m g0 g1 g2 g3 x y z num den) = true := by kernel_rfl
noncomputable def qzS1 : Nat → SkX
 | 0 => .node (decide (((0 : Nat) : Int) < ((m + 2 : Nat) : Int))) (.need (kB (m + 2) 0) (.node (decide (maxW (g1 (ixN 0)) (g2 (ixN 0)) (g3 (ixN 0)) > 40)) (.leaf (.ret, qzX1 nm m g0 g1 g2 g3 x y z num den true 0))
   (.leaf (.normal, qzN m g0 g1 g2 g3 (qzE1 m false (IntKind.i64.wrap (((0 : Nat) : Int) + 1))) (qzW nm m x y z num den (slC true 4 4 1) [⟨false, 39, .flat [ci (g0 (ixN 0)), ci (g1 (ixN 0)), ci (g2 (ixN 0)), ci (g3 (ixN 0))]⟩])))))
  (.leaf (.exit 0, qzX1 nm m g0 g1 g2 g3 x y z num den false 0))
 | k + 1 => .node (decide (((k + 1 : Nat) : Int) < ((m + 2 : Nat) : Int))) (.need (kB (m + 2) (k + 1)) (.need (Nat.blt (ixN (k + 1)) (m + 2)) (need3 (Nat.blt (ixN (k + 1)) (m + 2)) (.node (decide (maxW (g1 (ixN (k + 1))) (g2 (ixN (k + 1))) (g3 (ixN (k + 1))) > 40)) (.leaf (.ret, qzX1 nm m g0 g1 g2 g3 x y z num den true (k + 1)))
   (.need (apN 39 k) (.leaf (.normal, qzN m g0 g1 g2 g3 (qzE1 m false (IntKind.i64.wrap (((k + 1 : Nat) : Int) + 1))) (qzW nm m x y z num den (slC true 4 4 (k + 1 + 1)) [⟨false, 39, .rows (k + 1 + 1) (skC (putK g0 k) (putK g1 k) (putK g2 k) (putK g3 k))⟩]))))))))
  (.leaf (.exit 0, qzX1 nm m g0 g1 g2 g3 x y z num den false (k + 1)))
theorem qz1_into : ∀ k, qzT1 fl f nm m g0 g1 g2 g3 x y z num den k = into (qzT1 fl f nm m g0 g1 g2 g3 x y z num den k) (qzS1 nm m g0 g1 g2 g3 x y z num den k)
 | 0 => by kernel_rfl
 | k + 1 => by kernel_rfl
theorem qz1_fits : ∀ k, fits (qzT1 fl f nm m g0 g1 g2 g3 x y z num den k) (qzS1 nm m g0 g1 g2 g3 x y z num den k) = true
 | 0 => by kernel_rfl
 | k + 1 => by kernel_rfl
theorem qzQ1_ret (k : Nat) : qzQ1 fl f nm m g0 g1 g2 g3 x y z num den (.ret, qzX1 nm m g0 g1 g2 g3 x y z num den true k) = .leaf (.inl (.ret, qzYes m g0 g1 g2 g3)) := by
 cases k with
 | zero => kernel_rfl
 | succ k => kernel_rfl
def spSl : A := match fl with
 | true => slO 4 2 (f.m (m + 2) g0 g1 g2 g3)
 | false => nilA
def idM : Nat := match fl with
 | true => 5
 | false => 4
def qzE2 (b : Bool) (t0 wd : Int) (i : Int) : List (Nat × A) := [(2, pt 1), (3, pt 2), (4, boo b), (5, pt 3), (8, .one (.fn 9 [(3, 0, 1, 0)])), (9, spSl fl f m g0 g1 g2 g3), (11, int t0), (12, int wd), (13, pt (idM fl)), (14, int i)]
def spnB : Blk := ⟨false, 69, .rows (f.m (m + 2) g0 g1 g2 g3) (spC (f.F (m + 2) g0 g1 g2 g3) (f.T (m + 2) g0 g1 g2 g3))⟩
def dayB (k : Nat) : Blk := ⟨false, 38, .flat [cs nm, slC true k 4 (m + 2)]⟩
def smpB (wn : Nat) (F : Nat → Nat) : Blk := ⟨false, 56, .rows wn [.flt .f32 F]⟩
def mapX (wd : Int) (wn k : Nat) : Blk := ⟨false, 47, .flat (ptO wd 1 k wn)⟩
def sunB : Blk := ⟨false, 39, .rows (m + 2) (skC g0 g1 g2 g3)⟩
def qzW2 (wd : Int) (wn : Nat) (F : Nat → Nat) : List Blk := match fl with
 | true => [skyB 24 nm (m + 2), boxC x y z num den, dayB nm m 6, spnB f m g0 g1 g2 g3, mapX wd wn 7, sunB m g0 g1 g2 g3, smpB wn F]
 | false => [skyB 24 nm (m + 2), boxC x y z num den, dayB nm m 5, mapX wd wn 6, sunB m g0 g1 g2 g3, smpB wn F]
def qzH2 (t0 wd : Int) (wn : Nat) (F : Nat → Nat) (i : Int) : St := qzN m g0 g1 g2 g3 (qzE2 fl f m g0 g1 g2 g3 false t0 wd i) (qzW2 fl f nm m g0 g1 g2 g3 x y z num den wd wn F)
def wdI : Int := IntKind.i64.wrap (IntKind.i64.wrap (g0 (lN (m + 2)) - g0 z0N) + 1)
def gdK (n : Nat) : Bool := Nat.ble n n && (Nat.ble n 1000000 && true)
def spnK : Bool := match fl with
 | true => Nat.blt 0 (f.m (m + 2) g0 g1 g2 g3)
 | false => Nat.beq (f.m (m + 2) g0 g1 g2 g3) 0
noncomputable def mkK (wd : Int) : Bool := decide (wd = wd) && decide (0 ≤ wd) && Nat.ble (wd.toNat * 4) 140737488355328 && Nat.ble wd.toNat 9223372036854775807
noncomputable def qzP2 : SkO := .need (gdK (m + 2)) (.need (okN (m + 2)) (.need (f.E nm (m + 2) g0 g1 g2 g3 == 0) (.need (spnK fl f m g0 g1 g2 g3) (.ff (.need (zB (m + 2)) (.nn (.need (lB (m + 2)) (.need (Nat.blt (lN (m + 2)) (m + 2)) (.need (mkK (wdI m g0)) (.leaf (.inr (path2, qzH2 fl f nm m g0 g1 g2 g3 x y z num den (g0 z0N) (wdI m g0) (wdI m g0).toNat (fun _ => 0) 0))))))))))))
theorem qzA1_into : qzA1 fl f nm m g0 g1 g2 g3 x y z num den = into (qzA1 fl f nm m g0 g1 g2 g3 x y z num den) (qzP2 fl f nm m g0 g1 g2 g3 x y z num den) := by
 cases fl with
 | true => kernel_rfl
 | false => kernel_rfl
theorem qzA1_fits : fits (qzA1 fl f nm m g0 g1 g2 g3 x y z num den) (qzP2 fl f nm m g0 g1 g2 g3 x y z num den) = true := by
 cases fl with
 | true => kernel_rfl
 | false => kernel_rfl
end
end Go.Ev
