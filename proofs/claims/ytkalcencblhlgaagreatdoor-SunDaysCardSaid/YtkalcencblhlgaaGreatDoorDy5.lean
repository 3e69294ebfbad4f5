/- SunDays: a round of its third loop, behind the loop over spans. Conditions: none. -/
import Derived.Test.YtkalcencblhlgaaGreatDoorDy4
namespace Go.Ev
open Go Go.Proofs
set_option maxRecDepth 100000

def dyV6 : List Nat := [1, 2, 4, 7, 10, 12, 14, 15, 16, 29, 316, 317]
section
variable (fl : Bool) (f : Fy) (nm : ByteArray) (m : Nat) (g0 g1 g2 g3 : Nat → Int) (b : Int)
noncomputable def dyA6 (q : Vy) (k : Nat) (t : Int) (day : Bool) (i : Int) : Tree ((X × St) ⊕ (List Bool × St)) := evO2 (reY fl f) true dyC3 pathD dyV6 dyV3 (dyB nm m g0 g1 g2 g3 b) (.exit 8, dyH5 fl f nm m g0 g1 g2 g3 b q (k : Int) t day i)
noncomputable def dyZ6 (q : Vy) (k : Nat) (t : Int) (day : Bool) (i : Int) : Option ((X × St) ⊕ (List Bool × St)) := lastL (dyA6 fl f nm m g0 g1 g2 g3 b q k t day i)
def pathE : List Bool := [true, false, true, true, true, true, true, true, true, true, true, true, true, true, true, true]
/-- the head of the loop over both ends -/
def dyW6 (x y z : Int) : List Blk := match fl with
  | true => [skyB 24 nm (m + 2), ⟨false, 24, .flat [cs nm, slC true 7 4 (m + 2)]⟩, ⟨false, 49, .rows (f.m (m + 2) g0 g1 g2 g3) (spC (f.F (m + 2) g0 g1 g2 g3) (f.T (m + 2) g0 g1 g2 g3))⟩, vecB x y z, ⟨false, 31, .rows (m + 2) (skC (latT g0 b) g1 g2 g3)⟩]
  | false => [skyB 24 nm (m + 2), ⟨false, 24, .flat [cs nm, slC true 6 4 (m + 2)]⟩, vecB x y z, ⟨false, 31, .rows (m + 2) (skC (latT g0 b) g1 g2 g3)⟩]
def dyE6 (k t nn a1 a2 a3 b1 b2 b3 j : Int) : List (Nat × A) := dyE3 fl f m g0 g1 g2 g3 b false k t ++ [(16, match fl with | true => pt 6 | false => pt 5), (29, int nn), (316, .agg [ci a1, ci a2, ci a3, ci b1, ci b2, ci b3]), (317, int j)]
def dyH6 (x y z k t nn a1 a2 a3 b1 b2 b3 j : Int) : St := dyN m g0 g1 g2 g3 (dyE6 fl f m g0 g1 g2 g3 b k t nn a1 a2 a3 b1 b2 b3 j) (dyW6 fl f nm m g0 g1 g2 g3 b x y z)
noncomputable def dyT6 (x y z k t nn a1 a2 a3 b1 b2 b3 : Int) (j : Nat) : Tree (X × St) := (reY fl f (nthLoop dyC3 pathE) (dyH6 fl f nm m g0 g1 g2 g3 b x y z k t nn a1 a2 a3 b1 b2 b3 (j : Int))).bind (canonT dyV6 dyV6 (dyB nm m g0 g1 g2 g3 b))
noncomputable def dyA7 (x y z k t nn a1 a2 a3 b1 b2 b3 : Int) : Tree ((X × St) ⊕ (List Bool × St)) := evO2 (reY fl f) true dyC3 pathE dyV3 dyV3 (dyB nm m g0 g1 g2 g3 b) (.exit 10, dyH6 fl f nm m g0 g1 g2 g3 b x y z k t nn a1 a2 a3 b1 b2 b3 2)
noncomputable def dyA8 (k t : Int) : Tree ((X × St) ⊕ (List Bool × St)) := evO2 (reY fl f) true (bodyOf Tryz.f3) path3 [] [4] (dyB nm m g0 g1 g2 g3 b) (.exit 4, dyH3 fl f nm m g0 g1 g2 g3 b k t)
def need3O (b : Bool) (S : SkO) : SkO := .need b (.need b (.need b S))
def lfO (x : X) (st : St) : SkO := .leaf (.inl (x, st))
def hB : Bool := decide (0 ≤ f.h (m + 2) g3) && decide (f.h (m + 2) g3 < ((m + 2 : Nat) : Int))
def hN : Nat := 0 + Int.toNat (f.h (m + 2) g3)
def mnI (k : Nat) : Int := if IntKind.i64.wrap (((m + 2 : Nat) : Int) - 1) < IntKind.i64.wrap ((k : Int) + 1) then IntKind.i64.wrap (((m + 2 : Nat) : Int) - 1) else IntKind.i64.wrap ((k : Int) + 1)
def mnB (k : Nat) : Bool := decide (0 ≤ mnI m k) && decide (mnI m k < ((m + 2 : Nat) : Int))
def mnN (k : Nat) : Nat := 0 + Int.toNat (mnI m k)
section
variable (x y z x1 y1 z1 : Int) (is : Bool) (k : Nat) (t : Int) (day : Bool)
def rtO : SkO := lfO .ret (dyH3 fl f nm m g0 g1 g2 g3 b (k : Int) t)
def nxO : SkO := lfO .normal (dyH3 fl f nm m g0 g1 g2 g3 b (k : Int) (IntKind.i64.wrap (t + 1)))
def eqV3 : Bool := x1 == x && (y1 == y && (z1 == z && true))
def toldO : SkO := .ff (.node (dirErr (g1 (ixN k)) (g2 (ixN k)) (g3 (ixN k)) != 0) (.tt (.tt (.tt (rtO fl f nm m g0 g1 g2 g3 b k t))))
  (.node (!(eqV3 (rdW (g1 (ixN k)) (g2 (ixN k)) (g3 (ixN k)) (g1 (ixN k))) (rdW (g1 (ixN k)) (g2 (ixN k)) (g3 (ixN k)) (g2 (ixN k))) (rdW (g1 (ixN k)) (g2 (ixN k)) (g3 (ixN k)) (g3 (ixN k))) x y z)) (.tt (.tt (rtO fl f nm m g0 g1 g2 g3 b k t)))
  (.need (hB f m g3) (.need (Nat.blt (hN f m g3) (m + 2)) (.node (decide (g3 (ixN k) > g3 (hN f m g3))) (.tt (rtO fl f nm m g0 g1 g2 g3 b k t)) (.node (!(is == decide (g3 (ixN k) > 0))) (rtO fl f nm m g0 g1 g2 g3 b k t) (nxO fl f nm m g0 g1 g2 g3 b k t)))))))
noncomputable def midO : SkO := .ff (.need (mnB m k) (.need (Nat.blt (mnN m k) (m + 2)) (need3O (Nat.blt (mnN m k) (m + 2)) (.node (farErr x y z 1048576 != 0) (.tt (rtO fl f nm m g0 g1 g2 g3 b k t)) (.node (eqV3 0 0 0 x y z) (rtO fl f nm m g0 g1 g2 g3 b k t)
  (.leaf (.inr (pathE, dyH6 fl f nm m g0 g1 g2 g3 b x y z (k : Int) t (dotW (g1 (ixN k)) (g2 (ixN k)) (g3 (ixN k)) (g1 (mnN m k)) (g2 (mnN m k)) (g3 (mnN m k))) (g1 (ixN k)) (g2 (ixN k)) (g3 (ixN k)) (g1 (mnN m k)) (g2 (mnN m k)) (g3 (mnN m k)) 0))))))))
noncomputable def dyP6 : SkO := .ff (.ff (.node (!(eqV3 x y z x1 y1 z1)) (.tt (.tt (rtO fl f nm m g0 g1 g2 g3 b k t))) (.node (!(is == day)) (.tt (rtO fl f nm m g0 g1 g2 g3 b k t)) (.ff (.ff (.need (kB (m + 2) k) (.need (Nat.blt (ixN k) (m + 2)) (need3O (Nat.blt (ixN k) (m + 2)) (.node (t == g0 (ixN k)) (toldO fl f nm m g0 g1 g2 g3 b x y z is k t) (midO fl f nm m g0 g1 g2 g3 b x y z k t))))))))))
def dyP7 : SkO := .ff (.ff (.node (!(eqV3 x y z x1 y1 z1)) (.tt (.tt (rtO fl f nm m g0 g1 g2 g3 b k t))) (.node (!(is == day)) (.tt (rtO fl f nm m g0 g1 g2 g3 b k t)) (.tt (.ff (.node is (rtO fl f nm m g0 g1 g2 g3 b k t) (.need (kB (m + 2) k) (.need (Nat.blt (ixN k) (m + 2)) (need3O (Nat.blt (ixN k) (m + 2)) (.node (t == g0 (ixN k)) (.tt (.tt (.tt (.tt (.tt (rtO fl f nm m g0 g1 g2 g3 b k t)))))) (.tt (nxO fl f nm m g0 g1 g2 g3 b k t))))))))))))
theorem dyA6_into (i : Int) : dyA6 fl f nm m g0 g1 g2 g3 b ⟨x, y, z, 0, x1, y1, z1, 0, is, 0⟩ k t day i = into (dyA6 fl f nm m g0 g1 g2 g3 b ⟨x, y, z, 0, x1, y1, z1, 0, is, 0⟩ k t day i) (dyP6 fl f nm m g0 g1 g2 g3 b x y z x1 y1 z1 is k t day) := by
  cases fl with
  | true => kernel_rfl
  | false => kernel_rfl
theorem dyA6_fits (i : Int) : fits (dyA6 fl f nm m g0 g1 g2 g3 b ⟨x, y, z, 0, x1, y1, z1, 0, is, 0⟩ k t day i) (dyP6 fl f nm m g0 g1 g2 g3 b x y z x1 y1 z1 is k t day) = true := by
  cases fl with
  | true => kernel_rfl
  | false => kernel_rfl
theorem dyA6_into7 (i : Int) : dyA6 fl f nm m g0 g1 g2 g3 b ⟨x, y, z, 7, x1, y1, z1, 7, is, 7⟩ k t day i = into (dyA6 fl f nm m g0 g1 g2 g3 b ⟨x, y, z, 7, x1, y1, z1, 7, is, 7⟩ k t day i) (dyP7 fl f nm m g0 g1 g2 g3 b x y z x1 y1 z1 is k t day) := by
  cases fl with
  | true => kernel_rfl
  | false => kernel_rfl
theorem dyA6_fits7 (i : Int) : fits (dyA6 fl f nm m g0 g1 g2 g3 b ⟨x, y, z, 7, x1, y1, z1, 7, is, 7⟩ k t day i) (dyP7 fl f nm m g0 g1 g2 g3 b x y z x1 y1 z1 is k t day) = true := by
  cases fl with
  | true => kernel_rfl
  | false => kernel_rfl
end
/-! a round of the loop over both ends -/
section
variable (x y z k t nn a1 a2 a3 b1 b2 b3 : Int)
def cmL (p1 p2 p3 : Int) : Int := IntKind.i64.wrap (loW (IntKind.i64.wrap (dotW x y z p1 p2 p3 * dotW x y z p1 p2 p3)) (dotW x y z x y z) (IntKind.i64.wrap (dotW x y z p1 p2 p3 * dotW x y z p1 p2 p3)) * loW (IntKind.i64.wrap (nn * nn)) (dotW p1 p2 p3 p1 p2 p3) (dotW p1 p2 p3 p1 p2 p3))
def cmR (p1 p2 p3 : Int) : Int := IntKind.i64.wrap (loW (IntKind.i64.wrap (nn * nn)) (dotW p1 p2 p3 p1 p2 p3) (IntKind.i64.wrap (nn * nn)) * loW (IntKind.i64.wrap (dotW x y z p1 p2 p3 * dotW x y z p1 p2 p3)) (dotW x y z x y z) (dotW x y z x y z))
def enC (p1 p2 p3 : Int) (R N : SkX) : SkX := .node (decide (nn ≥ 0)) (.nn (.need (lowO [IntKind.i64.wrap (dotW x y z p1 p2 p3 * dotW x y z p1 p2 p3), dotW x y z x y z] []) (.nn (.need (lowO [IntKind.i64.wrap (nn * nn), dotW p1 p2 p3 p1 p2 p3] []) (.node (decide (cmL x y z nn p1 p2 p3 < cmR x y z nn p1 p2 p3)) (.tt R) (.node (decide (cmL x y z nn p1 p2 p3 > cmR x y z nn p1 p2 p3)) (.ff N) (.ff N))))))) (.ff N)
def enB (p1 p2 p3 : Int) (R N : SkX) : SkX := .node (decide (nn > 0)) (.node (dotW x y z p1 p2 p3 == 0) R (enC x y z nn p1 p2 p3 R N)) (.ff (enC x y z nn p1 p2 p3 R N))
def enA (p1 p2 p3 : Int) (R N : SkX) : SkX := .tt (.node (decide (nn ≥ 0)) (.node (decide (dotW x y z p1 p2 p3 < 0)) (.tt R) (enB x y z nn p1 p2 p3 R N)) (.ff (enB x y z nn p1 p2 p3 R N)))
def dyL6 (X0 : X) (j : Int) : SkX := .leaf (X0, dyH6 fl f nm m g0 g1 g2 g3 b x y z k t nn a1 a2 a3 b1 b2 b3 j)
def dyS6 : Nat → SkX
  | 0 => enA x y z nn a1 a2 a3 (dyL6 fl f nm m g0 g1 g2 g3 b x y z k t nn a1 a2 a3 b1 b2 b3 .ret 0) (dyL6 fl f nm m g0 g1 g2 g3 b x y z k t nn a1 a2 a3 b1 b2 b3 .normal 1)
  | 1 => enA x y z nn b1 b2 b3 (dyL6 fl f nm m g0 g1 g2 g3 b x y z k t nn a1 a2 a3 b1 b2 b3 .ret 1) (dyL6 fl f nm m g0 g1 g2 g3 b x y z k t nn a1 a2 a3 b1 b2 b3 .normal 2)
  | _ => .ff (dyL6 fl f nm m g0 g1 g2 g3 b x y z k t nn a1 a2 a3 b1 b2 b3 (.exit 10) 2)
theorem dyT6_into0 : dyT6 fl f nm m g0 g1 g2 g3 b x y z k t nn a1 a2 a3 b1 b2 b3 0 = into (dyT6 fl f nm m g0 g1 g2 g3 b x y z k t nn a1 a2 a3 b1 b2 b3 0) (dyS6 fl f nm m g0 g1 g2 g3 b x y z k t nn a1 a2 a3 b1 b2 b3 0) := by
  cases fl with
  | true => kernel_rfl
  | false => kernel_rfl
theorem dyT6_into1 : dyT6 fl f nm m g0 g1 g2 g3 b x y z k t nn a1 a2 a3 b1 b2 b3 1 = into (dyT6 fl f nm m g0 g1 g2 g3 b x y z k t nn a1 a2 a3 b1 b2 b3 1) (dyS6 fl f nm m g0 g1 g2 g3 b x y z k t nn a1 a2 a3 b1 b2 b3 1) := by
  cases fl with
  | true => kernel_rfl
  | false => kernel_rfl
theorem dyT6_into2 : dyT6 fl f nm m g0 g1 g2 g3 b x y z k t nn a1 a2 a3 b1 b2 b3 2 = into (dyT6 fl f nm m g0 g1 g2 g3 b x y z k t nn a1 a2 a3 b1 b2 b3 2) (dyS6 fl f nm m g0 g1 g2 g3 b x y z k t nn a1 a2 a3 b1 b2 b3 2) := by
  cases fl with
  | true => kernel_rfl
  | false => kernel_rfl
theorem dyT6_fits0 : fits (dyT6 fl f nm m g0 g1 g2 g3 b x y z k t nn a1 a2 a3 b1 b2 b3 0) (dyS6 fl f nm m g0 g1 g2 g3 b x y z k t nn a1 a2 a3 b1 b2 b3 0) = true := by
  cases fl with
  | true => kernel_rfl
  | false => kernel_rfl
theorem dyT6_fits1 : fits (dyT6 fl f nm m g0 g1 g2 g3 b x y z k t nn a1 a2 a3 b1 b2 b3 1) (dyS6 fl f nm m g0 g1 g2 g3 b x y z k t nn a1 a2 a3 b1 b2 b3 1) = true := by
  cases fl with
  | true => kernel_rfl
  | false => kernel_rfl
theorem dyT6_fits2 : fits (dyT6 fl f nm m g0 g1 g2 g3 b x y z k t nn a1 a2 a3 b1 b2 b3 2) (dyS6 fl f nm m g0 g1 g2 g3 b x y z k t nn a1 a2 a3 b1 b2 b3 2) = true := by
  cases fl with
  | true => kernel_rfl
  | false => kernel_rfl
theorem dyA7_is : dyA7 fl f nm m g0 g1 g2 g3 b x y z k t nn a1 a2 a3 b1 b2 b3 = .leaf (.inl (.normal, dyH3 fl f nm m g0 g1 g2 g3 b k (IntKind.i64.wrap (t + 1)))) := by
  cases fl with
  | true => kernel_rfl
  | false => kernel_rfl
theorem dyA8_is : dyA8 fl f nm m g0 g1 g2 g3 b k t = .leaf (.inl (.ret, dyYes m g0 g1 g2 g3)) := by
  cases fl with
  | true => kernel_rfl
  | false => kernel_rfl
end
/-! a round of the loop over spans -/
section
variable (q : Vy) (k t : Int)
def inF (i : Nat) : Bool := match decide (t ≥ f.F (m + 2) g0 g1 g2 g3 i) with
  | true => decide (t < f.T (m + 2) g0 g1 g2 g3 i)
  | false => false
def d5L (X0 : X) (day : Bool) (i : Int) : SkX := .leaf (X0, dyH5 fl f nm m g0 g1 g2 g3 b q k t day i)
def dyS5 (day : Bool) (i : Nat) : SkX := .node (decide ((i : Int) < ((dyCnt true f m g0 g1 g2 g3 : Nat) : Int))) (.need (decide (0 ≤ (i : Int)) && decide ((i : Int) < ((f.m (m + 2) g0 g1 g2 g3 : Nat) : Int))) (.need (Nat.blt (ixN i) (f.m (m + 2) g0 g1 g2 g3)) (.need (Nat.blt (ixN i) (f.m (m + 2) g0 g1 g2 g3))
  (.node day (d5L true f nm m g0 g1 g2 g3 b q k t .normal true (IntKind.i64.wrap ((i : Int) + 1))) (.node (decide (t ≥ f.F (m + 2) g0 g1 g2 g3 (ixN i))) (d5L true f nm m g0 g1 g2 g3 b q k t .normal (decide (t < f.T (m + 2) g0 g1 g2 g3 (ixN i))) (IntKind.i64.wrap ((i : Int) + 1))) (d5L true f nm m g0 g1 g2 g3 b q k t .normal false (IntKind.i64.wrap ((i : Int) + 1))))))))
  (d5L true f nm m g0 g1 g2 g3 b q k t (.exit 8) day (i : Int))
theorem dyT5_into (day : Bool) (i : Nat) : dyT5 true f nm m g0 g1 g2 g3 b q k t day i = into (dyT5 true f nm m g0 g1 g2 g3 b q k t day i) (dyS5 f nm m g0 g1 g2 g3 b q k t day i) := by kernel_rfl
theorem dyT5_fits (day : Bool) (i : Nat) : fits (dyT5 true f nm m g0 g1 g2 g3 b q k t day i) (dyS5 f nm m g0 g1 g2 g3 b q k t day i) = true := by kernel_rfl
theorem dyT5_none (day : Bool) : dyT5 false f nm m g0 g1 g2 g3 b q k t day 0 = into (dyT5 false f nm m g0 g1 g2 g3 b q k t day 0) (.ff (d5L false f nm m g0 g1 g2 g3 b q k t (.exit 8) day 0)) := by kernel_rfl
theorem dyT5_nofit (day : Bool) : fits (dyT5 false f nm m g0 g1 g2 g3 b q k t day 0) (.ff (d5L false f nm m g0 g1 g2 g3 b q k t (.exit 8) day 0)) = true := by kernel_rfl
end
end
end Go.Ev
