/- TopQuartzDay: its third loop, over the ticks. Conditions: none. -/
import Derived.Test.YtjckcdpjibfacaaGreatQz3
namespace Go.Ev
open Go Go.Proofs
set_option maxRecDepth 100000
def qzV6 : List Nat := [4, 5, 8, 9, 11, 12, 13, 243, 244]
section
variable (fl : Bool) (f : Fq) (nm : ByteArray) (m : Nat) (g0 g1 g2 g3 : Nat → Int) (x y z num den : Int) (t0 wd : Int) (wn : Nat) (F : Nat → Nat)
def idM6 : Nat := match fl with
 | true => 3
 | false => 2
def spS6 : A := match fl with
 | true => slO 2 2 (f.m (m + 2) g0 g1 g2 g3)
 | false => nilA
def qzE5 : List (Nat × A) := [(4, boo false), (5, pt 1), (8, .one (.fn 9 [(1, 0, 1, 0)])), (9, spS6 fl f m g0 g1 g2 g3), (11, int t0), (12, int wd), (13, pt (idM6 fl))]
def qzW6 : List Blk := match fl with
 | true => [dayB nm m 4, spnB f m g0 g1 g2 g3, mapX wd wn 5, sunB m g0 g1 g2 g3, smpB wn F]
 | false => [dayB nm m 3, mapX wd wn 4, sunB m g0 g1 g2 g3, smpB wn F]
def qzH6 (k : Int) : St := qzN m g0 g1 g2 g3 (qzE5 fl f m g0 g1 g2 g3 t0 wd ++ [(243, int wd), (244, int k)]) (qzW6 fl f nm m g0 g1 g2 g3 wd wn F)
noncomputable def qzA5 (i : Int) : Tree ((X × St) ⊕ (List Bool × St)) := evO2 (reQ fl f) true qzC path2 qzV6 [4] (qzB nm m g0 g1 g2 g3 x y z num den) (.exit 2, qzH2 fl f nm m g0 g1 g2 g3 x y z num den t0 wd wn F i)
def path6 : List Bool := [true, true, true, true, true, true, true, true, true, true, true, true, false, true]
noncomputable def qzT6 (k : Nat) : Tree (X × St) := (reQ fl f (nthLoop qzC path6) (qzH6 fl f nm m g0 g1 g2 g3 t0 wd wn F (k : Int))).bind (canonT qzV6 qzV6 (qzB nm m g0 g1 g2 g3 x y z num den))
end
end Go.Ev
namespace Go.Ev
open Go Go.Proofs
set_option maxRecDepth 100000
section
variable (fl : Bool) (f : Fq) (nm : ByteArray) (m : Nat) (g0 g1 g2 g3 : Nat → Int) (x y z num den : Int) (t0 wd : Int) (wn : Nat) (F : Nat → Nat)
theorem qzA5_is (i : Int) : qzA5 fl f nm m g0 g1 g2 g3 x y z num den t0 wd wn F i = .leaf (.inr (path6, qzH6 fl f nm m g0 g1 g2 g3 t0 wd wn F 0)) := by
 cases fl with
 | true => kernel_rfl
 | false => kernel_rfl
variable (k : Nat)
def tkZ : Int := IntKind.i64.wrap (t0 + (k : Int))
def sq1 (t : Int) : Int := qsW (vq1 f m g0 g1 g2 g3 t) (vq2 f m g0 g1 g2 g3 t) (vq3 f m g0 g1 g2 g3 t) 0 (vq1 f m g0 g1 g2 g3 t)
def sq2 (t : Int) : Int := qsW (vq1 f m g0 g1 g2 g3 t) (vq2 f m g0 g1 g2 g3 t) (vq3 f m g0 g1 g2 g3 t) 0 (vq2 f m g0 g1 g2 g3 t)
def sq3 (t : Int) : Int := qsW (vq1 f m g0 g1 g2 g3 t) (vq2 f m g0 g1 g2 g3 t) (vq3 f m g0 g1 g2 g3 t) 1 (vq3 f m g0 g1 g2 g3 t)
def rsQ (t : Int) : Bool := rsB (vq1 f m g0 g1 g2 g3 t) (vq2 f m g0 g1 g2 g3 t) (vq3 f m g0 g1 g2 g3 t)
def neQ (t : Int) : Int := noneE (vq1 f m g0 g1 g2 g3 t) (vq2 f m g0 g1 g2 g3 t) (vq3 f m g0 g1 g2 g3 t)
def qzY6 (F : Nat → Nat) : SkX := .leaf (.ret, qzH6 fl f nm m g0 g1 g2 g3 t0 wd wn F (k : Int))
def qzN6 (F : Nat → Nat) : SkX := .leaf (.normal, qzH6 fl f nm m g0 g1 g2 g3 t0 wd wn F (IntKind.i64.wrap ((k : Int) + 1)))
def qzU6 (t : Int) (Y Y' N' : SkX) : SkX := .need (gdK (m + 2)) (.need (okN (m + 2)) (.need (atQ f nm m g0 g1 g2 g3 t) (.ff (.node (decide (vq3 f m g0 g1 g2 g3 t < 1)) (.tt Y) (.node (qdirErr (vq1 f m g0 g1 g2 g3 t) (vq2 f m g0 g1 g2 g3 t) (vq3 f m g0 g1 g2 g3 t) != 0) Y
 (.need (kB wn k) (.need (Nat.blt (ixN k) wn) (.nn (.need (ccK [sq1 f m g0 g1 g2 g3 t, sq2 f m g0 g1 g2 g3 t, sq3 f m g0 g1 g2 g3 t, 0, 0, 1] []) (.ff (.node (f.S (sq1 f m g0 g1 g2 g3 t) (sq2 f m g0 g1 g2 g3 t) (sq3 f m g0 g1 g2 g3 t) 0 0 1 != 1) (.tt (.tt Y'))
  (.node (decide (f.N (sq1 f m g0 g1 g2 g3 t) (sq2 f m g0 g1 g2 g3 t) (sq3 f m g0 g1 g2 g3 t) 0 0 1 < 1)) (.tt Y') (.node (decide (f.D (sq1 f m g0 g1 g2 g3 t) (sq2 f m g0 g1 g2 g3 t) (sq3 f m g0 g1 g2 g3 t) 0 0 1 < f.N (sq1 f m g0 g1 g2 g3 t) (sq2 f m g0 g1 g2 g3 t) (sq3 f m g0 g1 g2 g3 t) 0 0 1)) Y' N')))))))))))))
def qzV (t : Int) : SkX := .node (rsQ f m g0 g1 g2 g3 t) (qzU6 f nm m g0 g1 g2 g3 wn k t (qzY6 fl f nm m g0 g1 g2 g3 t0 wd wn k F) (qzY6 fl f nm m g0 g1 g2 g3 t0 wd wn k (putF F (ixN k) q25)) (qzN6 fl f nm m g0 g1 g2 g3 t0 wd wn k (putF F (ixN k) q25))) (qzN6 fl f nm m g0 g1 g2 g3 t0 wd wn k F)
def qzS6 : SkX := .node (decide ((k : Int) < wd)) (.need (gdK (m + 2)) (.need (okN (m + 2)) (.need (atOk f.E nm (m + 2) g0 g1 g2 g3 (tkZ t0 k)) (.node (neQ f m g0 g1 g2 g3 (tkZ t0 k) != 0) (.node (neQ f m g0 g1 g2 g3 (tkZ t0 k) != 7) (qzY6 fl f nm m g0 g1 g2 g3 t0 wd wn k F) (qzV fl f nm m g0 g1 g2 g3 t0 wd wn F k (tkZ t0 k))) (.ff (qzV fl f nm m g0 g1 g2 g3 t0 wd wn F k (tkZ t0 k)))))))
 (.leaf (.exit 6, qzH6 fl f nm m g0 g1 g2 g3 t0 wd wn F (k : Int)))
theorem qzT6_into : qzT6 fl f nm m g0 g1 g2 g3 x y z num den t0 wd wn F k = into (qzT6 fl f nm m g0 g1 g2 g3 x y z num den t0 wd wn F k) (qzS6 fl f nm m g0 g1 g2 g3 t0 wd wn F k) := by
 cases fl with
 | true => kernel_rfl
 | false => kernel_rfl
theorem qzT6_fits : fits (qzT6 fl f nm m g0 g1 g2 g3 x y z num den t0 wd wn F k) (qzS6 fl f nm m g0 g1 g2 g3 t0 wd wn F k) = true := by
 cases fl with
 | true => kernel_rfl
 | false => kernel_rfl
end
end Go.Ev
