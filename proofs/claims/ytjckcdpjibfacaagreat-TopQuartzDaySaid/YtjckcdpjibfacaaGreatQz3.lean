/- TopQuartzDay: its second loop, over the pairs of suns. Conditions: none. -/
import Derived.Test.YtjckcdpjibfacaaGreatQz1
namespace Go.Ev
open Go Go.Proofs
set_option maxRecDepth 100000
noncomputable def qzC2 : Code := nthLoop qzC path2
def qzV2 : List Nat := [2, 3, 4, 5, 8, 9, 11, 12, 13, 14]
def qzV3 : List Nat := [2, 3, 4, 5, 8, 9, 11, 12, 13, 14, 15, 16, 17, 19, 21, 23]
section
variable (fl : Bool) (f : Fq) (nm : ByteArray) (m : Nat) (g0 g1 g2 g3 : Nat → Int) (x y z num den : Int) (t0 wd : Int) (wn : Nat) (F : Nat → Nat)
noncomputable def qzA2 (k : Nat) : Tree ((X × St) ⊕ (List Bool × St)) := (evB (reQ fl f) qzC2 (qzH2 fl f nm m g0 g1 g2 g3 x y z num den t0 wd wn F (k : Int))).bind (canO qzV3 qzV2 (qzB nm m g0 g1 g2 g3 x y z num den))
end
def path3 : List Bool := [true, false, true, true, true, true, true, true, true]
structure Pq where
 a0 : Int
 a1 : Int
 a2 : Int
 a3 : Int
 b0 : Int
 b1 : Int
 b2 : Int
 b3 : Int
 i1 : Bool
 i2 : Bool
 mt : Bool
def Pq.A (p : Pq) : Blk := ⟨false, 34, .flat [ci p.a0, ci p.a1, ci p.a2, ci p.a3]⟩
def Pq.B (p : Pq) : Blk := ⟨false, 34, .flat [ci p.b0, ci p.b1, ci p.b2, ci p.b3]⟩
section
variable (fl : Bool) (f : Fq) (nm : ByteArray) (m : Nat) (g0 g1 g2 g3 : Nat → Int) (x y z num den : Int) (t0 wd : Int) (wn : Nat) (F : Nat → Nat) (i : Int) (p : Pq)
def idA : Nat := match fl with
 | true => 6
 | false => 5
def qzE3 (t : Int) : List (Nat × A) := qzE2 fl f m g0 g1 g2 g3 false t0 wd i ++ [(15, pt (idA fl)), (16, pt (idA fl + 1)), (17, boo p.i1), (19, boo p.i2), (21, boo p.mt), (23, int t)]
def qzW3 : List Blk := match fl with
 | true => [skyB 24 nm (m + 2), boxC x y z num den, dayB nm m 8, spnB f m g0 g1 g2 g3, mapX wd wn 9, p.A, p.B, sunB m g0 g1 g2 g3, smpB wn F]
 | false => [skyB 24 nm (m + 2), boxC x y z num den, dayB nm m 7, mapX wd wn 8, p.A, p.B, sunB m g0 g1 g2 g3, smpB wn F]
def qzH3 (t : Int) : St := qzN m g0 g1 g2 g3 (qzE3 fl f m g0 g1 g2 g3 t0 wd i p t) (qzW3 fl f nm m g0 g1 g2 g3 x y z num den wd wn F p)
noncomputable def qzT3 (t : Int) : Tree (X × St) := (reQ fl f (nthLoop qzC2 path3) (qzH3 fl f nm m g0 g1 g2 g3 x y z num den t0 wd wn F i p t)).bind (canonT qzV3 qzV3 (qzB nm m g0 g1 g2 g3 x y z num den))
noncomputable def qzA3 (q : X × St) : Tree ((X × St) ⊕ (List Bool × St)) := evO2 (reQ fl f) true qzC2 path3 [] qzV2 (qzB nm m g0 g1 g2 g3 x y z num den) q
end
end Go.Ev
namespace Go.Ev
open Go Go.Proofs
set_option maxRecDepth 100000
def k1Z (k : Nat) : Int := IntKind.i64.wrap ((k : Int) + 1)
def k1N (k : Nat) : Nat := 0 + (k1Z k).toNat
def k1B (n k : Nat) : Bool := decide (0 ≤ k1Z k) && decide (k1Z k < (n : Int))
def need4O (b : Bool) (S : SkO) : SkO := .need b (.need b (.need b (.need b S)))
section
variable (fl : Bool) (f : Fq) (nm : ByteArray) (m : Nat) (g0 g1 g2 g3 : Nat → Int) (x y z num den : Int) (t0 wd : Int) (wn : Nat) (F : Nat → Nat) (k : Nat)
def pairQ : Pq := ⟨g0 (ixN k), g1 (ixN k), g2 (ixN k), g3 (ixN k), g0 (k1N k), g1 (k1N k), g2 (k1N k), g3 (k1N k), f.I x y z num den (g1 (ixN k)) (g2 (ixN k)) (g3 (ixN k)), f.I x y z num den (g1 (k1N k)) (g2 (k1N k)) (g3 (k1N k)), f.M x y z num den (g1 (ixN k)) (g2 (ixN k)) (g3 (ixN k)) (g1 (k1N k)) (g2 (k1N k)) (g3 (k1N k))⟩
noncomputable def qzS2 : SkO := .node (decide (k1Z k < ((m + 2 : Nat) : Int))) (.need (kB (m + 2) k) (need4O (Nat.blt (ixN k) (m + 2)) (.need (k1B (m + 2) k) (need4O (Nat.blt (k1N k) (m + 2)) (.need (oppQK [g1 (ixN k), g2 (ixN k), g3 (ixN k), g1 (k1N k), g2 (k1N k), g3 (k1N k)] [])
  (.node (qopp (g1 (ixN k)) (g2 (ixN k)) (g3 (ixN k)) (g1 (k1N k)) (g2 (k1N k)) (g3 (k1N k))) (.leaf (.inl (.normal, qzH2 fl f nm m g0 g1 g2 g3 x y z num den t0 wd wn F (k1Z k))))
   (.need (icK [x, y, z, num, den, g1 (ixN k), g2 (ixN k), g3 (ixN k)] []) (.need (icK [x, y, z, num, den, g1 (k1N k), g2 (k1N k), g3 (k1N k)] []) (.need (mcK [x, y, z, num, den, g1 (ixN k), g2 (ixN k), g3 (ixN k), g1 (k1N k), g2 (k1N k), g3 (k1N k)] [])
    (.ff (.ff (.ff (.leaf (.inr (path3, qzH3 fl f nm m g0 g1 g2 g3 x y z num den t0 wd wn F (k : Int) (pairQ f g0 g1 g2 g3 x y z num den k) (g0 (ixN k)))))))))))))))))
 (.leaf (.inl (.exit 2, qzH2 fl f nm m g0 g1 g2 g3 x y z num den t0 wd wn F (k : Int))))
theorem qzA2_into : qzA2 fl f nm m g0 g1 g2 g3 x y z num den t0 wd wn F k = into (qzA2 fl f nm m g0 g1 g2 g3 x y z num den t0 wd wn F k) (qzS2 fl f nm m g0 g1 g2 g3 x y z num den t0 wd wn F k) := by
 cases fl with
 | true => kernel_rfl
 | false => kernel_rfl
theorem qzA2_fits : fits (qzA2 fl f nm m g0 g1 g2 g3 x y z num den t0 wd wn F k) (qzS2 fl f nm m g0 g1 g2 g3 x y z num den t0 wd wn F k) = true := by
 cases fl with
 | true => kernel_rfl
 | false => kernel_rfl
end
section
variable (fl : Bool) (f : Fq) (nm : ByteArray) (m : Nat) (g0 g1 g2 g3 : Nat → Int) (x y z num den : Int) (t0 wd : Int) (wn : Nat) (F : Nat → Nat) (i : Int) (p : Pq) (t : Int)
def vq1 : Int := f.x (m + 2) g0 g1 g2 g3 t
def vq2 : Int := f.y (m + 2) g0 g1 g2 g3 t
def vq3 : Int := f.z (m + 2) g0 g1 g2 g3 t
def inQ : Bool := f.I x y z num den (vq1 f m g0 g1 g2 g3 t) (vq2 f m g0 g1 g2 g3 t) (vq3 f m g0 g1 g2 g3 t)
def atQ : Bool := atOk f.E nm (m + 2) g0 g1 g2 g3 t && (noneE (vq1 f m g0 g1 g2 g3 t) (vq2 f m g0 g1 g2 g3 t) (vq3 f m g0 g1 g2 g3 t) == 0)
def qzN3 : SkX := .leaf (.normal, qzH3 fl f nm m g0 g1 g2 g3 x y z num den t0 wd wn F i p (IntKind.i64.wrap (t + 1)))
def qzY3 : SkX := .leaf (.ret, qzH3 fl f nm m g0 g1 g2 g3 x y z num den t0 wd wn F i p t)
def qzM3 : SkX := .node (!p.mt) (.node (inQ f m g0 g1 g2 g3 x y z num den t) (qzY3 fl f nm m g0 g1 g2 g3 x y z num den t0 wd wn F i p t) (qzN3 fl f nm m g0 g1 g2 g3 x y z num den t0 wd wn F i p t)) (.ff (qzN3 fl f nm m g0 g1 g2 g3 x y z num den t0 wd wn F i p t))
def qzS3 : SkX := .node (decide (t ≤ p.b0)) (.need (gdK (m + 2)) (.need (okN (m + 2)) (.need (atQ f nm m g0 g1 g2 g3 t) (.ff (.node (qdirErr (vq1 f m g0 g1 g2 g3 t) (vq2 f m g0 g1 g2 g3 t) (vq3 f m g0 g1 g2 g3 t) != 0) (qzY3 fl f nm m g0 g1 g2 g3 x y z num den t0 wd wn F i p t)
  (.node (qrayErr (vq1 f m g0 g1 g2 g3 t) (vq2 f m g0 g1 g2 g3 t) (vq3 f m g0 g1 g2 g3 t) != 0) (qzN3 fl f nm m g0 g1 g2 g3 x y z num den t0 wd wn F i p t)
   (.need (icK [x, y, z, num, den, vq1 f m g0 g1 g2 g3 t, vq2 f m g0 g1 g2 g3 t, vq3 f m g0 g1 g2 g3 t] []) (.ff (.node p.i1 (.node p.i2 (.node (!inQ f m g0 g1 g2 g3 x y z num den t) (.tt (qzY3 fl f nm m g0 g1 g2 g3 x y z num den t0 wd wn F i p t)) (qzM3 fl f nm m g0 g1 g2 g3 x y z num den t0 wd wn F i p t)) (.ff (qzM3 fl f nm m g0 g1 g2 g3 x y z num den t0 wd wn F i p t)))
    (.ff (.ff (qzM3 fl f nm m g0 g1 g2 g3 x y z num den t0 wd wn F i p t))))))))))))
 (.leaf (.exit 4, qzH3 fl f nm m g0 g1 g2 g3 x y z num den t0 wd wn F i p t))
theorem qzT3_into : qzT3 fl f nm m g0 g1 g2 g3 x y z num den t0 wd wn F i p t = into (qzT3 fl f nm m g0 g1 g2 g3 x y z num den t0 wd wn F i p t) (qzS3 fl f nm m g0 g1 g2 g3 x y z num den t0 wd wn F i p t) := by
 cases fl with
 | true => kernel_rfl
 | false => kernel_rfl
theorem qzT3_fits : fits (qzT3 fl f nm m g0 g1 g2 g3 x y z num den t0 wd wn F i p t) (qzS3 fl f nm m g0 g1 g2 g3 x y z num den t0 wd wn F i p t) = true := by
 cases fl with
 | true => kernel_rfl
 | false => kernel_rfl
theorem qzA3_is : qzA3 fl f nm m g0 g1 g2 g3 x y z num den (.exit 4, qzH3 fl f nm m g0 g1 g2 g3 x y z num den t0 wd wn F i p t) = .leaf (.inl (.normal, qzH2 fl f nm m g0 g1 g2 g3 x y z num den t0 wd wn F (IntKind.i64.wrap (i + 1)))) := by
 cases fl with
 | true => kernel_rfl
 | false => kernel_rfl
end
end Go.Ev
