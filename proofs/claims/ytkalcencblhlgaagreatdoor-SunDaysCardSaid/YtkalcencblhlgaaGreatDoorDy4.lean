/- SunDays: a round of its third loop, up to the loop over spans. Conditions: none. -/
import Derived.Test.YtkalcencblhlgaaGreatDoorDy3
namespace Go.Ev
open Go Go.Proofs
set_option maxRecDepth 100000

/-- what the calls of a round have handed back -/
structure Vy where
  x : Int
  y : Int
  z : Int
  e : Int
  x' : Int
  y' : Int
  z' : Int
  e' : Int
  is : Bool
  e5 : Int
def vyT (f : Fy) (m : Nat) (g0 g1 g2 g3 : Nat → Int) (b t : Int) : Vy :=
  ⟨f.x (m + 2) g0 g1 g2 g3 t, f.y (m + 2) g0 g1 g2 g3 t, f.z (m + 2) g0 g1 g2 g3 t, noneE (f.x (m + 2) g0 g1 g2 g3 t) (f.y (m + 2) g0 g1 g2 g3 t) (f.z (m + 2) g0 g1 g2 g3 t),
   f.x (m + 2) (latT g0 b) g1 g2 g3 (IntKind.i64.wrap (t + IntKind.i64.wrap b)), f.y (m + 2) (latT g0 b) g1 g2 g3 (IntKind.i64.wrap (t + IntKind.i64.wrap b)), f.z (m + 2) (latT g0 b) g1 g2 g3 (IntKind.i64.wrap (t + IntKind.i64.wrap b)),
   noneE (f.x (m + 2) (latT g0 b) g1 g2 g3 (IntKind.i64.wrap (t + IntKind.i64.wrap b))) (f.y (m + 2) (latT g0 b) g1 g2 g3 (IntKind.i64.wrap (t + IntKind.i64.wrap b))) (f.z (m + 2) (latT g0 b) g1 g2 g3 (IntKind.i64.wrap (t + IntKind.i64.wrap b))),
   rsB (f.x (m + 2) g0 g1 g2 g3 t) (f.y (m + 2) g0 g1 g2 g3 t) (f.z (m + 2) g0 g1 g2 g3 t), noneE (f.x (m + 2) g0 g1 g2 g3 t) (f.y (m + 2) g0 g1 g2 g3 t) (f.z (m + 2) g0 g1 g2 g3 t)⟩
def pathD : List Bool := [true, false, true, true, true, true, true, false, true]
section
variable (fl : Bool) (f : Fy) (nm : ByteArray) (m : Nat) (g0 g1 g2 g3 : Nat → Int) (b : Int)
def dyW5 (q : Vy) : List Blk := match fl with
  | true => [skyB 24 nm (m + 2), ⟨false, 24, .flat [cs nm, slC true 8 4 (m + 2)]⟩, ⟨false, 49, .rows (f.m (m + 2) g0 g1 g2 g3) (spC (f.F (m + 2) g0 g1 g2 g3) (f.T (m + 2) g0 g1 g2 g3))⟩, vecB q.x q.y q.z, vecB q.x' q.y' q.z', ⟨false, 31, .rows (m + 2) (skC (latT g0 b) g1 g2 g3)⟩]
  | false => [skyB 24 nm (m + 2), ⟨false, 24, .flat [cs nm, slC true 7 4 (m + 2)]⟩, vecB q.x q.y q.z, vecB q.x' q.y' q.z', ⟨false, 31, .rows (m + 2) (skC (latT g0 b) g1 g2 g3)⟩]
def dyE5 (q : Vy) (k t : Int) (day : Bool) (i : Int) : List (Nat × A) := dyE3 fl f m g0 g1 g2 g3 b false k t ++ [(16, match fl with | true => pt 6 | false => pt 5), (17, int q.e), (18, match fl with | true => pt 7 | false => pt 6), (19, int q.e'), (20, boo q.is), (21, int q.e5), (22, boo day), (191, dySl fl f m g0 g1 g2 g3), (192, int ((dyCnt fl f m g0 g1 g2 g3 : Nat) : Int)), (193, int i)]
def dyH5 (q : Vy) (k t : Int) (day : Bool) (i : Int) : St := dyN m g0 g1 g2 g3 (dyE5 fl f m g0 g1 g2 g3 b q k t day i) (dyW5 fl f nm m g0 g1 g2 g3 b q)
noncomputable def dyP3 (k : Nat) (t : Int) : SkO := .need (lB (m + 2)) (.need (Nat.blt (lN (m + 2)) (m + 2)) (.node (decide (t ≤ g0 (lN (m + 2)))) (.leaf (.inr (pathK, dyH3 fl f nm m g0 g1 g2 g3 b (k : Int) t))) (.leaf (.inl (.exit 4, dyH3 fl f nm m g0 g1 g2 g3 b (k : Int) t)))))
theorem dyA3_into (k : Nat) (t : Int) : dyA3 fl f nm m g0 g1 g2 g3 b k t = into (dyA3 fl f nm m g0 g1 g2 g3 b k t) (dyP3 fl f nm m g0 g1 g2 g3 b k t) := by
  cases fl with
  | true => kernel_rfl
  | false => kernel_rfl
theorem dyA3_fits (k : Nat) (t : Int) : fits (dyA3 fl f nm m g0 g1 g2 g3 b k t) (dyP3 fl f nm m g0 g1 g2 g3 b k t) = true := by
  cases fl with
  | true => kernel_rfl
  | false => kernel_rfl
def k1I (k : Nat) : Int := IntKind.i64.wrap ((k : Int) + 1)
def dyS3 (k : Nat) (t : Int) : SkX := .node (decide (k1I k < ((m + 2 : Nat) : Int))) (.need (decide (0 ≤ k1I k) && decide (k1I k < ((m + 2 : Nat) : Int))) (.need (Nat.blt (0 + Int.toNat (k1I k)) (m + 2)) (.node (decide (g0 (0 + Int.toNat (k1I k)) ≤ t)) (.leaf (.normal, dyH3 fl f nm m g0 g1 g2 g3 b (k1I k) t)) (.leaf (.exit 6, dyH3 fl f nm m g0 g1 g2 g3 b (k : Int) t)))))
  (.ff (.leaf (.exit 6, dyH3 fl f nm m g0 g1 g2 g3 b (k : Int) t)))
theorem dyT3_into (k : Nat) (t : Int) : dyT3 fl f nm m g0 g1 g2 g3 b k t = into (dyT3 fl f nm m g0 g1 g2 g3 b k t) (dyS3 fl f nm m g0 g1 g2 g3 b k t) := by
  cases fl with
  | true => kernel_rfl
  | false => kernel_rfl
theorem dyT3_fits (k : Nat) (t : Int) : fits (dyT3 fl f nm m g0 g1 g2 g3 b k t) (dyS3 fl f nm m g0 g1 g2 g3 b k t) = true := by
  cases fl with
  | true => kernel_rfl
  | false => kernel_rfl
def atN (t : Int) (L : Nat → Int) (S : SkO) : SkO := .need (okN (m + 2)) (.need (Nat.ble (m + 2) 1000000) (.ff (.need (okN (m + 2)) (.need (atOk f.E nm (m + 2) L g1 g2 g3 t) S))))
def dyP4 (k : Nat) (t : Int) : SkO := atN f nm m g1 g2 g3 t g0 (atN f nm m g1 g2 g3 (IntKind.i64.wrap (t + IntKind.i64.wrap b)) (latT g0 b) (atN f nm m g1 g2 g3 t g0 (.leaf (.inr (pathD, dyH5 fl f nm m g0 g1 g2 g3 b (vyT f m g0 g1 g2 g3 b t) (k : Int) t false ((0 : Nat) : Int))))))
theorem dyA4_into (k : Nat) (t : Int) : dyA4 fl f nm m g0 g1 g2 g3 b k t = into (dyA4 fl f nm m g0 g1 g2 g3 b k t) (dyP4 fl f nm m g0 g1 g2 g3 b k t) := by
  cases fl with
  | true => kernel_rfl
  | false => kernel_rfl
theorem dyA4_fits (k : Nat) (t : Int) : fits (dyA4 fl f nm m g0 g1 g2 g3 b k t) (dyP4 fl f nm m g0 g1 g2 g3 b k t) = true := by
  cases fl with
  | true => kernel_rfl
  | false => kernel_rfl
noncomputable def dyT5 (q : Vy) (k t : Int) (day : Bool) (i : Nat) : Tree (X × St) := (reY fl f (nthLoop dyC3 pathD) (dyH5 fl f nm m g0 g1 g2 g3 b q k t day (i : Int))).bind (canonT dyV4 dyV4 (dyB nm m g0 g1 g2 g3 b))
noncomputable def dyA5 (q : Vy) (k : Nat) (t : Int) (day : Bool) (i : Int) : Tree ((X × St) ⊕ (List Bool × St)) := evO2 (reY fl f) false dyC3 pathD dyV3 dyV3 (dyB nm m g0 g1 g2 g3 b) (.exit 8, dyH5 fl f nm m g0 g1 g2 g3 b q (k : Int) t day i)
end
end Go.Ev
