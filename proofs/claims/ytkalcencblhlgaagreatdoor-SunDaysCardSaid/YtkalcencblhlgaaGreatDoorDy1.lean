/- SunDays up to its second loop. Conditions: none. -/
import Derived.Test.YtkalcencblhlgaaGreatDoorDy0
namespace Go.Ev
open Go Go.Proofs
set_option maxRecDepth 100000

section
variable (fl : Bool) (f : Fy) (nm : ByteArray) (m : Nat) (g0 g1 g2 g3 : Nat → Int) (b : Int)
def dyYes : St := dyN m g0 g1 g2 g3 [(4, boo true)] []
def dyR : SkO := .leaf (.inl (.ret, dyYes m g0 g1 g2 g3))
def spB : Bool := decide (IntKind.i64.wrap (g0 (lN (m + 2)) - g0 z0N) > 300)
noncomputable def dyP1 : SkO := .need (okN (m + 2)) (.node (f.E nm (m + 2) g0 g1 g2 g3 != 0) (.tt (dyR m g0 g1 g2 g3)) (.need (lB (m + 2)) (.need (Nat.blt (lN (m + 2)) (m + 2)) (.need (zB (m + 2)) (.node (spB m g0) (dyR m g0 g1 g2 g3)
  (.leaf (.inr (pathF Tryz.f3, dyH1 nm m g0 g1 g2 g3 b ((0 : Nat) : Int)))))))))
noncomputable def dyOS : SkO := .node (decide ((nm.size : Int) ≤ 40)) (.node (decide (((m + 2 : Nat) : Int) ≤ 12)) (.ff (dyP1 f nm m g0 g1 g2 g3 b)) (.node (!(((m + 2 : Nat) : Int) == 65)) (.tt (.tt (dyR m g0 g1 g2 g3))) (dyP1 f nm m g0 g1 g2 g3 b))) (.tt (.tt (.tt (dyR m g0 g1 g2 g3))))
theorem dyO_into : dyO fl f nm m g0 g1 g2 g3 b = into (dyO fl f nm m g0 g1 g2 g3 b) (dyOS f nm m g0 g1 g2 g3 b) := by kernel_rfl
theorem dyO_fits : fits (dyO fl f nm m g0 g1 g2 g3 b) (dyOS f nm m g0 g1 g2 g3 b) = true := by kernel_rfl
def dyE1 (v : Bool) : List (Nat × A) := [(1, u16 b), (2, pt 3), (4, boo v)]
def dyX1 (v : Bool) : St := dyN m g0 g1 g2 g3 (dyE1 b v) [skyB 24 nm (m + 2)]
def dyS1 (k : Nat) : SkX := .node (decide ((k : Int) < ((m + 2 : Nat) : Int))) (.need (kB (m + 2) k) (.need (Nat.blt (ixN k) (m + 2)) (need3 (Nat.blt (ixN k) (m + 2)) (.node (!tinW (g1 (ixN k)) (g2 (ixN k)) (g3 (ixN k))) (.leaf (.ret, dyX1 nm m g0 g1 g2 g3 b true)) (.leaf (.normal, dyH1 nm m g0 g1 g2 g3 b (IntKind.i64.wrap ((k : Int) + 1))))))))
  (.leaf (.exit 0, dyX1 nm m g0 g1 g2 g3 b false))
theorem dy1_into (k : Nat) : dyT1 fl f nm m g0 g1 g2 g3 b k = into (dyT1 fl f nm m g0 g1 g2 g3 b k) (dyS1 nm m g0 g1 g2 g3 b k) := by kernel_rfl
theorem dy1_fits (k : Nat) : fits (dyT1 fl f nm m g0 g1 g2 g3 b k) (dyS1 nm m g0 g1 g2 g3 b k) = true := by kernel_rfl
noncomputable def dyQ1 (q : X × St) : Tree ((X × St) ⊕ (List Bool × St)) := evO2 (reY fl f) true (bodyOf Tryz.f3) (pathF Tryz.f3) [1, 2, 4, 7, 77, 78, 79] [4] (dyB nm m g0 g1 g2 g3 b) q
end
end Go.Ev
