/- SunDays: its second loop, which makes the later sky. Conditions: none. -/
import Derived.Test.YtkalcencblhlgaaGreatDoorDy1
namespace Go.Ev
open Go Go.Proofs
set_option maxRecDepth 100000

/-- the last leaf -/
def lastL {α : Type} : Tree α → Option α
  | .leaf a => some a
  | .node _ _ e => lastL e
  | .need _ t => lastL t
  | .amb l _ => lastL l
  | .fail _ => none
def path2 : List Bool := [true, true, true, true, false, true]
/-- the later ticks -/
def latT (g0 : Nat → Int) (b : Int) : Nat → Int := fun i => IntKind.i64.wrap (g0 i + IntKind.i64.wrap b)
section
variable (fl : Bool) (f : Fy) (nm : ByteArray) (m : Nat) (g0 g1 g2 g3 : Nat → Int) (b : Int)
def dyE2 (i : Int) : List (Nat × A) := [(1, u16 b), (2, pt 3), (4, boo false), (7, pt 4), (77, slT 0 4 (m + 2)), (78, int ((m + 2 : Nat) : Int)), (79, int i)]
def dyW2 (c : C) (tb : List Blk) : List Blk := [skyB 24 nm (m + 2), ⟨false, 24, .flat [cs nm, c]⟩] ++ tb
def dyC2 : Nat → C
  | 0 => nilC
  | k + 1 => slC true 5 4 (k + 1)
def dyL2 (L : Nat → Int) : Nat → List Blk
  | 0 => []
  | k + 1 => [⟨false, 31, .rows (k + 1) (skC L g1 g2 g3)⟩]
def dyH2 (k : Nat) : St := dyN m g0 g1 g2 g3 (dyE2 m b (k : Int)) (dyW2 nm m (dyC2 k) (dyL2 g1 g2 g3 (latT g0 b) k))
noncomputable def dyCo2 : Code := nthLoop (bodyOf Tryz.f3) path2
noncomputable def dyT2 (k : Nat) : Tree (X × St) := (reY fl f dyCo2 (dyH2 nm m g0 g1 g2 g3 b k)).bind (canonT [1, 2, 4, 7, 77, 78, 79] [1, 2, 4, 7] (dyB nm m g0 g1 g2 g3 b))
def dyX2 (k : Nat) : St := dyN m g0 g1 g2 g3 [(1, u16 b), (2, pt 3), (4, boo false), (7, pt 4)] (dyW2 nm m (dyC2 k) (dyL2 g1 g2 g3 (latT g0 b) k))
noncomputable def dyS2 : Nat → SkX
  | 0 => .node (decide (((0 : Nat) : Int) < ((m + 2 : Nat) : Int))) (.need (kB (m + 2) 0) (.leaf (.normal, dyN m g0 g1 g2 g3 (dyE2 m b (IntKind.i64.wrap (((0 : Nat) : Int) + 1))) (dyW2 nm m (slC true 5 4 1) [⟨false, 31, .flat [ci (latT g0 b (ixN 0)), ci (g1 (ixN 0)), ci (g2 (ixN 0)), ci (g3 (ixN 0))]⟩]))))
    (.leaf (.exit 2, dyX2 nm m g0 g1 g2 g3 b 0))
  | k + 1 => .node (decide (((k + 1 : Nat) : Int) < ((m + 2 : Nat) : Int))) (.need (kB (m + 2) (k + 1)) (.need (Nat.blt (ixN (k + 1)) (m + 2)) (need3 (Nat.blt (ixN (k + 1)) (m + 2)) (.need (apN 31 k) (.leaf (.normal, dyN m g0 g1 g2 g3 (dyE2 m b (IntKind.i64.wrap (((k + 1 : Nat) : Int) + 1))) (dyW2 nm m (slC true 5 4 (k + 1 + 1)) [⟨false, 31, .rows (k + 1 + 1) (skC (putK (latT g0 b) k) (putK g1 k) (putK g2 k) (putK g3 k))⟩])))))))
    (.leaf (.exit 2, dyX2 nm m g0 g1 g2 g3 b (k + 1)))
theorem dy2_into : ∀ k, dyT2 fl f nm m g0 g1 g2 g3 b k = into (dyT2 fl f nm m g0 g1 g2 g3 b k) (dyS2 nm m g0 g1 g2 g3 b k)
  | 0 => by kernel_rfl
  | k + 1 => by kernel_rfl
theorem dy2_fits : ∀ k, fits (dyT2 fl f nm m g0 g1 g2 g3 b k) (dyS2 nm m g0 g1 g2 g3 b k) = true
  | 0 => by kernel_rfl
  | k + 1 => by kernel_rfl
noncomputable def dyQ2 (q : X × St) : Tree ((X × St) ⊕ (List Bool × St)) := evO2 (reY fl f) true (bodyOf Tryz.f3) path2 [1, 2, 4, 7, 10, 12, 14, 15] [4] (dyB nm m g0 g1 g2 g3 b) q
noncomputable def dyZ2 (fl : Bool) : Option ((X × St) ⊕ (List Bool × St)) := lastL (dyQ2 fl f nm m g0 g1 g2 g3 b (.exit 2, dyX2 nm m g0 g1 g2 g3 b (m + 2)))
end
end Go.Ev
