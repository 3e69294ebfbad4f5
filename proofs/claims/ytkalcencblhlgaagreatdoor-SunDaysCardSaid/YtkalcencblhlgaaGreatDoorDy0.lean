/- States for SunDays. Conditions: none. -/
import Derived.Test.YtkalcencblhlgaaGreatDoorLow
import Derived.Test.YtkalcencblhlgaaGreatDoorAwE
namespace Go.Ev
open Go Go.Proofs
set_option maxRecDepth 100000

/-- what functions hand back, as open variables: checks, the sun's parts, the spans, the highest sun -/
structure Fy where
  E : FE
  x : FV
  y : FV
  z : FV
  m : Nat → (Nat → Int) → (Nat → Int) → (Nat → Int) → (Nat → Int) → Nat
  F : Nat → (Nat → Int) → (Nat → Int) → (Nat → Int) → (Nat → Int) → Nat → Int
  T : Nat → (Nat → Int) → (Nat → Int) → (Nat → Int) → (Nat → Int) → Nat → Int
  h : Nat → (Nat → Int) → Int
def fyT : Fy := ⟨skyE, vX, vY, vZ, dsM, dsF, dsT, hiN⟩
def tbY (fl : Bool) (f : Fy) : List (FuncId × Spec) := (8, specAwake) :: (10, dlSp f.E fl f.m f.F f.T) :: (12, hiSp f.E f.h) :: (13, aASp f.E f.x f.y f.z) :: (14, aRSp f.E f.x f.y f.z) :: (11, gvSp) :: (7, ckSp f.E) :: (20, specI [.i, .i] lowO lowV) :: tb_tiny
theorem tbY_ok (fl : Bool) : TabOk Tryz.prog (tabOf (tbY fl fyT)) := tab_cons (tab_cons (tab_cons (tab_cons (tab_cons (tab_cons (tab_cons (tab_cons tb_tiny_ok low_ok) qk_ok) gv_ok) aR_ok) aA_ok) hi_ok) (dl_ok fl)) specAwake_ok
noncomputable def reY (fl : Bool) (f : Fy) : Code → St → Tree (X × St) := recT Tryz.prog (tabOf (tbY fl f))
theorem reY_ok (fl : Bool) : RecOk Tryz.prog (reY fl fyT) := recT_ok (tbY_ok fl)
def glY : List (Nat × List C) := [(0, [1, 0, 0, 0, 0, 1].map ci), (2, Lib.pow10Tab.map fun n => .lit (.int .u64 n))]
def u16 (b : Int) : A := .one (.lit (.int .u16 b))
section
variable (fl : Bool) (f : Fy) (nm : ByteArray) (m : Nat) (g0 g1 g2 g3 : Nat → Int) (b : Int)
def dyHp : Hp := hpT [⟨some 0, m + 2, skC g0 g1 g2 g3⟩] glY []
def dyB : St := baseM 359 [skyA nm (m + 2), u16 b] (dyHp m g0 g1 g2 g3)
def dyN (env : List (Nat × A)) (news : List Blk) : St := stN 359 (envL env) (bsS [⟨some 0, m + 2, skC g0 g1 g2 g3⟩] glY) (globsG 1 glY) news true
noncomputable def dyO : Tree ((X × St) ⊕ (List Bool × St)) := evO (reY fl f) (bodyOf Tryz.f3) [1, 2, 4, 61, 62, 63] [4] (dyB nm m g0 g1 g2 g3 b)
def dyH1 (i : Int) : St := dyN m g0 g1 g2 g3 [(1, u16 b), (2, pt 3), (4, boo false), (61, slT 0 4 (m + 2)), (62, int ((m + 2 : Nat) : Int)), (63, int i)] [skyB 24 nm (m + 2)]
noncomputable def dyT1 (k : Nat) : Tree (X × St) := (reY fl f (loopF Tryz.f3) (dyH1 nm m g0 g1 g2 g3 b (k : Int))).bind (canonT [1, 2, 4, 61, 62, 63] [1, 2, 4] (dyB nm m g0 g1 g2 g3 b))
end
end Go.Ev
