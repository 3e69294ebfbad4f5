/- States of SunWays at its loops. Conditions: none. -/
import Derived.Test.YtfdfpfojiilcgaaGreatDoorVec6
import Derived.Test.YtfdfpfojiilcgaaGreatDoorBas3
import Derived.Test.YtfdfpfojiilcgaaGreatDoorComes
namespace Go.Ev
open Go Go.Proofs

/-- a tree without the conditions that are met, and without what returns -/
def Tree.stay : Tree (X × St) → Tree (X × St)
  | .leaf p => match p.1 with | .ret => .fail 0 | _ => .leaf p
  | .node b t e => match b with | true => t.stay | false => e.stay
  | .need b t => match b with | true => t.stay | false => .fail 0
  | .amb l r => .amb l.stay r.stay
  | .fail _ => .fail 0
theorem Tree.stay_all {φ : X × St → Prop} : ∀ {t : Tree (X × St)}, t.stay.All φ → t.All φ
  | .leaf p, h => by
    obtain ⟨x, st⟩ := p
    cases x with
    | ret => exact h.elim
    | normal => exact h
    | exit i => exact h
  | .node true t _, h => Tree.stay_all (t := t) h
  | .node false _ e, h => Tree.stay_all (t := e) h
  | .need true t, h => ⟨rfl, Tree.stay_all (t := t) h⟩
  | .need false _, h => h.elim
  | .amb _ _, h => ⟨Tree.stay_all h.1, Tree.stay_all h.2⟩
  | .fail _, h => h.elim
def wArgs (c v : List Int) (n : List Int) : List A := [.agg (c.map ci), .agg (v.map ci), .agg (n.map fun z => .lit (.int .u8 z))]
def wHp (low : Nat) (e1 e2 : TypeId) (c v n f d : List Int) : Hp := { hpL [⟨true, e1, .flat ([1, 0, 0, 0, 0, 1].map ci)⟩, ⟨true, e2, .flat (Lib.pow10Tab.map fun n => .lit (.int .u64 n))⟩,
  ⟨false, 25, .flat (c.map ci)⟩, ⟨false, 59, .flat (v.map ci)⟩, ⟨false, 64, .flat (n.map fun z => .lit (.int .u8 z))⟩, ⟨false, 59, .flat (f.map ci)⟩, ⟨false, 25, .flat (d.map ci)⟩]
  [(0, 0), (2, 1)] with low := low }
def wO (size : Nat) (h : Hp) (M : Bool) (k : Int) : St := { size := size, hp := h, wide := false, keep := true, env := envL [(3, .one (.ptr 2 0 1 0)), (4, .one (.ptr 3 0 1 0)), (5, .one (.ptr 4 0 1 0)), (6, boo false), (9, boo M), (156, int k)] }
def wI (size : Nat) (h : Hp) (M : Bool) (k j : Int) : St := { size := size, hp := h, wide := false, keep := true, env := envL [(3, .one (.ptr 2 0 1 0)), (4, .one (.ptr 3 0 1 0)), (5, .one (.ptr 4 0 1 0)), (6, boo false), (9, boo M), (16, int k), (156, int k), (159, int j)] }
def slotsO : List Nat := [3, 4, 5, 6, 9, 156]
def slotsI : List Nat := [3, 4, 5, 6, 9, 16, 156, 159]
/-- the inner loop's code -/
def loop2 (fn : Func) : Code := nthLoop (loopF fn) (pathOf (loopF fn) 0)
/-! ### A round of the inner loop -/
section
variable (low : Nat) (e1 e2 : TypeId) (x y z num den ax ay az bx b2 bz m n f1 f2 f3 f4 f5 f6 ln : Int) (M : Bool) (k j : Int)
def wH : Hp := wHp low e1 e2 [x, y, z, num, den] [ax, ay, az, bx, b2, bz] [m, n] [f1, f2, f3, f4, f5, f6] [x, y, z, ln, den]
def wv (a b : Int) : Int := w64 (w64 (a * k) + w64 (b * j))
def wErr : Int := firstZ [coneErr x y z num den, rayErr (wv k j ax bx) (wv k j ay b2) (wv k j az bz)]
def wIns : Bool := !(wErr x y z num den ax ay az bx b2 bz k j != 0) && insW x y z num den (wv k j ax bx) (wv k j ay b2) (wv k j az bz)
def wStep (next : Tree (X × St)) : Tree (X × St) := .node (z3 (wv k j ax bx) (wv k j ay b2) (wv k j az bz)) (.fail 0) (.node (wErr x y z num den ax ay az bx b2 bz k j != 0) (.fail 0) (.node (wIns x y z num den ax ay az bx b2 bz k j) (.node (!M) (.fail 0) next) next))
def quad (t : Tree (X × St)) : Tree (X × St) := .amb (.amb (.amb t t) t) t
theorem w_in (size : Nat) (hs : size = Tryz.f6.ntmps) : (roundT (recT Tryz.prog (tabOf tb_frame)) slotsI slotsI (loop2 Tryz.f6) (wI size (wH low e1 e2 x y z num den ax ay az bx b2 bz m n f1 f2 f3 f4 f5 f6 ln) M k j)).stay =
    (Tree.node (decide (j < 13)) (.node (w64 (k + j) == 0) (.leaf (.normal, wI size (wH low e1 e2 x y z num den ax ay az bx b2 bz m n f1 f2 f3 f4 f5 f6 ln) M k (w64 (j + 1))))
      (quad (wStep x y z num den ax ay az bx b2 bz M k j (.leaf (.normal, wI size (wH low e1 e2 x y z num den ax ay az bx b2 bz m n f1 f2 f3 f4 f5 f6 ln) M k (w64 (j + 1)))))))
      (.leaf (.exit 2, wI size (wH low e1 e2 x y z num den ax ay az bx b2 bz m n f1 f2 f3 f4 f5 f6 ln) M k j))).stay := by
  subst hs
  kernel_rfl
end
end Go.Ev
