/- States for the highest sun. Conditions: none. The highest sun: the greatest number of a list, its first place. Conditions: as the entries say. -/
import Derived.Test.YtkalcencblhlgaaGreatDoorRis
namespace Go.Ev
open Go Go.Proofs
set_option maxRecDepth 100000
def fnA (f : FuncId) : A := .one (.fn f [])
section
variable (n : Nat) (g0 g1 g2 g3 : Nat → Int)
end
section
variable (n : Nat) (z : Nat → Int)
end
end Go.Ev
namespace Go.Ev
open Go Go.Proofs
set_option maxRecDepth 100000
section
variable (n : Nat) (g0 g1 g2 g3 : Nat → Int)
end
section
variable (n : Nat) (z : Nat → Int)
end
section
variable (n : Nat) (z : Nat → Int) (v : Int)
end
end Go.Ev
