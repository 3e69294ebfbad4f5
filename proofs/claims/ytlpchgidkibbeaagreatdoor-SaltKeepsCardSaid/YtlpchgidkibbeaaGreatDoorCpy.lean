/- Functions that make a list of another one, element by element. Conditions: the list is short. (Printed by gen_cpy.py.) -/
import Derived.Test.YtlpchgidkibbeaaGreatDoorLift
import Derived.Test.YtlpchgidkibbeaaGreatDoorRfs
namespace Go.Ev
open Go Go.Proofs
def slT (j m n : Nat) : A := .one (.sl false j 0 m 0 n)
def slO (j m n : Nat) : A := .one (.sl true j 0 m 0 n)
def baseB (size : Nat) (args : List A) (h : Hp) : St := { size := size, env := initEnv 0 args .nil, hp := { h with low := h.next } }
end Go.Ev
