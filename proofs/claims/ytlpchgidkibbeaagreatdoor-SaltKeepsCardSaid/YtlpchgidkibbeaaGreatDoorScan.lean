/- Functions that go through a list of steps: sizes, checks, runs. Conditions: as the entries say. -/
import Derived.Test.YtlpchgidkibbeaaGreatDoorCpy
namespace Go.Ev
open Go Go.Proofs
section
variable (n : Nat) (z0 : Nat → ByteArray) (z1 z2 : Nat → Int) (r0 r1 r2 r3 r4 r5 : Int)
def pt (id : Nat) : A := .one (.ptr id 0 1 0)
end
end Go.Ev
