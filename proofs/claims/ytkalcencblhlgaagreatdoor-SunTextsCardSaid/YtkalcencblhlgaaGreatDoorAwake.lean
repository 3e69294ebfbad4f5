/- awake() returns true: a closed run. Conditions: the two variables that it reads. -/
import Derived.Test.YtkalcencblhlgaaGreatDoorVec4
namespace Go.Ev
open Go Go.Proofs
def hpG (e1 e2 : TypeId) : Hp := hpL [⟨true, e1, .flat ([1, 0, 0, 0, 0, 1].map ci)⟩, ⟨true, e2, .flat (Lib.pow10Tab.map fun n => .lit (.int .u64 n))⟩] [(0, 0), (2, 1)]
theorem awake_run (e1 e2 : TypeId) : (evFun Tryz.prog (tabOf tb_tiny) modes 1000 8 [] (hpG e1 e2)).run = some (boo true, hpG e1 e2) := by kernel_rfl
end Go.Ev
