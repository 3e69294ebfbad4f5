/- awake() of salt returns true: a closed run. Conditions: the two variables that it reads. -/
import Derived.Test.YtlpchgidkibbeaaGreatDoorRfs
namespace Go.Ev
open Go Go.Proofs
def tb_kind0 : List (FuncId × Spec) := tb_stepped
theorem tb_kind0_ok : TabOk Tryz.prog (tabOf tb_kind0) := tb_stepped_ok
def hpS : Hp := hpL [⟨true, 0, .flat actsL⟩, ⟨true, 0, .flat (Lib.pow10Tab.map fun n => .lit (.int .u64 n))⟩] [(0, 0), (2, 1)]
theorem awake_run : (evFun Tryz.prog (tabOf tb_kind0) modesA 1000 13 [] hpS).run = some (boo true, hpS) := by kernel_rfl
end Go.Ev
