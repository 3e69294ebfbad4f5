/- SaltRuns: the table of entries, the memory at which the law begins. Conditions: none. -/
import Derived.Test.YtlpchgidkibbeaaGreatDoorQRunS
import Derived.Test.YtlpchgidkibbeaaGreatDoorLaw0
namespace Go.Ev
open Go Go.Proofs
set_option maxRecDepth 100000

noncomputable def tbR : List (FuncId × Spec) := (13, specAwake) :: (64, stepsSp) :: tb_run
theorem tbR_ok : TabOk Tryz.prog (tabOf tbR) := tab_cons (tab_cons tb_run_ok steps_ok) specAwake_ok
def glS : List (Nat × List C) := [(0, actsL), (2, Lib.pow10Tab.map fun n => .lit (.int .u64 n))]
/-- the memory of a law with one table -/
def hpL1 (n : Nat) (cols : List Col) : Hp := hpT [⟨some 0, n, cols⟩] glS []
end Go.Ev
