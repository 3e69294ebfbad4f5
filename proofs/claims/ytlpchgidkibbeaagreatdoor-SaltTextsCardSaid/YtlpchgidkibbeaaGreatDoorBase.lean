/- Facts on this program that the evaluator's soundness asks. Conditions: none. -/
import Derived.Test.YtlpchgidkibbeaaGreatDoorTab
namespace Go.Ev
open Go

theorem mixed : Go.Proofs.Tryz.prog.follows .mixedOrders = true := by kernel_rfl
theorem noOwn : NoOwn Go.Proofs.Tryz.prog := fun f fn h => by
  have key : (Go.Proofs.Tryz.prog.funcs.toList.all fun fn => !(fn.name == "runtime.NumGoroutine")) = true := by kernel_rfl
  have hm : fn ∈ Go.Proofs.Tryz.prog.funcs.toList := by
    rw [Array.mem_toList_iff]
    exact Array.mem_of_getElem? h
  have := List.all_eq_true.1 key fn hm
  simpa using this
/-- how the functions' drawn regions are run: in the laws; in the closed run of awake -/
def modes (_ : FuncId) : Bool × Bool := (false, false)
def modesA (_ : FuncId) : Bool × Bool := (true, true)
end Go.Ev
