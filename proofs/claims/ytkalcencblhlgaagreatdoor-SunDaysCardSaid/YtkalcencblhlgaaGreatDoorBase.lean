/- Facts on this program that the evaluator's soundness asks. Conditions: none. -/
import Derived.Test.YtkalcencblhlgaaGreatDoorTab
namespace Go.Ev
open Go

theorem mixed : Go.Proofs.Tryz.prog.follows .mixedOrders = true := by kernel_rfl
theorem noOwn : NoOwn Go.Proofs.Tryz.prog := fun f fn h => by
  have key : (Go.Proofs.Tryz.prog.funcs.toList.all fun fn => !(fn.name == "runtime.NumGoroutine")) = true := by kernel_rfl
  have hm : fn ∈ Go.Proofs.Tryz.prog.funcs.toList := by
    rw [Array.mem_toList_iff]
    exact Array.mem_of_getElem? h
  have := List.all_eq_true.1 key fn hm
  simpa using this
/-- which functions' drawn regions are run in each order, and which keep the outcomes apart to their end -/
def modes (f : FuncId) : Bool × Bool := (Nat.beq f 21, Nat.beq f 8 || Nat.beq f 69)
end Go.Ev
