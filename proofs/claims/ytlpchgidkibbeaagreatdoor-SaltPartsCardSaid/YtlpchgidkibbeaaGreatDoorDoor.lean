/- A world in which the four listed variables hold what the program's text lays in them, and a row's arguments beside them. Conditions: none. -/
import Derived.Test.YtlpchgidkibbeaaGreatDoorRow
import Derived.LaidHandle
import Derived.Deep.DeepLaidRun
namespace Go.Proofs.YtlpchgidkibbeaaGreatDoor
open Go.ChangeShapes Go.WideShapes Go.ChangeAt Go.RowKit Go.Ev

set_option maxRecDepth 100000

noncomputable def door (os : Os) : World := World.doorLaid Tryz.prog 60 os
theorem plain3 : (laid4.filter fun x => x.2.handleName?.isNone) = laid3 := by kernel_rfl
theorem door_met (os : Os) (args : Array Value) : laidMetH Tryz.prog laid4 ((door os).forCall (fun _ _ => 0) ⟨#[], args, []⟩).memory :=
  laidMetH_of_parts3 (fuel := 8) (by rw [plain3]; exact laidMet_of_run3 8 (by kernel_rfl) (by kernel_rfl) (by kernel_rfl)) (by kernel_rfl) (by kernel_rfl)
theorem door_shaped (os : Os) (args : Array Value) : ((door os).forCall (fun _ _ => 0) ⟨#[], args, []⟩).Shaped Tryz.prog := World.shaped_of_RefB (by kernel_rfl) (by kernel_rfl)
end Go.Proofs.YtlpchgidkibbeaaGreatDoor
