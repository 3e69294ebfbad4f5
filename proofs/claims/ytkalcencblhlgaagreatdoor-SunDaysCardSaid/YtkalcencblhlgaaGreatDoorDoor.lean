/- The door: a world in which the four listed variables hold what the program's text lays in them, and a row's arguments beside them. Conditions: none. -/
import Derived.Test.YtkalcencblhlgaaGreatDoorRow
import Derived.Deep.DeepLaidRun
namespace Go.Proofs.YtkalcencblhlgaaGreatDoor
open Go.ChangeShapes Go.WideShapes Go.ChangeAt Go.RowKit Go.Ev

set_option maxRecDepth 100000

noncomputable def door (os : Os) : World := World.doorLaid Tryz.prog 60 os
theorem door_data (os : Os) (args : Array Value) : laidMet Tryz.prog laid4 ((door os).forCall (fun _ _ => 0) ⟨#[], args, []⟩).memory :=
  laidMet_of_run3 8 (by kernel_rfl) (by kernel_rfl) (by kernel_rfl)
theorem door_met (os : Os) (args : Array Value) : laidMetH Tryz.prog laid4 ((door os).forCall (fun _ _ => 0) ⟨#[], args, []⟩).memory := by
  rw [MakeChecks.laidMetH_plain _ _ _ (by kernel_rfl)]
  exact door_data os args
theorem door_shaped (os : Os) (args : Array Value) : ((door os).forCall (fun _ _ => 0) ⟨#[], args, []⟩).Shaped Tryz.prog := World.shaped_of_RefB (by kernel_rfl) (by kernel_rfl)
end Go.Proofs.YtkalcencblhlgaaGreatDoor
