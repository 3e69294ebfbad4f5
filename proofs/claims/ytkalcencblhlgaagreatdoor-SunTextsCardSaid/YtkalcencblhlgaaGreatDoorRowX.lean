/- Rows with six listed variables: what they give the evaluator; a world in which they hold what the program's text, or the form's own constant, lays in them. Conditions: none. -/
import Derived.Test.YtkalcencblhlgaaGreatDoorRow
import Derived.LaidHandle
import Derived.Deep.DeepLaidRun
import Derived.Lay
namespace Go.Proofs.YtkalcencblhlgaaGreatDoor
open Go.ChangeShapes Go.WideShapes Go.ChangeAt Go.RowKit Go.Ev
set_option maxRecDepth 100000
def laid6 : List (String × DataW Unit) := [("math/bits.deBruijn32tab", Rows.laid_math_bits_deBruijn32tab), ("math/bits.deBruijn64tab", Rows.laid_math_bits_deBruijn64tab), ("internal/strconv.uint64pow10", Rows.laid_internal_strconv_uint64pow10), ("unicode/utf8.acceptRanges", Rows.laid_unicode_utf8_acceptRanges), ("spillage/sun.axes", Rows.laid_spillage_sun_axes), ("unicode/utf8.first", Rows.laid_unicode_utf8_first)]
theorem rh_laid6 {W : World} (h : laidMetH Tryz.prog laid6 W) : ∃ E : Env, RH E (hpT [] glY []) W := by
 rw [MakeChecks.laidMetH_plain _ _ _ (by kernel_rfl)] at h
 obtain ⟨ps, hv, _, _⟩ := h
 exact rh_data hv (by simp [laid6]) (by simp [laid6])
noncomputable def door0 (os : Os) : World := World.doorLaid Tryz.prog 60 os
noncomputable def door6 (os : Os) : World := (door0 os).layVars Tryz.prog laid6
theorem door6_os (os : Os) : (door6 os).os = os := World.layVars_os _ _ _
theorem door6_plain (os : Os) : laidMet Tryz.prog laid6 (door6 os) := by
 have e1 : (laid6.filter fun x => (laid6.map (·.1)).contains x.1) = laid6 := List.filter_eq_self.2 fun x hx => List.contains_iff_mem.2 (List.mem_map.2 ⟨x, hx, rfl⟩)
 have e2 : (laid6.filter fun x => !(laid6.map (·.1)).contains x.1) = [] := List.filter_eq_nil_iff.2 fun x hx => by rw [List.contains_iff_mem.2 (List.mem_map.2 ⟨x, hx, rfl⟩)]; simp
 exact laidMet_layVars (w0 := door0 os) (laid6.map (·.1)) [] (by rw [e1]; rfl) (by rw [e1]; kernel_rfl) (by rw [e1]; kernel_rfl) (by rw [e2]; exact LaidIn.none)
theorem door6_met (os : Os) (args : Array Value) : laidMetH Tryz.prog laid6 ((door6 os).forCall (fun _ _ => 0) ⟨#[], args, []⟩).memory := by
 rw [MakeChecks.laidMetH_plain _ _ _ (by kernel_rfl)]
 exact (door6_plain os).of_heap (by simp [World.memory, World.forCall, Input.heap])
theorem door6_shaped (os : Os) (args : Array Value) : ((door6 os).forCall (fun _ _ => 0) ⟨#[], args, []⟩).Shaped Tryz.prog := World.shaped_of_ZipB (by kernel_rfl) (by kernel_rfl)
end Go.Proofs.YtkalcencblhlgaaGreatDoor
