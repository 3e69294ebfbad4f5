/- SaltTanks: the law as a whole. Conditions: none. (Printed by gen_ltank1.py.) -/
import Derived.Test.YtlpchgidkibbeaaGreatDoorLTank1
namespace Go.Ev
open Go Go.Proofs
set_option maxRecDepth 100000

section
variable (k : Nat) (room index x0 x1 : Int) (z1 z2 : Nat → Int) (g : (Nat → Int) → (Nat → Int) → Nat → T3)
theorem z_into_a : lT room index x0 x1 z1 z2 g true 0 0 (some 0) 0 = into (lT room index x0 x1 z1 z2 g true 0 0 (some 0) 0) (zS room index x0 x1 z1 z2 0 0 (some 0)) := by kernel_rfl
theorem z_fits_a : fits (lT room index x0 x1 z1 z2 g true 0 0 (some 0) 0) (zS room index x0 x1 z1 z2 0 0 (some 0)) = true := by kernel_rfl
theorem z_into_b : lT room index x0 x1 z1 z2 g true 3 0 (some 3) 0 = into (lT room index x0 x1 z1 z2 g true 3 0 (some 3) 0) (zS room index x0 x1 z1 z2 3 0 (some 3)) := by kernel_rfl
theorem z_fits_b : fits (lT room index x0 x1 z1 z2 g true 3 0 (some 3) 0) (zS room index x0 x1 z1 z2 3 0 (some 3)) = true := by kernel_rfl
theorem z_into_c : lT room index x0 x1 z1 z2 g true 3 3 none 0 = into (lT room index x0 x1 z1 z2 g true 3 3 none 0) (zS room index x0 x1 z1 z2 3 3 none) := by kernel_rfl
theorem z_fits_c : fits (lT room index x0 x1 z1 z2 g true 3 3 none 0) (zS room index x0 x1 z1 z2 3 3 none) = true := by kernel_rfl
theorem l_into_a : lT room index x0 x1 z1 z2 g true 0 0 (some 0) (k + 1) = into (lT room index x0 x1 z1 z2 g true 0 0 (some 0) (k + 1)) (lS1 k room index x0 x1 z1 z2 g true 0 0 (some 0)) := by kernel_rfl
theorem l_fits_a : fits (lT room index x0 x1 z1 z2 g true 0 0 (some 0) (k + 1)) (lS1 k room index x0 x1 z1 z2 g true 0 0 (some 0)) = true := by kernel_rfl
theorem l_into_b : lT room index x0 x1 z1 z2 g true 3 0 (some 3) (k + 1) = into (lT room index x0 x1 z1 z2 g true 3 0 (some 3) (k + 1)) (lS1 k room index x0 x1 z1 z2 g true 3 0 (some 3)) := by kernel_rfl
theorem l_fits_b : fits (lT room index x0 x1 z1 z2 g true 3 0 (some 3) (k + 1)) (lS1 k room index x0 x1 z1 z2 g true 3 0 (some 3)) = true := by kernel_rfl
theorem l_into_c : lT room index x0 x1 z1 z2 g true 3 3 none (k + 1) = into (lT room index x0 x1 z1 z2 g true 3 3 none (k + 1)) (lS1 k room index x0 x1 z1 z2 g true 3 3 none) := by kernel_rfl
theorem l_fits_c : fits (lT room index x0 x1 z1 z2 g true 3 3 none (k + 1)) (lS1 k room index x0 x1 z1 z2 g true 3 3 none) = true := by kernel_rfl
theorem l_into_d : lT room index x0 x1 z1 z2 g false 0 0 (some 0) (k + 1) = into (lT room index x0 x1 z1 z2 g false 0 0 (some 0) (k + 1)) (lS1 k room index x0 x1 z1 z2 g false 0 0 (some 0)) := by kernel_rfl
theorem l_fits_d : fits (lT room index x0 x1 z1 z2 g false 0 0 (some 0) (k + 1)) (lS1 k room index x0 x1 z1 z2 g false 0 0 (some 0)) = true := by kernel_rfl
theorem l_into_e : lT room index x0 x1 z1 z2 g false 3 0 (some 3) (k + 1) = into (lT room index x0 x1 z1 z2 g false 3 0 (some 3) (k + 1)) (lS1 k room index x0 x1 z1 z2 g false 3 0 (some 3)) := by kernel_rfl
theorem l_fits_e : fits (lT room index x0 x1 z1 z2 g false 3 0 (some 3) (k + 1)) (lS1 k room index x0 x1 z1 z2 g false 3 0 (some 3)) = true := by kernel_rfl
theorem l_into_f : lT room index x0 x1 z1 z2 g false 3 3 none (k + 1) = into (lT room index x0 x1 z1 z2 g false 3 3 none (k + 1)) (lS1 k room index x0 x1 z1 z2 g false 3 3 none) := by kernel_rfl
theorem l_fits_f : fits (lT room index x0 x1 z1 z2 g false 3 3 none (k + 1)) (lS1 k room index x0 x1 z1 z2 g false 3 3 none) = true := by kernel_rfl
end
end Go.Ev
