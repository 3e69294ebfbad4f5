/- A sky's text, parsed by the program: a line's sketch fits. Conditions: none. -/
import Derived.Test.YtkalcencblhlgaaGreatDoorPs0
namespace Go.Ev
open Go Go.RowKit Go.Proofs
set_option maxRecDepth 100000
section
variable (nS : ByteArray → UInt8 → Nat) (fS : ByteArray → UInt8 → Nat → ByteArray) (vI : ByteArray → Int) (gI : ByteArray → Bool) (wL : ByteArray → Bool) (bL : ByteArray → ByteArray) (E : FE) (s : ByteArray)
theorem pa_i0 (r L r' nm : ByteArray) (f0 f1 f2 f3 : Nat → Int) : paR nS fS vI gI wL bL E s r L r' nm f0 f1 f2 f3 0 = into (paR nS fS vI gI wL bL E s r L r' nm f0 f1 f2 f3 0) (pyS nS fS vI gI wL bL L r' nm f0 f1 f2 f3 0) := by kernel_rfl
theorem pa_i1 (r L r' nm : ByteArray) (f0 f1 f2 f3 : Nat → Int) : paR nS fS vI gI wL bL E s r L r' nm f0 f1 f2 f3 1 = into (paR nS fS vI gI wL bL E s r L r' nm f0 f1 f2 f3 1) (pyS nS fS vI gI wL bL L r' nm f0 f1 f2 f3 1) := by kernel_rfl
theorem pa_i2 (r L r' nm : ByteArray) (f0 f1 f2 f3 : Nat → Int) (m : Nat) : paR nS fS vI gI wL bL E s r L r' nm f0 f1 f2 f3 (m + 2) = into (paR nS fS vI gI wL bL E s r L r' nm f0 f1 f2 f3 (m + 2)) (pyS nS fS vI gI wL bL L r' nm f0 f1 f2 f3 (m + 2)) := by kernel_rfl
theorem pa_f0 (r L r' nm : ByteArray) (f0 f1 f2 f3 : Nat → Int) : fits (paR nS fS vI gI wL bL E s r L r' nm f0 f1 f2 f3 0) (pyS nS fS vI gI wL bL L r' nm f0 f1 f2 f3 0) = true := by kernel_rfl
theorem pa_f1 (r L r' nm : ByteArray) (f0 f1 f2 f3 : Nat → Int) : fits (paR nS fS vI gI wL bL E s r L r' nm f0 f1 f2 f3 1) (pyS nS fS vI gI wL bL L r' nm f0 f1 f2 f3 1) = true := by kernel_rfl
theorem pa_f2 (r L r' nm : ByteArray) (f0 f1 f2 f3 : Nat → Int) (m : Nat) : fits (paR nS fS vI gI wL bL E s r L r' nm f0 f1 f2 f3 (m + 2)) (pyS nS fS vI gI wL bL L r' nm f0 f1 f2 f3 (m + 2)) = true := by kernel_rfl
theorem pa_into (r L r' nm : ByteArray) (f0 f1 f2 f3 : Nat → Int) : ∀ k, paR nS fS vI gI wL bL E s r L r' nm f0 f1 f2 f3 k = into (paR nS fS vI gI wL bL E s r L r' nm f0 f1 f2 f3 k) (pyS nS fS vI gI wL bL L r' nm f0 f1 f2 f3 k)
 | 0 => pa_i0 nS fS vI gI wL bL E s r L r' nm f0 f1 f2 f3
 | 1 => pa_i1 nS fS vI gI wL bL E s r L r' nm f0 f1 f2 f3
 | m + 2 => pa_i2 nS fS vI gI wL bL E s r L r' nm f0 f1 f2 f3 m
theorem pa_fits (r L r' nm : ByteArray) (f0 f1 f2 f3 : Nat → Int) : ∀ k, fits (paR nS fS vI gI wL bL E s r L r' nm f0 f1 f2 f3 k) (pyS nS fS vI gI wL bL L r' nm f0 f1 f2 f3 k) = true
 | 0 => pa_f0 nS fS vI gI wL bL E s r L r' nm f0 f1 f2 f3
 | 1 => pa_f1 nS fS vI gI wL bL E s r L r' nm f0 f1 f2 f3
 | m + 2 => pa_f2 nS fS vI gI wL bL E s r L r' nm f0 f1 f2 f3 m
end
end Go.Ev
