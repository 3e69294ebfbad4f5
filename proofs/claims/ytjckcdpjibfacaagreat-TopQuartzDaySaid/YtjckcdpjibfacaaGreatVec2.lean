/- Numbers within 63 bits, and their divisors. Conditions: as each says. -/
import Derived.Test.YtjckcdpjibfacaaGreatVec
namespace Go.Ev
open Go Go.Proofs
theorem gcd1_ne (a b : Int) : (!(gcd1 a b == 0)) = true := by
 unfold gcd1
 split
 ·rfl
 ·rename_i h
  have h : ¬ Int.gcd a b = 0 := by simpa using h
  simp only [Bool.not_eq_true', beq_eq_false_iff_ne]
  omega
theorem in63_0 : in63 0 = true := by decide
theorem in63_iff {a : Int} : in63 a = true ↔ -9223372036854775808 < a ∧ a < 9223372036854775808 := by simp [in63]
theorem gcd_in {a b : Int} (ha : in63 a = true) (hb : in63 b = true) : Int.gcd a b < 9223372036854775808 := by
 rw [in63_iff] at ha hb
 by_cases h : a = 0
 ·subst h; simp only [Int.gcd_zero_left]; omega
 ·have := Int.gcd_le_natAbs_left (a := a) b h
  omega
theorem gcd1_in {a b : Int} (ha : in63 a = true) (hb : in63 b = true) : in63 (gcd1 a b) = true := by
 have := gcd_in ha hb
 unfold gcd1
 split
 ·decide
 ·rw [in63_iff]; omega
theorem gcdc_in {a b : Int} (ha : in63 a = true) (hb : in63 b = true) : in63 (Int.gcd a b) = true := by
 have := gcd_in ha hb
 rw [in63_iff]; omega
theorem gcd_blt {a b : Int} (ha : in63 a = true) (hb : in63 b = true) : Nat.blt (Int.gcd a b) 9223372036854775808 = true := by
 rw [Nat.blt_eq]; exact gcd_in ha hb
theorem in3_iff {x y z : Int} (h : in3 x y z = true) : in63 x = true ∧ in63 y = true ∧ in63 z = true := by
 simpa [in3, Bool.and_eq_true] using h
end Go.Ev
