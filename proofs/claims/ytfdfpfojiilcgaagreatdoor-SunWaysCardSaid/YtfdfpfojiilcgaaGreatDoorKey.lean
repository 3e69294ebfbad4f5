/- The law of ways and cones, over plain integers: a sum of two rays, with parts that are not below 0, lies inside of a cone only if the way between both meets it. Conditions: those of the theorem. -/
import Derived.Test.YtfdfpfojiilcgaaGreatDoorLaw1
namespace Go.Ev
open Go

theorem le_of_mul {k a b : Int} (hk : 0 < k) (h : k * a ≤ k * b) : a ≤ b := Int.le_of_mul_le_mul_left h hk
/-- a sum s a + t b of two rays with a product above 0: where the projection's part X is not above 0, b is nearer -/
theorem nearer {p q aa bb ab s t D Q X M : Int} (hD : D = s * p + t * q) (hQ : Q = s * s * aa + 2 * (s * t * ab) + t * t * bb) (hX : X = p * bb - q * ab) (hM : M = p * p * bb - 2 * (p * q * ab) + q * q * aa)
    (h0 : 0 < D) (hs : 0 ≤ s) (hM0 : 0 ≤ M) (hX0 : X ≤ 0) : D * D * bb ≤ q * q * Q := by
  have h : D * D * bb - q * q * Q = s * (2 * (X * D) - s * M) := by subst hD hQ hX hM; grind
  have h1 : X * D ≤ 0 := Int.mul_nonpos_of_nonpos_of_nonneg hX0 (by omega)
  have h2 : 0 ≤ s * M := Int.mul_nonneg hs hM0
  have h3 : s * (2 * (X * D) - s * M) ≤ 0 := Int.mul_nonpos_of_nonneg_of_nonpos hs (by omega)
  omega
theorem insideB {q bb D Q den N : Int} (hq : 0 < Q) (hbb : 0 ≤ bb) (hden : 0 ≤ den) (h : D * D * bb ≤ q * q * Q) (hin : N * Q ≤ D * D * den) : N * bb ≤ q * q * den := by
  have h1 : (N * Q) * bb ≤ (D * D * den) * bb := Int.mul_le_mul_of_nonneg_right hin hbb
  have h2 : (D * D * bb) * den ≤ (q * q * Q) * den := Int.mul_le_mul_of_nonneg_right h hden
  have h3 : Q * (N * bb) ≤ Q * (q * q * den) := by
    have e1 : Q * (N * bb) = (N * Q) * bb := by grind
    have e2 : Q * (q * q * den) = (q * q * Q) * den := by grind
    have e3 : (D * D * den) * bb = (D * D * bb) * den := by grind
    rw [e1, e2]
    exact Int.le_trans h1 (by rw [e3]; exact h2)
  exact le_of_mul hq h3
/-- the way between two rays meets a cone, where a sum of both lies inside -/
theorem way_key {p q aa bb ab s t den N all X Y M D Q : Int} (hD : D = s * p + t * q) (hQ : Q = s * s * aa + 2 * (s * t * ab) + t * t * bb) (hX : X = p * bb - q * ab) (hY : Y = q * aa - p * ab) (hall : all = aa * bb - ab * ab)
    (hM : M = X * p + Y * q) (haa : 0 < aa) (hbb : 0 < bb) (hall0 : 0 ≤ all) (hcol : all = 0 → Y = 0) (hM0 : 0 ≤ M) (hs : 0 ≤ s) (ht : 0 ≤ t) (hQ0 : 0 < Q) (hden : 0 < den) (hN : 0 ≤ N)
    (h0 : 0 < D) (hin : N * Q ≤ D * D * den) : (0 < p ∧ N * aa ≤ p * p * den) ∨ (0 < q ∧ N * bb ≤ q * q * den) ∨ (all ≠ 0 ∧ 0 < X ∧ 0 < Y ∧ N * all ≤ den * M) := by
  have hM' : M = p * p * bb - 2 * (p * q * ab) + q * q * aa := by subst hM hX hY; grind
  have hM'' : M = q * q * aa - 2 * (q * p * ab) + p * p * bb := by rw [hM']; grind
  have hD' : D = t * q + s * p := by omega
  have hQ' : Q = t * t * bb + 2 * (t * s * ab) + s * s * aa := by rw [hQ]; grind
  have nearB : X ≤ 0 → N * bb ≤ q * q * den := fun h => insideB hQ0 (by omega) (by omega) (nearer hD hQ hX hM' h0 hs hM0 h) hin
  have nearA : Y ≤ 0 → N * aa ≤ p * p * den := fun h => insideB hQ0 (by omega) (by omega) (nearer hD' hQ' hY hM'' h0 ht hM0 h) hin
  have r1 : X * ab + Y * bb = q * all := by subst hX hY hall; grind
  have r2 : X * aa + Y * ab = p * all := by subst hX hY hall; grind
  rcases Int.lt_or_le 0 X with hX0 | hX0
  · rcases Int.lt_or_le 0 Y with hY0 | hY0
    · -- between
      by_cases ia : 0 < p ∧ N * aa ≤ p * p * den
      · exact .inl ia
      by_cases ib : 0 < q ∧ N * bb ≤ q * q * den
      · exact .inr (.inl ib)
      refine .inr (.inr ⟨fun e => by have := hcol e; omega, hX0, hY0, ?_⟩)
      have hdisc : N * (den * M - N * all) = (den * (p * q) - N * ab) * (den * (p * q) - N * ab) - (den * (p * p) - N * aa) * (den * (q * q) - N * bb) := by rw [hM']; subst hall; grind
      have hf : 0 ≤ s * s * (den * (p * p) - N * aa) + 2 * (s * t * (den * (p * q) - N * ab)) + t * t * (den * (q * q) - N * bb) := by
        have : s * s * (den * (p * p) - N * aa) + 2 * (s * t * (den * (p * q) - N * ab)) + t * t * (den * (q * q) - N * bb) = D * D * den - N * Q := by subst hD hQ; grind
        omega
      have ea : p * p * den = den * (p * p) := Int.mul_comm _ _
      have eb : q * q * den = den * (q * q) := Int.mul_comm _ _
      rw [ea] at ia
      rw [eb] at ib
      generalize hα : den * (p * p) - N * aa = α at hdisc hf
      generalize hγ : den * (q * q) - N * bb = γ at hdisc hf
      generalize hβ : den * (p * q) - N * ab = β at hdisc hf
      have hp0 : 0 < p ∨ 0 < q := by
        rcases Int.lt_or_le 0 p with h | h
        · exact .inl h
        · rcases Int.lt_or_le 0 q with h' | h'
          · exact .inr h'
          · have h1 := Int.mul_nonpos_of_nonneg_of_nonpos hs h
            have h2 := Int.mul_nonpos_of_nonneg_of_nonpos ht h'
            omega
      rcases Int.lt_or_le 0 N with hN0 | hN0
      rotate_left
      · have : N = 0 := by omega
        subst this
        rw [Int.zero_mul]
        exact Int.mul_nonneg (by omega) hM0
      have fin : 0 ≤ β * β - α * γ → N * all ≤ den * M := fun h => by
        rw [← hdisc] at h
        rcases Int.lt_or_le (den * M) (N * all) with h' | h'
        · have := Int.mul_neg_of_pos_of_neg hN0 (show den * M - N * all < 0 by omega)
          omega
        · exact h'
      have sqs := sq_nonneg s
      have sqt := sq_nonneg t
      have half : ∀ {α γ s t : Int}, α < 0 → 0 < t * t → 0 ≤ s * s * α + 2 * (s * t * β) + t * t * γ → 0 ≤ β * β - α * γ := fun {α γ s t} ha htt hf => by
        have e : (s * α + t * β) * (s * α + t * β) = α * (s * s * α + 2 * (s * t * β) + t * t * γ) + (t * t) * (β * β - α * γ) := by grind
        have h1 := sq_nonneg (s * α + t * β)
        have h2 := Int.mul_nonpos_of_nonpos_of_nonneg (Int.le_of_lt ha) hf
        rw [e] at h1
        rcases Int.lt_or_le (β * β - α * γ) 0 with h' | h'
        · have := Int.mul_neg_of_pos_of_neg htt h'
          omega
        · exact h'
      rcases hp0 with hp | hq
      · have ha : α < 0 := by
          rcases Int.lt_or_le α 0 with h | h
          · exact h
          · exact absurd ⟨hp, by omega⟩ ia
        refine fin (half ha ?_ hf)
        by_cases h : t = 0
        · subst h
          have hs1 : s ≠ 0 := fun e => by subst e; simp at hD; omega
          have : 0 < s * s := by
            rcases Int.lt_or_gt_of_ne hs1 with h | h
            · omega
            · exact Int.mul_pos h h
          have := Int.mul_neg_of_pos_of_neg this ha
          simp at hf
          omega
        · exact Int.mul_pos (by omega) (by omega)
      · have hc : γ < 0 := by
          rcases Int.lt_or_le γ 0 with h | h
          · exact h
          · exact absurd ⟨hq, by omega⟩ ib
        have hf' : 0 ≤ t * t * γ + 2 * (t * s * β) + s * s * α := by
          have : t * t * γ + 2 * (t * s * β) + s * s * α = s * s * α + 2 * (s * t * β) + t * t * γ := by grind
          omega
        have hh := half hc ?_ hf'
        · refine fin ?_
          have : γ * α = α * γ := Int.mul_comm _ _
          omega
        by_cases h : s = 0
        · subst h
          have ht1 : t ≠ 0 := fun e => by subst e; simp at hD; omega
          have : 0 < t * t := Int.mul_pos (by omega) (by omega)
          have := Int.mul_neg_of_pos_of_neg this hc
          simp at hf
          omega
        · exact Int.mul_pos (by omega) (by omega)
    · -- Y is not above 0
      rcases Int.lt_or_le 0 p with hp | hp
      · exact .inl ⟨hp, nearA hY0⟩
      · exfalso
        have hq : 0 < q := by
          rcases Int.lt_or_le 0 q with h' | h'
          · exact h'
          · have h1 := Int.mul_nonpos_of_nonneg_of_nonpos hs hp
            have h2 := Int.mul_nonpos_of_nonneg_of_nonpos ht h'
            omega
        -- X aa + Y ab = p all, not above 0: so Y ab < 0, ab > 0: so Y > 0
        have h1 : p * all ≤ 0 := Int.mul_nonpos_of_nonpos_of_nonneg hp hall0
        have h2 := Int.mul_pos hX0 haa
        have h3 : Y * ab < 0 := by omega
        have h4 : 0 < ab := by
          rcases Int.lt_or_le 0 ab with h | h
          · exact h
          · have := Int.mul_nonneg_of_nonpos_of_nonpos hY0 h; omega
        have h5 := Int.mul_pos hq haa
        have h6 := Int.mul_nonpos_of_nonpos_of_nonneg hp (Int.le_of_lt h4)
        omega
  · rcases Int.lt_or_le 0 q with hq | hq
    · exact .inr (.inl ⟨hq, nearB hX0⟩)
    · have hp : 0 < p := by
        rcases Int.lt_or_le 0 p with h' | h'
        · exact h'
        · have h1 := Int.mul_nonpos_of_nonneg_of_nonpos hs h'
          have h2 := Int.mul_nonpos_of_nonneg_of_nonpos ht hq
          omega
      refine .inl ⟨hp, nearA ?_⟩
      rcases Int.lt_or_le 0 Y with hY0 | hY0
      · exfalso
        have h1 : q * all ≤ 0 := Int.mul_nonpos_of_nonpos_of_nonneg hq hall0
        have h2 := Int.mul_pos hY0 hbb
        have h3 : X * ab < 0 := by omega
        have h4 : 0 < ab := by
          rcases Int.lt_or_le 0 ab with h | h
          · exact h
          · have := Int.mul_nonneg_of_nonpos_of_nonpos hX0 h; omega
        have h5 := Int.mul_pos hp hbb
        have h6 := Int.mul_nonpos_of_nonpos_of_nonneg hq (Int.le_of_lt h4)
        omega
      · exact hY0
end Go.Ev
