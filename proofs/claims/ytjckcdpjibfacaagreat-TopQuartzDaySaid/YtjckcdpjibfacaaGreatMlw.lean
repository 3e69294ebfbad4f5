/- Plain laws of cones and ways. Conditions: as each says. (Turned by mkmee.py from the texts of the sun laws.) -/
import Derived.Test.YtjckcdpjibfacaaGreatMee
namespace Go.Ev
open Go
theorem qd_eq {x y z : Int} (h : ¬ (x = 0 ∧ y = 0 ∧ z = 0)) : qd x y z = gcdN x y z := by
 unfold qd gcdN gcd1
 by_cases hx : x = 0 ∧ y = 0
 ·obtain ⟨rfl, rfl⟩ := hx
  have hz : z ≠ 0 := fun e => h ⟨rfl, rfl, e⟩
  have : (z.natAbs == 0) = false := by simpa using hz
  simp [this]
 ·have h1 : ((x != 0) || (y != 0)) = true := by
   rw [Bool.or_eq_true]; simp only [bne_iff_ne]; omega
  have h2 : (Int.gcd x y == 0) = false := by
   rw [beq_eq_false_iff_ne]
   intro e
   rw [Int.gcd_eq_zero_iff] at e
   exact hx e
  rw [h1, h2]
  have h3 : (Int.gcd (Int.gcd x y : Int) z == 0) = false := by
   rw [beq_eq_false_iff_ne]
   intro e
   rw [Int.gcd_eq_zero_iff] at e
   have := e.1
   have h4 : ¬ Int.gcd x y = 0 := by simpa using h2
   omega
  rw [h3]
  rfl
theorem qred_mul {x y z : Int} (h : ¬ (x = 0 ∧ y = 0 ∧ z = 0)) (hb : Bd 1048576 x y z) {a : Int} (ha : a = x ∨ a = y ∨ a = z) : (gcdN x y z : Int) * qred x y z a = a ∧ (qred x y z a).natAbs ≤ a.natAbs := by
 obtain ⟨d1, d2, d3⟩ := gcdN_dvd x y z
 have hpos := gcdN_pos h
 have hd : (gcdN x y z : Int) ∣ a := by rcases ha with rfl | rfl | rfl <;> assumption
 have hab : a.natAbs ≤ 1048576 := by obtain ⟨h1, h2, h3⟩ := hb; rcases ha with rfl | rfl | rfl <;> assumption
 unfold qred
 rw [qd_eq h]
 generalize gcdN x y z = d at hd hpos
 obtain ⟨k, rfl⟩ := hd
 rw [Int.mul_tdiv_cancel_left _ (by omega)]
 have hk : k.natAbs ≤ ((d : Int) * k).natAbs := by
  rw [Int.natAbs_mul]
  exact Nat.le_mul_of_pos_left _ (by omega)
 rw [w64_id (by omega)]
 exact ⟨rfl, hk⟩
theorem line_red {n m da db a b p q : Int} (hn : 0 < n * db) (h1 : n * b = m * a) (hg : n * db = m * da) (ha : da * p = a) (hb : db * q = b) : q = p := by
 have h : (n * db) * q = (n * db) * p := by
  rw [Int.mul_assoc, hb, h1, ← ha, hg]; simp only [Int.mul_assoc]
 exact Int.eq_of_mul_eq_mul_left (by omega) h
theorem dir_cases {ax ay az bx b2 bz : Int} (ha : ¬ (ax = 0 ∧ ay = 0 ∧ az = 0)) (hb : ¬ (bx = 0 ∧ b2 = 0 ∧ bz = 0)) (hA : Bd 1048576 ax ay az) (hB : Bd 1048576 bx b2 bz) (s : Int) (hs : s = 1 ∨ s = -1) :
  (qred ax ay az ax = s * qred bx b2 bz bx ∧ qred ax ay az ay = s * qred bx b2 bz b2 ∧ qred ax ay az az = s * qred bx b2 bz bz) ↔
  (ay * bz - az * b2 = 0 ∧ az * bx - ax * bz = 0 ∧ ax * b2 - ay * bx = 0) ∧ 0 < s * (ax * bx + ay * b2 + az * bz) := by
 obtain ⟨a1, _⟩ := qred_mul ha hA (a := ax) (.inl rfl)
 obtain ⟨a2, _⟩ := qred_mul ha hA (a := ay) (.inr (.inl rfl))
 obtain ⟨a3, _⟩ := qred_mul ha hA (a := az) (.inr (.inr rfl))
 obtain ⟨b1, _⟩ := qred_mul hb hB (a := bx) (.inl rfl)
 obtain ⟨b2', _⟩ := qred_mul hb hB (a := b2) (.inr (.inl rfl))
 obtain ⟨b3, _⟩ := qred_mul hb hB (a := bz) (.inr (.inr rfl))
 have pa := gcdN_pos ha
 have pb := gcdN_pos hb
 have na := nsq_pos ha
 have hgm := gcdN_mul
 constructor
 ·rintro ⟨e1, e2, e3⟩
  generalize hp1 : qred bx b2 bz bx = p1 at *
  generalize hp2 : qred bx b2 bz b2 = p2 at *
  generalize hp3 : qred bx b2 bz bz = p3 at *
  rw [e1] at a1
  rw [e2] at a2
  rw [e3] at a3
  generalize gcdN ax ay az = da at *
  generalize gcdN bx b2 bz = db at *
  have hne : ¬ (p1 = 0 ∧ p2 = 0 ∧ p3 = 0) := by
   rintro ⟨rfl, rfl, rfl⟩
   exact hb ⟨by rw [← b1]; simp, by rw [← b2']; simp, by rw [← b3]; simp⟩
  have np := nsq_pos hne
  subst a1; subst a2; subst a3; subst b1; subst b2'; subst b3
  refine ⟨⟨by grind, by grind, by grind⟩, ?_⟩
  have hss : s * s = 1 := by rcases hs with rfl | rfl <;> rfl
  have h1 : s * ((da : Int) * (s * p1) * ((db : Int) * p1) + (da : Int) * (s * p2) * ((db : Int) * p2) + (da : Int) * (s * p3) * ((db : Int) * p3)) = (s * s) * ((da : Int) * db * (p1 * p1 + p2 * p2 + p3 * p3)) := by grind
  rw [h1, hss, Int.one_mul]
  exact Int.mul_pos (Int.mul_pos (by omega) (by omega)) np
 ·rintro ⟨⟨c1, c2, c3⟩, hpos⟩
  -- n b = m a
  have k1 : (ax * ax + ay * ay + az * az) * bx = (ax * bx + ay * b2 + az * bz) * ax := by grind
  have k2 : (ax * ax + ay * ay + az * az) * b2 = (ax * bx + ay * b2 + az * bz) * ay := by grind
  have k3 : (ax * ax + ay * ay + az * az) * bz = (ax * bx + ay * b2 + az * bz) * az := by grind
  generalize ax * ax + ay * ay + az * az = n at na k1 k2 k3
  generalize hm : ax * bx + ay * b2 + az * bz = m at hpos k1 k2 k3
  have g1 : gcdN (n * bx) (n * b2) (n * bz) = gcdN (m * ax) (m * ay) (m * az) := by rw [k1, k2, k3]
  rw [gcdN_mul, gcdN_mul] at g1
  have hg : n * (gcdN bx b2 bz : Int) = (s * m) * (gcdN ax ay az : Int) := by
   have h2 : (n.natAbs : Int) = n := by omega
   have h3 : (m.natAbs : Int) = s * m := by rcases hs with rfl | rfl <;> omega
   have h4 : ((n.natAbs * gcdN bx b2 bz : Nat) : Int) = ((m.natAbs * gcdN ax ay az : Nat) : Int) := by rw [g1]
   rw [Int.natCast_mul, Int.natCast_mul, h2, h3] at h4
   exact h4
  have hn : 0 < n * (gcdN bx b2 bz : Int) := Int.mul_pos na (by omega)
  have hss : s * s = 1 := by rcases hs with rfl | rfl <;> rfl
  have fin : ∀ {a b p q : Int}, n * b = m * a → (gcdN ax ay az : Int) * p = a → (gcdN bx b2 bz : Int) * q = b → p = s * q := fun {a b p q} hk hp hq => by
   have h5 : n * b = (s * m) * (s * a) := by
    have : (s * m) * (s * a) = (s * s) * (m * a) := by grind
    rw [this, hss, Int.one_mul, hk]
   have h6 : (gcdN ax ay az : Int) * (s * p) = s * a := by rw [← hp]; grind
   have h7 : q = s * p := line_red hn h5 hg h6 hq
   rw [h7]
   have : s * (s * p) = (s * s) * p := by grind
   rw [this, hss, Int.one_mul]
  exact ⟨fin k1 a1 b1, fin k2 a2 b2', fin k3 a3 b3⟩
theorem dot_bd {ax ay az bx b2 bz : Int} (hA : Bd 1048576 ax ay az) (hB : Bd 1048576 bx b2 bz) : dotW ax ay az bx b2 bz = ax * bx + ay * b2 + az * bz := (dot_eq hA hB (by decide)).1
theorem opp_eq {ax ay az bx b2 bz : Int} (ha : ¬ (ax = 0 ∧ ay = 0 ∧ az = 0)) (hb : ¬ (bx = 0 ∧ b2 = 0 ∧ bz = 0)) (hA : Bd 1048576 ax ay az) (hB : Bd 1048576 bx b2 bz) : oppW ax ay az bx b2 bz = qopp ax ay az bx b2 bz := by
 rw [Bool.eq_iff_iff]
 unfold oppW qopp
 obtain ⟨_, b1⟩ := qred_mul hb hB (a := bx) (.inl rfl)
 obtain ⟨_, b2'⟩ := qred_mul hb hB (a := b2) (.inr (.inl rfl))
 obtain ⟨_, b3⟩ := qred_mul hb hB (a := bz) (.inr (.inr rfl))
 have hB1 := hB.1
 have hB2 := hB.2.1
 have hB3 := hB.2.2
 rw [Bool.and_eq_true, cross_zero (by decide) hA hB, decide_eq_true_eq, dot_bd hA hB, e3_iff, w64_id (n := qred bx b2 bz bx * -1) (by omega), w64_id (n := qred bx b2 bz b2 * -1) (by omega), w64_id (n := qred bx b2 bz bz * -1) (by omega)]
 have := dir_cases ha hb hA hB (-1) (.inr rfl)
 simp only [Int.neg_mul, Int.one_mul] at this
 rw [show (0 < -(ax * bx + ay * b2 + az * bz)) ↔ (ax * bx + ay * b2 + az * bz < 0) by omega] at this
 rw [← this]
 constructor <;> (rintro ⟨h1, h2, h3⟩; exact ⟨by omega, by omega, by omega⟩)
theorem le_of_mul {k a b : Int} (hk : 0 < k) (h : k * a ≤ k * b) : a ≤ b := Int.le_of_mul_le_mul_left h hk
theorem nearer {p q aa bb ab s t D Q X M : Int} (hD : D = s * p + t * q) (hQ : Q = s * s * aa + 2 * (s * t * ab) + t * t * bb) (hX : X = p * bb - q * ab) (hM : M = p * p * bb - 2 * (p * q * ab) + q * q * aa)
  (h0 : 0 < D) (hs : 0 ≤ s) (hM0 : 0 ≤ M) (hX0 : X ≤ 0) : D * D * bb ≤ q * q * Q := by
 have h : D * D * bb - q * q * Q = s * (2 * (X * D) - s * M) := by subst hD hQ hX hM; grind
 have h1 : X * D ≤ 0 := Int.mul_nonpos_of_nonpos_of_nonneg hX0 (by omega)
 have h2 : 0 ≤ s * M := Int.mul_nonneg hs hM0
 have h3 : s * (2 * (X * D) - s * M) ≤ 0 := Int.mul_nonpos_of_nonneg_of_nonpos hs (by omega)
 omega
theorem insideB {q bb D Q den N : Int} (hq : 0 < Q) (hbb : 0 ≤ bb) (hden : 0 ≤ den) (h : D * D * bb ≤ q * q * Q) (hin : N * Q ≤ D * D * den) : N * bb ≤ q * q * den := by
 have h1 : (N * Q) * bb ≤ (D * D * den) * bb := Int.mul_le_mul_of_nonneg_right hin hbb
 have h2 : (D * D * bb) * den ≤ (q * q * Q) * den := Int.mul_le_mul_of_nonneg_right h hden
 have h3 : Q * (N * bb) ≤ Q * (q * q * den) := by
  have e1 : Q * (N * bb) = (N * Q) * bb := by grind
  have e2 : Q * (q * q * den) = (q * q * Q) * den := by grind
  have e3 : (D * D * den) * bb = (D * D * bb) * den := by grind
  rw [e1, e2]
  exact Int.le_trans h1 (by rw [e3]; exact h2)
 exact le_of_mul hq h3
theorem way_key {p q aa bb ab s t den N all X Y M D Q : Int} (hD : D = s * p + t * q) (hQ : Q = s * s * aa + 2 * (s * t * ab) + t * t * bb) (hX : X = p * bb - q * ab) (hY : Y = q * aa - p * ab) (hall : all = aa * bb - ab * ab)
  (hM : M = X * p + Y * q) (haa : 0 < aa) (hbb : 0 < bb) (hall0 : 0 ≤ all) (hcol : all = 0 → Y = 0) (hM0 : 0 ≤ M) (hs : 0 ≤ s) (ht : 0 ≤ t) (hQ0 : 0 < Q) (hden : 0 < den) (hN : 0 ≤ N)
  (h0 : 0 < D) (hin : N * Q ≤ D * D * den) : (0 < p ∧ N * aa ≤ p * p * den) ∨ (0 < q ∧ N * bb ≤ q * q * den) ∨ (all ≠ 0 ∧ 0 < X ∧ 0 < Y ∧ N * all ≤ den * M) := by
 have hM' : M = p * p * bb - 2 * (p * q * ab) + q * q * aa := by subst hM hX hY; grind
 have hM'' : M = q * q * aa - 2 * (q * p * ab) + p * p * bb := by rw [hM']; grind
 have hD' : D = t * q + s * p := by omega
 have hQ' : Q = t * t * bb + 2 * (t * s * ab) + s * s * aa := by rw [hQ]; grind
 have nearB : X ≤ 0 → N * bb ≤ q * q * den := fun h => insideB hQ0 (by omega) (by omega) (nearer hD hQ hX hM' h0 hs hM0 h) hin
 have nearA : Y ≤ 0 → N * aa ≤ p * p * den := fun h => insideB hQ0 (by omega) (by omega) (nearer hD' hQ' hY hM'' h0 ht hM0 h) hin
 have r1 : X * ab + Y * bb = q * all := by subst hX hY hall; grind
 have r2 : X * aa + Y * ab = p * all := by subst hX hY hall; grind
 rcases Int.lt_or_le 0 X with hX0 | hX0
 ·rcases Int.lt_or_le 0 Y with hY0 | hY0
  ·-- between
   by_cases ia : 0 < p ∧ N * aa ≤ p * p * den
   ·exact .inl ia
   by_cases ib : 0 < q ∧ N * bb ≤ q * q * den
   ·exact .inr (.inl ib)
   refine .inr (.inr ⟨fun e => by have := hcol e; omega, hX0, hY0, ?_⟩)
   have hdisc : N * (den * M - N * all) = (den * (p * q) - N * ab) * (den * (p * q) - N * ab) - (den * (p * p) - N * aa) * (den * (q * q) - N * bb) := by rw [hM']; subst hall; grind
   have hf : 0 ≤ s * s * (den * (p * p) - N * aa) + 2 * (s * t * (den * (p * q) - N * ab)) + t * t * (den * (q * q) - N * bb) := by
    have : s * s * (den * (p * p) - N * aa) + 2 * (s * t * (den * (p * q) - N * ab)) + t * t * (den * (q * q) - N * bb) = D * D * den - N * Q := by subst hD hQ; grind
    omega
   have ea : p * p * den = den * (p * p) := Int.mul_comm _ _
   have eb : q * q * den = den * (q * q) := Int.mul_comm _ _
   rw [ea] at ia
   rw [eb] at ib
   generalize hα : den * (p * p) - N * aa = α at hdisc hf
   generalize hγ : den * (q * q) - N * bb = γ at hdisc hf
   generalize hβ : den * (p * q) - N * ab = β at hdisc hf
   have hp0 : 0 < p ∨ 0 < q := by
    rcases Int.lt_or_le 0 p with h | h
    ·exact .inl h
    ·rcases Int.lt_or_le 0 q with h' | h'
     ·exact .inr h'
     ·have h1 := Int.mul_nonpos_of_nonneg_of_nonpos hs h
      have h2 := Int.mul_nonpos_of_nonneg_of_nonpos ht h'
      omega
   rcases Int.lt_or_le 0 N with hN0 | hN0
   rotate_left
   ·have : N = 0 := by omega
    subst this
    rw [Int.zero_mul]
    exact Int.mul_nonneg (by omega) hM0
   have fin : 0 ≤ β * β - α * γ → N * all ≤ den * M := fun h => by
    rw [← hdisc] at h
    rcases Int.lt_or_le (den * M) (N * all) with h' | h'
    ·have := Int.mul_neg_of_pos_of_neg hN0 (show den * M - N * all < 0 by omega)
     omega
    ·exact h'
   have sqs := sq_nonneg s
   have sqt := sq_nonneg t
   have half : ∀ {α γ s t : Int}, α < 0 → 0 < t * t → 0 ≤ s * s * α + 2 * (s * t * β) + t * t * γ → 0 ≤ β * β - α * γ := fun {α γ s t} ha htt hf => by
    have e : (s * α + t * β) * (s * α + t * β) = α * (s * s * α + 2 * (s * t * β) + t * t * γ) + (t * t) * (β * β - α * γ) := by grind
    have h1 := sq_nonneg (s * α + t * β)
    have h2 := Int.mul_nonpos_of_nonpos_of_nonneg (Int.le_of_lt ha) hf
    rw [e] at h1
    rcases Int.lt_or_le (β * β - α * γ) 0 with h' | h'
    ·have := Int.mul_neg_of_pos_of_neg htt h'
     omega
    ·exact h'
   rcases hp0 with hp | hq
   ·have ha : α < 0 := by
     rcases Int.lt_or_le α 0 with h | h
     ·exact h
     ·exact absurd ⟨hp, by omega⟩ ia
    refine fin (half ha ?_ hf)
    by_cases h : t = 0
    ·subst h
     have hs1 : s ≠ 0 := fun e => by subst e; simp at hD; omega
     have : 0 < s * s := by
      rcases Int.lt_or_gt_of_ne hs1 with h | h
      ·omega
      ·exact Int.mul_pos h h
     have := Int.mul_neg_of_pos_of_neg this ha
     simp at hf
     omega
    ·exact Int.mul_pos (by omega) (by omega)
   ·have hc : γ < 0 := by
     rcases Int.lt_or_le γ 0 with h | h
     ·exact h
     ·exact absurd ⟨hq, by omega⟩ ib
    have hf' : 0 ≤ t * t * γ + 2 * (t * s * β) + s * s * α := by
     have : t * t * γ + 2 * (t * s * β) + s * s * α = s * s * α + 2 * (s * t * β) + t * t * γ := by grind
     omega
    have hh := half hc ?_ hf'
    ·refine fin ?_
     have : γ * α = α * γ := Int.mul_comm _ _
     omega
    by_cases h : s = 0
    ·subst h
     have ht1 : t ≠ 0 := fun e => by subst e; simp at hD; omega
     have : 0 < t * t := Int.mul_pos (by omega) (by omega)
     have := Int.mul_neg_of_pos_of_neg this hc
     simp at hf
     omega
    ·exact Int.mul_pos (by omega) (by omega)
  ·-- Y is not above 0
   rcases Int.lt_or_le 0 p with hp | hp
   ·exact .inl ⟨hp, nearA hY0⟩
   ·exfalso
    have hq : 0 < q := by
     rcases Int.lt_or_le 0 q with h' | h'
     ·exact h'
     ·have h1 := Int.mul_nonpos_of_nonneg_of_nonpos hs hp
      have h2 := Int.mul_nonpos_of_nonneg_of_nonpos ht h'
      omega
    -- X aa + Y ab = p all, not above 0: so Y ab < 0, ab > 0: so Y > 0
    have h1 : p * all ≤ 0 := Int.mul_nonpos_of_nonpos_of_nonneg hp hall0
    have h2 := Int.mul_pos hX0 haa
    have h3 : Y * ab < 0 := by omega
    have h4 : 0 < ab := by
     rcases Int.lt_or_le 0 ab with h | h
     ·exact h
     ·have := Int.mul_nonneg_of_nonpos_of_nonpos hY0 h; omega
    have h5 := Int.mul_pos hq haa
    have h6 := Int.mul_nonpos_of_nonpos_of_nonneg hp (Int.le_of_lt h4)
    omega
 ·rcases Int.lt_or_le 0 q with hq | hq
  ·exact .inr (.inl ⟨hq, nearB hX0⟩)
  ·have hp : 0 < p := by
    rcases Int.lt_or_le 0 p with h' | h'
    ·exact h'
    ·have h1 := Int.mul_nonpos_of_nonneg_of_nonpos hs h'
     have h2 := Int.mul_nonpos_of_nonneg_of_nonpos ht hq
     omega
   refine .inl ⟨hp, nearA ?_⟩
   rcases Int.lt_or_le 0 Y with hY0 | hY0
   ·exfalso
    have h1 : q * all ≤ 0 := Int.mul_nonpos_of_nonpos_of_nonneg hq hall0
    have h2 := Int.mul_pos hY0 hbb
    have h3 : X * ab < 0 := by omega
    have h4 : 0 < ab := by
     rcases Int.lt_or_le 0 ab with h | h
     ·exact h
     ·have := Int.mul_nonneg_of_nonpos_of_nonpos hX0 h; omega
    have h5 := Int.mul_pos hp hbb
    have h6 := Int.mul_nonpos_of_nonpos_of_nonneg hq (Int.le_of_lt h4)
    omega
   ·exact hY0
theorem ins_iff {x y z num den a b c : Int} (hc : Bd 4096 x y z) (hv : Bd 4096 a b c) (hn : 0 ≤ num ∧ num ≤ 100) (hd : 0 ≤ den ∧ den ≤ 100) :
  insW x y z num den a b c = true ↔ 0 < x * a + y * b + z * c ∧ num * (x * x + y * y + z * z) * (a * a + b * b + c * c) ≤ (x * a + y * b + z * c) * (x * a + y * b + z * c) * den := by
 obtain ⟨d1, n1⟩ := dot_eq hc hv (by decide)
 obtain ⟨d2, n2⟩ := dot_eq hc hc (by decide)
 obtain ⟨d3, n3⟩ := dot_eq hv hv (by decide)
 unfold insW
 rw [d1, d2, d3]
 generalize x * a + y * b + z * c = p at n1 ⊢
 generalize x * x + y * y + z * z = q at n2 ⊢
 generalize a * a + b * b + c * c = r at n3 ⊢
 have b1 := mul_bd (a := num) (s := 100) (by omega) n2
 have b2 := mul_bd b1 n3
 have b3 := mul_bd n1 n1
 have b4 := mul_bd (b := den) (t := 100) b3 (by omega)
 rw [w64_id (n := num * q) (by omega), w64_id (n := num * q * r) (by omega), w64_id (n := p * p) (by omega), w64_id (n := p * p * den) (by omega), Bool.and_eq_true, decide_eq_true_eq, decide_eq_true_eq]
theorem btw_iff {x y z num den ax ay az bx b2 bz : Int} (hc : Bd 256 x y z) (ha : Bd 256 ax ay az) (hb : Bd 256 bx b2 bz) (hn : 0 ≤ num ∧ num ≤ 100) (hd : 0 ≤ den ∧ den ≤ 100)
  {p q aa bb ab cc : Int} (hp : p = x * ax + y * ay + z * az) (hq : q = x * bx + y * b2 + z * bz) (haa : aa = ax * ax + ay * ay + az * az) (hbb : bb = bx * bx + b2 * b2 + bz * bz) (hab : ab = ax * bx + ay * b2 + az * bz) (hcc : cc = x * x + y * y + z * z) :
  btwW x y z num den ax ay az bx b2 bz = true ↔ aa * bb - ab * ab ≠ 0 ∧ 0 < p * bb - q * ab ∧ 0 < q * aa - p * ab ∧ num * cc * (aa * bb - ab * ab) ≤ den * ((p * bb - q * ab) * p + (q * aa - p * ab) * q) := by
 obtain ⟨d1, n1⟩ := dot_eq hc ha (by decide)
 obtain ⟨d2, n2⟩ := dot_eq hc hb (by decide)
 obtain ⟨d3, n3⟩ := dot_eq ha ha (by decide)
 obtain ⟨d4, n4⟩ := dot_eq hb hb (by decide)
 obtain ⟨d5, n5⟩ := dot_eq ha hb (by decide)
 obtain ⟨d6, n6⟩ := dot_eq hc hc (by decide)
 unfold btwW btwS btwX btwY btwA
 rw [d1, d2, d3, d4, d5, d6, ← hp, ← hq, ← haa, ← hbb, ← hab, ← hcc]
 rw [← hp] at n1
 rw [← hq] at n2
 rw [← haa] at n3
 rw [← hbb] at n4
 rw [← hab] at n5
 rw [← hcc] at n6
 obtain ⟨e1, f1⟩ := diff_eq n3 n4 n5 n5 (by decide)
 obtain ⟨e2, f2⟩ := diff_eq n1 n4 n2 n5 (by decide)
 obtain ⟨e3, f3⟩ := diff_eq n2 n3 n1 n5 (by decide)
 rw [e1, e2, e3]
 generalize aa * bb - ab * ab = all at f1 ⊢
 generalize p * bb - q * ab = X at f2 ⊢
 generalize q * aa - p * ab = Y at f3 ⊢
 have g1 := mul_bd f2 n1
 have g2 := mul_bd f3 n2
 have g3 := mul_bd (a := num) (s := 100) (by omega) f1
 have g4 := mul_bd g3 n6
 have g5 : (X * p + Y * q).natAbs ≤ 2 * (2 * (3 * (256 * 256) * (3 * (256 * 256))) * (3 * (256 * 256))) := by omega
 have g6 := mul_bd (a := den) (s := 100) (by omega) g5
 rw [w64_id (n := X * p) (by omega), w64_id (n := Y * q) (by omega), w64_id (n := num * all) (by omega), w64_id (n := num * all * cc) (by omega), w64_id (n := X * p + Y * q) (by omega), w64_id (n := den * (X * p + Y * q)) (by omega)]
 have e : num * all * cc = num * cc * all := by grind
 rw [e]
 simp only [Bool.and_eq_true, Bool.not_eq_true', beq_eq_false_iff_ne, decide_eq_false_iff_not, decide_eq_true_eq, ne_eq]
 omega
def InsP (x y z num den a b c : Int) : Prop := 0 < x * a + y * b + z * c ∧ num * (x * x + y * y + z * z) * (a * a + b * b + c * c) ≤ (x * a + y * b + z * c) * (x * a + y * b + z * c) * den
def allP (ax ay az bx b2 bz : Int) : Int := (ax * ax + ay * ay + az * az) * (bx * bx + b2 * b2 + bz * bz) - (ax * bx + ay * b2 + az * bz) * (ax * bx + ay * b2 + az * bz)
def prX (x y z ax ay az bx b2 bz : Int) : Int := (x * ax + y * ay + z * az) * (bx * bx + b2 * b2 + bz * bz) - (x * bx + y * b2 + z * bz) * (ax * bx + ay * b2 + az * bz)
def prY (x y z ax ay az bx b2 bz : Int) : Int := (x * bx + y * b2 + z * bz) * (ax * ax + ay * ay + az * az) - (x * ax + y * ay + z * az) * (ax * bx + ay * b2 + az * bz)
def BtwP (x y z num den ax ay az bx b2 bz : Int) : Prop := allP ax ay az bx b2 bz ≠ 0 ∧ 0 < prX x y z ax ay az bx b2 bz ∧ 0 < prY x y z ax ay az bx b2 bz ∧
 num * (x * x + y * y + z * z) * allP ax ay az bx b2 bz ≤ den * (prX x y z ax ay az bx b2 bz * (x * ax + y * ay + z * az) + prY x y z ax ay az bx b2 bz * (x * bx + y * b2 + z * bz))
def MeetP (x y z num den ax ay az bx b2 bz : Int) : Prop := InsP x y z num den ax ay az ∨ InsP x y z num den bx b2 bz ∨ BtwP x y z num den ax ay az bx b2 bz
theorem all_sq (ax ay az bx b2 bz : Int) : allP ax ay az bx b2 bz = (ay * bz - az * b2) * (ay * bz - az * b2) + (az * bx - ax * bz) * (az * bx - ax * bz) + (ax * b2 - ay * bx) * (ax * b2 - ay * bx) := by unfold allP; grind
theorem way_ins {x y z num den ax ay az bx b2 bz s t : Int} (ha : ¬ (ax = 0 ∧ ay = 0 ∧ az = 0)) (hb : ¬ (bx = 0 ∧ b2 = 0 ∧ bz = 0)) (hs : 0 ≤ s) (ht : 0 ≤ t) (hn : 0 ≤ num) (hd : 0 < den)
  (h : InsP x y z num den (s * ax + t * bx) (s * ay + t * b2) (s * az + t * bz)) : MeetP x y z num den ax ay az bx b2 bz := by
 obtain ⟨h0, hin⟩ := h
 have na := nsq_pos ha
 have nb := nsq_pos hb
 have hcc : 0 ≤ x * x + y * y + z * z := by
  have h1 := sq_nonneg x
  have h2 := sq_nonneg y
  have h3 := sq_nonneg z
  omega
 have hall := all_sq ax ay az bx b2 bz
 have q1 := sq_nonneg (ay * bz - az * b2)
 have q2 := sq_nonneg (az * bx - ax * bz)
 have q3 := sq_nonneg (ax * b2 - ay * bx)
 have zero : ∀ {u : Int}, u * u = 0 → u = 0 := fun {u} hu => by
  rcases Int.mul_eq_zero.1 hu with h | h <;> exact h
 have hcol : allP ax ay az bx b2 bz = 0 → prY x y z ax ay az bx b2 bz = 0 := fun e => by
  have c1 : ay * bz - az * b2 = 0 := zero (by omega)
  have c2 : az * bx - ax * bz = 0 := zero (by omega)
  have c3 : ax * b2 - ay * bx = 0 := zero (by omega)
  have : prY x y z ax ay az bx b2 bz = x * (az * (az * bx - ax * bz) - ay * (ax * b2 - ay * bx)) + y * (ax * (ax * b2 - ay * bx) - az * (ay * bz - az * b2)) + z * (ay * (ay * bz - az * b2) - ax * (az * bx - ax * bz)) := by unfold prY; grind
  rw [this, c1, c2, c3]; grind
 have hM0 : 0 ≤ prX x y z ax ay az bx b2 bz * (x * ax + y * ay + z * az) + prY x y z ax ay az bx b2 bz * (x * bx + y * b2 + z * bz) := by
  have hM : ∀ p q : Int, ((p * (bx * bx + b2 * b2 + bz * bz) - q * (ax * bx + ay * b2 + az * bz)) * p + (q * (ax * ax + ay * ay + az * az) - p * (ax * bx + ay * b2 + az * bz)) * q) = (p * bx - q * ax) * (p * bx - q * ax) + (p * b2 - q * ay) * (p * b2 - q * ay) + (p * bz - q * az) * (p * bz - q * az) := fun p q => by grind
  unfold prX prY
  rw [hM]
  have h1 := sq_nonneg ((x * ax + y * ay + z * az) * bx - (x * bx + y * b2 + z * bz) * ax)
  have h2 := sq_nonneg ((x * ax + y * ay + z * az) * b2 - (x * bx + y * b2 + z * bz) * ay)
  have h3 := sq_nonneg ((x * ax + y * ay + z * az) * bz - (x * bx + y * b2 + z * bz) * az)
  omega
 have hQ0 : 0 < (s * ax + t * bx) * (s * ax + t * bx) + (s * ay + t * b2) * (s * ay + t * b2) + (s * az + t * bz) * (s * az + t * bz) := nsq_pos fun e => by
  rw [e.1, e.2.1, e.2.2] at h0
  simp at h0
 exact way_key (p := x * ax + y * ay + z * az) (q := x * bx + y * b2 + z * bz) (aa := ax * ax + ay * ay + az * az) (bb := bx * bx + b2 * b2 + bz * bz) (ab := ax * bx + ay * b2 + az * bz) (s := s) (t := t) (den := den) (N := num * (x * x + y * y + z * z))
  (all := allP ax ay az bx b2 bz) (X := prX x y z ax ay az bx b2 bz) (Y := prY x y z ax ay az bx b2 bz) (M := _) (D := x * (s * ax + t * bx) + y * (s * ay + t * b2) + z * (s * az + t * bz)) (Q := _)
  (by grind) (by grind) rfl rfl rfl rfl na nb (by omega) hcol hM0 hs ht hQ0 hd (Int.mul_nonneg hn hcc) h0 hin
theorem InsP.scale {x y z num den a b c g : Int} (hg : 0 < g) (h : InsP x y z num den a b c) : InsP x y z num den (g * a) (g * b) (g * c) := by
 obtain ⟨h0, h1⟩ := h
 have e1 : x * (g * a) + y * (g * b) + z * (g * c) = g * (x * a + y * b + z * c) := by grind
 have e2 : (g * a) * (g * a) + (g * b) * (g * b) + (g * c) * (g * c) = (g * g) * (a * a + b * b + c * c) := by grind
 refine ⟨by rw [e1]; exact Int.mul_pos hg h0, ?_⟩
 rw [e1, e2]
 have e3 : num * (x * x + y * y + z * z) * ((g * g) * (a * a + b * b + c * c)) = (g * g) * (num * (x * x + y * y + z * z) * (a * a + b * b + c * c)) := by grind
 have e4 : g * (x * a + y * b + z * c) * (g * (x * a + y * b + z * c)) * den = (g * g) * ((x * a + y * b + z * c) * (x * a + y * b + z * c) * den) := by grind
 rw [e3, e4]
 exact Int.mul_le_mul_of_nonneg_left h1 (sq_nonneg g)
theorem qred_of {x y z p q r : Int} (hb : Bd 1048576 x y z) (h : Red x y z p q r) : qred x y z x = p ∧ qred x y z y = q ∧ qred x y z z = r := by
 have hpq := h.bd hb
 have hn := h.ne
 have hne : ¬ (x = 0 ∧ y = 0 ∧ z = 0) := by
  rintro ⟨rfl, rfl, rfl⟩
  obtain ⟨g, hg, e1, e2, e3, _⟩ := h
  have key : ∀ a : Int, 0 = g * a → a = 0 := fun a ha => by
   rcases Int.mul_eq_zero.1 ha.symm with h | h
   ·omega
   ·exact h
  exact hn ⟨key _ e1, key _ e2, key _ e3⟩
 have hq := qd_eq hne
 obtain ⟨g, hg, rfl, rfl, rfl, h1⟩ := h
 rw [gcdN_mul, h1, Nat.mul_one] at hq
 have e : qd (g * p) (g * q) (g * r) = g := by rw [hq]; omega
 unfold qred
 rw [e, Int.mul_tdiv_cancel_left _ (by omega), Int.mul_tdiv_cancel_left _ (by omega), Int.mul_tdiv_cancel_left _ (by omega)]
 obtain ⟨b1, b2, b3⟩ := hpq
 exact ⟨w64_id (by omega), w64_id (by omega), w64_id (by omega)⟩
theorem opp_red {ax ay az bx b2 bz p q r u v w : Int} (ha : Ray ax ay az) (hb : Ray bx b2 bz) (h : Red ax ay az p q r) (h' : Red bx b2 bz u v w) : oppW ax ay az bx b2 bz = true ↔ (u = -p ∧ v = -q ∧ w = -r) := by
 have hA := ha.1.mono (show 4096 ≤ 1048576 by decide)
 have hB := hb.1.mono (show 4096 ≤ 1048576 by decide)
 rw [opp_eq ha.2 hb.2 hA hB]
 obtain ⟨a1, a2, a3⟩ := qred_of hA h
 obtain ⟨b1, b2', b3⟩ := qred_of hB h'
 obtain ⟨u1, u2, u3⟩ := h'.bd hB
 unfold qopp
 rw [a1, a2, a3, b1, b2', b3, e3_iff, w64_id (n := u * -1) (by omega), w64_id (n := v * -1) (by omega), w64_id (n := w * -1) (by omega)]
 omega
section
variable (x y z num den ax ay az bx b2 bz : Int)
def coMeets : Bool := !(meetErr x y z num den ax ay az bx b2 bz != 0) && (!(turnErr x y z ax ay az bx b2 bz != 0) && (insW x y z num den ax ay az || (insW x y z num den bx b2 bz || btwW x y z num den ax ay az bx b2 bz)))
def coErr : Int := match meetErr x y z num den ax ay az bx b2 bz != 0 with | true => meetErr x y z num den ax ay az bx b2 bz | false => turnErr x y z ax ay az bx b2 bz
end
structure ConeOk (x y z num den : Int) : Prop where
 ray : Ray x y z
 bd : Bd 256 x y z
 num0 : 0 ≤ num
 num1 : num ≤ den
 den0 : 1 ≤ den
 den1 : den ≤ 100
theorem ConeOk.err {x y z num den : Int} (h : ConeOk x y z num den) : coneErr x y z num den = 0 := by
 unfold coneErr
 rw [firstZ_zero]
 simp only [List.mem_cons, List.not_mem_nil, or_false, forall_eq_or_imp, forall_eq, ray_zero, wW_zero]
 exact ⟨h.ray, ⟨h.den0, h.den1⟩, h.num0, h.num1⟩
theorem meet_iff {x y z num den ax ay az bx b2 bz : Int} (hc : ConeOk x y z num den) (ha : Ray ax ay az) (hb : Ray bx b2 bz) (hA : Bd 256 ax ay az) (hB : Bd 256 bx b2 bz) (ho : oppW ax ay az bx b2 bz = false) :
  coErr x y z num den ax ay az bx b2 bz = 0 ∧ (coMeets x y z num den ax ay az bx b2 bz = true ↔ MeetP x y z num den ax ay az bx b2 bz) := by
 have hm : meetErr x y z num den ax ay az bx b2 bz = 0 := by
  unfold meetErr
  rw [firstZ_zero]
  simp only [List.mem_cons, List.not_mem_nil, or_false, forall_eq_or_imp, forall_eq, ray_zero]
  exact ⟨hc.err, ha, hb⟩
 have far : ∀ {a b c : Int}, Bd 256 a b c → decide (256 < farW a b c) = false := fun {a b c} h => by
  rw [decide_eq_false_iff_not, far_lt (h.mono (by decide)) (by decide), Decidable.not_not]
  obtain ⟨h1, h2, h3⟩ := h
  omega
 have ht : turnErr x y z ax ay az bx b2 bz = 0 := by
  unfold turnErr
  rw [far hc.bd, far hA, far hB, ho]; rfl
 have hden := hc.den0
 have hden1 := hc.den1
 have hnum := hc.num0
 have hnum1 := hc.num1
 refine ⟨by unfold coErr; rw [hm, ht]; rfl, ?_⟩
 unfold coMeets MeetP
 rw [hm, ht]
 have i1 := ins_iff (num := num) (den := den) (hc.bd.mono (show 256 ≤ 4096 by decide)) (hA.mono (show 256 ≤ 4096 by decide)) ⟨hnum, by omega⟩ ⟨by omega, hden1⟩
 have i2 := ins_iff (num := num) (den := den) (hc.bd.mono (show 256 ≤ 4096 by decide)) (hB.mono (show 256 ≤ 4096 by decide)) ⟨hnum, by omega⟩ ⟨by omega, hden1⟩
 have i3 := btw_iff (num := num) (den := den) hc.bd hA hB ⟨hnum, by omega⟩ ⟨by omega, hden1⟩ rfl rfl rfl rfl rfl rfl
 show (true && (true && (insW x y z num den ax ay az || (insW x y z num den bx b2 bz || btwW x y z num den ax ay az bx b2 bz)))) = true ↔ _
 rw [Bool.true_and, Bool.true_and, Bool.or_eq_true, Bool.or_eq_true, i1, i2, i3]
 exact Iff.rfl
theorem norm_nonneg (x y z : Int) : 0 ≤ x * x + y * y + z * z := by
 have h1 := sq_nonneg x
 have h2 := sq_nonneg y
 have h3 := sq_nonneg z
 omega
theorem sum_ne {ax ay az bx b2 bz s t : Int} (ha : Ray ax ay az) (hb : Ray bx b2 bz) (ho : oppW ax ay az bx b2 bz = false) (hs : 0 ≤ s) (ht : 0 ≤ t) (hst : s + t ≠ 0) : ¬ (s * ax + t * bx = 0 ∧ s * ay + t * b2 = 0 ∧ s * az + t * bz = 0) := by
 rintro ⟨h1, h2, h3⟩
 have zero : ∀ {k a : Int}, 0 < k → k * a = 0 → a = 0 := fun {k a} hk h => by
  rcases Int.mul_eq_zero.1 h with h | h
  ·omega
  ·exact h
 by_cases s0 : s = 0
 ·subst s0
  have ht' : 0 < t := by omega
  rw [Int.zero_mul, Int.zero_add] at h1 h2 h3
  exact hb.2 ⟨zero ht' h1, zero ht' h2, zero ht' h3⟩
 by_cases t0 : t = 0
 ·subst t0
  have hs' : 0 < s := by omega
  rw [Int.zero_mul, Int.add_zero] at h1 h2 h3
  exact ha.2 ⟨zero hs' h1, zero hs' h2, zero hs' h3⟩
 obtain ⟨p, q, r, hR⟩ := red_ex ha.2
 obtain ⟨u, v, w, hR'⟩ := red_ex hb.2
 have := hR.unique hR'.neg (l := s) (m := t) (by omega) (by omega) (by rw [Int.mul_neg]; omega) (by rw [Int.mul_neg]; omega) (by rw [Int.mul_neg]; omega)
 have h := (opp_red ha hb hR hR').2 ⟨by omega, by omega, by omega⟩
 rw [h] at ho
 cases ho
end Go.Ev
