/- Cones and ways over plain integers: what 'inside' and 'between' say. Conditions: parts in the ranges that the checks ask. -/
import Derived.Test.YtfdfpfojiilcgaaGreatDoorKey
import Derived.Test.YtfdfpfojiilcgaaGreatDoorLaw2
namespace Go.Ev
open Go

theorem ins_iff {x y z num den a b c : Int} (hc : Bd 4096 x y z) (hv : Bd 4096 a b c) (hn : 0 ≤ num ∧ num ≤ 100) (hd : 0 ≤ den ∧ den ≤ 100) :
    insW x y z num den a b c = true ↔ 0 < x * a + y * b + z * c ∧ num * (x * x + y * y + z * z) * (a * a + b * b + c * c) ≤ (x * a + y * b + z * c) * (x * a + y * b + z * c) * den := by
  obtain ⟨d1, n1⟩ := dot_eq hc hv (by decide)
  obtain ⟨d2, n2⟩ := dot_eq hc hc (by decide)
  obtain ⟨d3, n3⟩ := dot_eq hv hv (by decide)
  unfold insW
  rw [d1, d2, d3]
  generalize x * a + y * b + z * c = p at n1 ⊢
  generalize x * x + y * y + z * z = q at n2 ⊢
  generalize a * a + b * b + c * c = r at n3 ⊢
  have b1 := mul_bd (a := num) (s := 100) (by omega) n2
  have b2 := mul_bd b1 n3
  have b3 := mul_bd n1 n1
  have b4 := mul_bd (b := den) (t := 100) b3 (by omega)
  rw [w64_id (n := num * q) (by omega), w64_id (n := num * q * r) (by omega), w64_id (n := p * p) (by omega), w64_id (n := p * p * den) (by omega), Bool.and_eq_true, decide_eq_true_eq, decide_eq_true_eq]

theorem btw_iff {x y z num den ax ay az bx b2 bz : Int} (hc : Bd 256 x y z) (ha : Bd 256 ax ay az) (hb : Bd 256 bx b2 bz) (hn : 0 ≤ num ∧ num ≤ 100) (hd : 0 ≤ den ∧ den ≤ 100)
    {p q aa bb ab cc : Int} (hp : p = x * ax + y * ay + z * az) (hq : q = x * bx + y * b2 + z * bz) (haa : aa = ax * ax + ay * ay + az * az) (hbb : bb = bx * bx + b2 * b2 + bz * bz) (hab : ab = ax * bx + ay * b2 + az * bz) (hcc : cc = x * x + y * y + z * z) :
    btwW x y z num den ax ay az bx b2 bz = true ↔ aa * bb - ab * ab ≠ 0 ∧ 0 < p * bb - q * ab ∧ 0 < q * aa - p * ab ∧ num * cc * (aa * bb - ab * ab) ≤ den * ((p * bb - q * ab) * p + (q * aa - p * ab) * q) := by
  obtain ⟨d1, n1⟩ := dot_eq hc ha (by decide)
  obtain ⟨d2, n2⟩ := dot_eq hc hb (by decide)
  obtain ⟨d3, n3⟩ := dot_eq ha ha (by decide)
  obtain ⟨d4, n4⟩ := dot_eq hb hb (by decide)
  obtain ⟨d5, n5⟩ := dot_eq ha hb (by decide)
  obtain ⟨d6, n6⟩ := dot_eq hc hc (by decide)
  unfold btwW btwS btwX btwY btwA
  rw [d1, d2, d3, d4, d5, d6, ← hp, ← hq, ← haa, ← hbb, ← hab, ← hcc]
  rw [← hp] at n1
  rw [← hq] at n2
  rw [← haa] at n3
  rw [← hbb] at n4
  rw [← hab] at n5
  rw [← hcc] at n6
  obtain ⟨e1, f1⟩ := diff_eq n3 n4 n5 n5 (by decide)
  obtain ⟨e2, f2⟩ := diff_eq n1 n4 n2 n5 (by decide)
  obtain ⟨e3, f3⟩ := diff_eq n2 n3 n1 n5 (by decide)
  rw [e1, e2, e3]
  generalize aa * bb - ab * ab = all at f1 ⊢
  generalize p * bb - q * ab = X at f2 ⊢
  generalize q * aa - p * ab = Y at f3 ⊢
  have g1 := mul_bd f2 n1
  have g2 := mul_bd f3 n2
  have g3 := mul_bd (a := num) (s := 100) (by omega) f1
  have g4 := mul_bd g3 n6
  have g5 : (X * p + Y * q).natAbs ≤ 2 * (2 * (3 * (256 * 256) * (3 * (256 * 256))) * (3 * (256 * 256))) := by omega
  have g6 := mul_bd (a := den) (s := 100) (by omega) g5
  rw [w64_id (n := X * p) (by omega), w64_id (n := Y * q) (by omega), w64_id (n := num * all) (by omega), w64_id (n := num * all * cc) (by omega), w64_id (n := X * p + Y * q) (by omega), w64_id (n := den * (X * p + Y * q)) (by omega)]
  have e : num * all * cc = num * cc * all := by grind
  rw [e]
  simp only [Bool.and_eq_true, Bool.not_eq_true', beq_eq_false_iff_ne, decide_eq_false_iff_not, decide_eq_true_eq, ne_eq]
  omega
/-- a ray lies inside of a cone; the way between two rays meets it -/
def InsP (x y z num den a b c : Int) : Prop := 0 < x * a + y * b + z * c ∧ num * (x * x + y * y + z * z) * (a * a + b * b + c * c) ≤ (x * a + y * b + z * c) * (x * a + y * b + z * c) * den
def allP (ax ay az bx b2 bz : Int) : Int := (ax * ax + ay * ay + az * az) * (bx * bx + b2 * b2 + bz * bz) - (ax * bx + ay * b2 + az * bz) * (ax * bx + ay * b2 + az * bz)
def prX (x y z ax ay az bx b2 bz : Int) : Int := (x * ax + y * ay + z * az) * (bx * bx + b2 * b2 + bz * bz) - (x * bx + y * b2 + z * bz) * (ax * bx + ay * b2 + az * bz)
def prY (x y z ax ay az bx b2 bz : Int) : Int := (x * bx + y * b2 + z * bz) * (ax * ax + ay * ay + az * az) - (x * ax + y * ay + z * az) * (ax * bx + ay * b2 + az * bz)
def BtwP (x y z num den ax ay az bx b2 bz : Int) : Prop := allP ax ay az bx b2 bz ≠ 0 ∧ 0 < prX x y z ax ay az bx b2 bz ∧ 0 < prY x y z ax ay az bx b2 bz ∧
  num * (x * x + y * y + z * z) * allP ax ay az bx b2 bz ≤ den * (prX x y z ax ay az bx b2 bz * (x * ax + y * ay + z * az) + prY x y z ax ay az bx b2 bz * (x * bx + y * b2 + z * bz))
def MeetP (x y z num den ax ay az bx b2 bz : Int) : Prop := InsP x y z num den ax ay az ∨ InsP x y z num den bx b2 bz ∨ BtwP x y z num den ax ay az bx b2 bz
theorem all_sq (ax ay az bx b2 bz : Int) : allP ax ay az bx b2 bz = (ay * bz - az * b2) * (ay * bz - az * b2) + (az * bx - ax * bz) * (az * bx - ax * bz) + (ax * b2 - ay * bx) * (ax * b2 - ay * bx) := by unfold allP; grind
theorem way_ins {x y z num den ax ay az bx b2 bz s t : Int} (ha : ¬ (ax = 0 ∧ ay = 0 ∧ az = 0)) (hb : ¬ (bx = 0 ∧ b2 = 0 ∧ bz = 0)) (hs : 0 ≤ s) (ht : 0 ≤ t) (hn : 0 ≤ num) (hd : 0 < den)
    (h : InsP x y z num den (s * ax + t * bx) (s * ay + t * b2) (s * az + t * bz)) : MeetP x y z num den ax ay az bx b2 bz := by
  obtain ⟨h0, hin⟩ := h
  have na := nsq_pos ha
  have nb := nsq_pos hb
  have hcc : 0 ≤ x * x + y * y + z * z := by
    have h1 := sq_nonneg x
    have h2 := sq_nonneg y
    have h3 := sq_nonneg z
    omega
  have hall := all_sq ax ay az bx b2 bz
  have q1 := sq_nonneg (ay * bz - az * b2)
  have q2 := sq_nonneg (az * bx - ax * bz)
  have q3 := sq_nonneg (ax * b2 - ay * bx)
  have zero : ∀ {u : Int}, u * u = 0 → u = 0 := fun {u} hu => by
    rcases Int.mul_eq_zero.1 hu with h | h <;> exact h
  have hcol : allP ax ay az bx b2 bz = 0 → prY x y z ax ay az bx b2 bz = 0 := fun e => by
    have c1 : ay * bz - az * b2 = 0 := zero (by omega)
    have c2 : az * bx - ax * bz = 0 := zero (by omega)
    have c3 : ax * b2 - ay * bx = 0 := zero (by omega)
    have : prY x y z ax ay az bx b2 bz = x * (az * (az * bx - ax * bz) - ay * (ax * b2 - ay * bx)) + y * (ax * (ax * b2 - ay * bx) - az * (ay * bz - az * b2)) + z * (ay * (ay * bz - az * b2) - ax * (az * bx - ax * bz)) := by unfold prY; grind
    rw [this, c1, c2, c3]; grind
  have hM0 : 0 ≤ prX x y z ax ay az bx b2 bz * (x * ax + y * ay + z * az) + prY x y z ax ay az bx b2 bz * (x * bx + y * b2 + z * bz) := by
    have hM : ∀ p q : Int, ((p * (bx * bx + b2 * b2 + bz * bz) - q * (ax * bx + ay * b2 + az * bz)) * p + (q * (ax * ax + ay * ay + az * az) - p * (ax * bx + ay * b2 + az * bz)) * q) = (p * bx - q * ax) * (p * bx - q * ax) + (p * b2 - q * ay) * (p * b2 - q * ay) + (p * bz - q * az) * (p * bz - q * az) := fun p q => by grind
    unfold prX prY
    rw [hM]
    have h1 := sq_nonneg ((x * ax + y * ay + z * az) * bx - (x * bx + y * b2 + z * bz) * ax)
    have h2 := sq_nonneg ((x * ax + y * ay + z * az) * b2 - (x * bx + y * b2 + z * bz) * ay)
    have h3 := sq_nonneg ((x * ax + y * ay + z * az) * bz - (x * bx + y * b2 + z * bz) * az)
    omega
  have hQ0 : 0 < (s * ax + t * bx) * (s * ax + t * bx) + (s * ay + t * b2) * (s * ay + t * b2) + (s * az + t * bz) * (s * az + t * bz) := nsq_pos fun e => by
    rw [e.1, e.2.1, e.2.2] at h0
    simp at h0
  exact way_key (p := x * ax + y * ay + z * az) (q := x * bx + y * b2 + z * bz) (aa := ax * ax + ay * ay + az * az) (bb := bx * bx + b2 * b2 + bz * bz) (ab := ax * bx + ay * b2 + az * bz) (s := s) (t := t) (den := den) (N := num * (x * x + y * y + z * z))
    (all := allP ax ay az bx b2 bz) (X := prX x y z ax ay az bx b2 bz) (Y := prY x y z ax ay az bx b2 bz) (M := _) (D := x * (s * ax + t * bx) + y * (s * ay + t * b2) + z * (s * az + t * bz)) (Q := _)
    (by grind) (by grind) rfl rfl rfl rfl na nb (by omega) hcol hM0 hs ht hQ0 hd (Int.mul_nonneg hn hcc) h0 hin
theorem InsP.scale {x y z num den a b c g : Int} (hg : 0 < g) (h : InsP x y z num den a b c) : InsP x y z num den (g * a) (g * b) (g * c) := by
  obtain ⟨h0, h1⟩ := h
  have e1 : x * (g * a) + y * (g * b) + z * (g * c) = g * (x * a + y * b + z * c) := by grind
  have e2 : (g * a) * (g * a) + (g * b) * (g * b) + (g * c) * (g * c) = (g * g) * (a * a + b * b + c * c) := by grind
  refine ⟨by rw [e1]; exact Int.mul_pos hg h0, ?_⟩
  rw [e1, e2]
  have e3 : num * (x * x + y * y + z * z) * ((g * g) * (a * a + b * b + c * c)) = (g * g) * (num * (x * x + y * y + z * z) * (a * a + b * b + c * c)) := by grind
  have e4 : g * (x * a + y * b + z * c) * (g * (x * a + y * b + z * c)) * den = (g * g) * ((x * a + y * b + z * c) * (x * a + y * b + z * c) * den) := by grind
  rw [e3, e4]
  exact Int.mul_le_mul_of_nonneg_left h1 (sq_nonneg g)
/-- where the projection lies between two rays, and inside: it is a ray inside -/
theorem btw_ins {x y z num den ax ay az bx b2 bz : Int} (h : BtwP x y z num den ax ay az bx b2 bz) :
    InsP x y z num den (prX x y z ax ay az bx b2 bz * ax + prY x y z ax ay az bx b2 bz * bx) (prX x y z ax ay az bx b2 bz * ay + prY x y z ax ay az bx b2 bz * b2) (prX x y z ax ay az bx b2 bz * az + prY x y z ax ay az bx b2 bz * bz) := by
  obtain ⟨h1, h2, h3, h4⟩ := h
  have hsq := all_sq ax ay az bx b2 bz
  have q1 := sq_nonneg (ay * bz - az * b2)
  have q2 := sq_nonneg (az * bx - ax * bz)
  have q3 := sq_nonneg (ax * b2 - ay * bx)
  have hall : 0 < allP ax ay az bx b2 bz := by omega
  have r1 : prX x y z ax ay az bx b2 bz * (ax * ax + ay * ay + az * az) + prY x y z ax ay az bx b2 bz * (ax * bx + ay * b2 + az * bz) = (x * ax + y * ay + z * az) * allP ax ay az bx b2 bz := by unfold prX prY allP; grind
  have r2 : prX x y z ax ay az bx b2 bz * (ax * bx + ay * b2 + az * bz) + prY x y z ax ay az bx b2 bz * (bx * bx + b2 * b2 + bz * bz) = (x * bx + y * b2 + z * bz) * allP ax ay az bx b2 bz := by unfold prX prY allP; grind
  have hXdef : prX x y z ax ay az bx b2 bz = (x * ax + y * ay + z * az) * (bx * bx + b2 * b2 + bz * bz) - (x * bx + y * b2 + z * bz) * (ax * bx + ay * b2 + az * bz) := rfl
  generalize prX x y z ax ay az bx b2 bz = X at *
  generalize prY x y z ax ay az bx b2 bz = Y at *
  generalize allP ax ay az bx b2 bz = all at *
  have eD : x * (X * ax + Y * bx) + y * (X * ay + Y * b2) + z * (X * az + Y * bz) = X * (x * ax + y * ay + z * az) + Y * (x * bx + y * b2 + z * bz) := by grind
  have eQ : (X * ax + Y * bx) * (X * ax + Y * bx) + (X * ay + Y * b2) * (X * ay + Y * b2) + (X * az + Y * bz) * (X * az + Y * bz) = all * (X * (x * ax + y * ay + z * az) + Y * (x * bx + y * b2 + z * bz)) := by
    have e : (X * ax + Y * bx) * (X * ax + Y * bx) + (X * ay + Y * b2) * (X * ay + Y * b2) + (X * az + Y * bz) * (X * az + Y * bz) = X * (X * (ax * ax + ay * ay + az * az) + Y * (ax * bx + ay * b2 + az * bz)) + Y * (X * (ax * bx + ay * b2 + az * bz) + Y * (bx * bx + b2 * b2 + bz * bz)) := by grind
    rw [e, r1, r2]; grind
  have hM : 0 < X * (x * ax + y * ay + z * az) + Y * (x * bx + y * b2 + z * bz) := by
    by_cases hP : X * ax + Y * bx = 0 ∧ X * ay + Y * b2 = 0 ∧ X * az + Y * bz = 0
    · exfalso
      have p0 : (x * ax + y * ay + z * az) * all = 0 := by
        rw [← r1]
        have : X * (ax * ax + ay * ay + az * az) + Y * (ax * bx + ay * b2 + az * bz) = ax * (X * ax + Y * bx) + ay * (X * ay + Y * b2) + az * (X * az + Y * bz) := by grind
        rw [this, hP.1, hP.2.1, hP.2.2]; simp
      have q0 : (x * bx + y * b2 + z * bz) * all = 0 := by
        rw [← r2]
        have : X * (ax * bx + ay * b2 + az * bz) + Y * (bx * bx + b2 * b2 + bz * bz) = bx * (X * ax + Y * bx) + b2 * (X * ay + Y * b2) + bz * (X * az + Y * bz) := by grind
        rw [this, hP.1, hP.2.1, hP.2.2]; simp
      have p1 : x * ax + y * ay + z * az = 0 := by
        rcases Int.mul_eq_zero.1 p0 with h | h
        · exact h
        · omega
      have q1 : x * bx + y * b2 + z * bz = 0 := by
        rcases Int.mul_eq_zero.1 q0 with h | h
        · exact h
        · omega
      rw [p1, q1] at hXdef
      simp at hXdef
      omega
    · have := nsq_pos hP
      rw [eQ] at this
      exact pos_of_mul' hall this
  refine ⟨by rw [eD]; exact hM, ?_⟩
  rw [eD, eQ]
  generalize X * (x * ax + y * ay + z * az) + Y * (x * bx + y * b2 + z * bz) = M at *
  have e1 : num * (x * x + y * y + z * z) * (all * M) = (num * (x * x + y * y + z * z) * all) * M := by grind
  have e2 : M * M * den = (den * M) * M := by grind
  rw [e1, e2]
  exact Int.mul_le_mul_of_nonneg_right h4 (by omega)
where
  pos_of_mul' {a b : Int} (ha : 0 < a) (h : 0 < a * b) : 0 < b := by
    rcases Int.lt_or_le 0 b with h1 | h1
    · exact h1
    · have := Int.mul_nonpos_of_nonneg_of_nonpos (Int.le_of_lt ha) h1; omega
/-- a way meets what a part of it does -/
theorem part_of {x y z num den ax ay az bx b2 bz ux uy uz vx vy vz g s1 t1 s2 t2 : Int} (ha : ¬ (ax = 0 ∧ ay = 0 ∧ az = 0)) (hb : ¬ (bx = 0 ∧ b2 = 0 ∧ bz = 0)) (hn : 0 ≤ num) (hd : 0 < den) (hg : 0 < g)
    (hs1 : 0 ≤ s1) (ht1 : 0 ≤ t1) (hs2 : 0 ≤ s2) (ht2 : 0 ≤ t2) (u1 : g * ux = s1 * ax + t1 * bx) (u2 : g * uy = s1 * ay + t1 * b2) (u3 : g * uz = s1 * az + t1 * bz) (v1 : g * vx = s2 * ax + t2 * bx) (v2 : g * vy = s2 * ay + t2 * b2) (v3 : g * vz = s2 * az + t2 * bz)
    (h : MeetP x y z num den ux uy uz vx vy vz) : MeetP x y z num den ax ay az bx b2 bz := by
  rcases h with h | h | h
  · have := h.scale hg
    rw [u1, u2, u3] at this
    exact way_ins ha hb hs1 ht1 hn hd this
  · have := h.scale hg
    rw [v1, v2, v3] at this
    exact way_ins ha hb hs2 ht2 hn hd this
  · have hX := h.2.1
    have hY := h.2.2.1
    have := (btw_ins h).scale hg
    generalize prX x y z ux uy uz vx vy vz = X at *
    generalize prY x y z ux uy uz vx vy vz = Y at *
    have key : ∀ {a b u v : Int}, g * u = s1 * a + t1 * b → g * v = s2 * a + t2 * b → g * (X * u + Y * v) = (X * s1 + Y * s2) * a + (X * t1 + Y * t2) * b := fun {a b u v} h1 h2 => by
      have : g * (X * u + Y * v) = X * (g * u) + Y * (g * v) := by grind
      rw [this, h1, h2]; grind
    rw [key u1 v1, key u2 v2, key u3 v3] at this
    have m1 := Int.mul_nonneg (Int.le_of_lt hX) hs1
    have m2 := Int.mul_nonneg (Int.le_of_lt hY) hs2
    have m3 := Int.mul_nonneg (Int.le_of_lt hX) ht1
    have m4 := Int.mul_nonneg (Int.le_of_lt hY) ht2
    exact way_ins ha hb (by omega) (by omega) hn hd this
end Go.Ev
