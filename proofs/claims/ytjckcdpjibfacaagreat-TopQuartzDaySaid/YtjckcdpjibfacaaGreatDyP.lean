/- Suns between told ones, plain: where a tick lies, the cosines with both told suns, quotients in lowest terms. Conditions: as each says. -/
import Derived.Test.YtjckcdpjibfacaaGreatVec4
namespace Go.Ev
open Go
def atI (g : Nat → Int) (t : Int) : Nat → Nat → Nat
 | 0, i => i
 | m + 1, i => match decide (t ≤ g i) with
  | true => i
  | false => atI g t m (i + 1)
theorem atI_is {g : Nat → Int} {t : Int} : ∀ {m i k : Nat}, i ≤ k → k < i + m → (∀ j, i ≤ j → j < k → g j < t) → t ≤ g k → atI g t m i = k
 | 0, i, k, h1, h2, _, _ => by omega
 | m + 1, i, k, h1, h2, h3, h4 => by
  unfold atI
  by_cases e : i = k
  ·subst e
   rw [decide_eq_true h4]
  ·have : ¬ t ≤ g i := by have := h3 i (Nat.le_refl _) (by omega); omega
   rw [decide_eq_false this]
   exact atI_is (by omega) (by omega) (fun j a b => h3 j (by omega) b) h4
theorem atI_spec {g : Nat → Int} {t : Int} : ∀ {m i : Nat}, i ≤ atI g t m i ∧ atI g t m i ≤ i + m ∧ (∀ j, i ≤ j → j < atI g t m i → g j < t) ∧ (atI g t m i < i + m → t ≤ g (atI g t m i))
 | 0, i => ⟨Nat.le_refl _, Nat.le_refl _, fun j h1 h2 => by have h2 : j < i := h2; omega, fun h => by have h : i < i + 0 := h; omega⟩
 | m + 1, i => by
  unfold atI
  by_cases h : t ≤ g i
  ·rw [decide_eq_true h]
   exact ⟨Nat.le_refl _, by simp only []; omega, fun j h1 h2 => by simp only [] at h2; omega, fun _ => h⟩
  ·rw [decide_eq_false h]
   obtain ⟨a1, a2, a3, a4⟩ := atI_spec (g := g) (t := t) (m := m) (i := i + 1)
   simp only []
   refine ⟨by omega, by omega, fun j h1 h2 => ?_, fun h2 => a4 (by omega)⟩
   by_cases e : j = i
   ·subst e; omega
   ·exact a3 j (by omega) h2
theorem atI_shift {g g' : Nat → Int} {t b : Int} : ∀ {m i : Nat}, (∀ j, i ≤ j → j < i + m → g' j = g j + b) → atI g' (t + b) m i = atI g t m i
 | 0, _, _ => rfl
 | m + 1, i, h => by
  unfold atI
  rw [h i (Nat.le_refl _) (by omega), atI_shift fun j h1 h2 => h j (by omega) (by omega)]
  by_cases h : t ≤ g i
  ·rw [decide_eq_true h, decide_eq_true (show t + b ≤ g i + b by omega)]
  ·rw [decide_eq_false h, decide_eq_false (show ¬ t + b ≤ g i + b by omega)]
def atP (g ga : Nat → Int) (t : Int) (i : Nat) : Int := match g i == t with
 | true => ga i
 | false => (g i - t) * ga (i - 1) + (t - g (i - 1)) * ga i
structure SkyOk (n : Nat) (g0 g1 g2 g3 : Nat → Int) : Prop where
 two : 2 ≤ n
 few : n ≤ 64
 tick : ∀ i, i < n → 0 ≤ g0 i ∧ g0 i ≤ 10000000
 inc : ∀ i, i + 1 < n → g0 i < g0 (i + 1) ∧ g0 (i + 1) ≤ g0 i + 200
 ray : ∀ i, i < n → Ray (g1 i) (g2 i) (g3 i)
 len : ∀ i, i < n → g1 i * g1 i + g2 i * g2 i + g3 i * g3 i = g1 0 * g1 0 + g2 0 * g2 0 + g3 0 * g3 0
theorem SkyOk.lt {n : Nat} {g0 g1 g2 g3 : Nat → Int} (h : SkyOk n g0 g1 g2 g3) {i j : Nat} (hij : i < j) (hj : j < n) : g0 i < g0 j := by
 induction j with
 | zero => omega
 | succ j ih =>
  have h1 := (h.inc j hj).1
  rcases Nat.lt_or_eq_of_le (Nat.le_of_lt_succ hij) with h2 | h2
  ·have := ih h2 (by omega); omega
  ·subst h2; exact h1
theorem SkyOk.le {n : Nat} {g0 g1 g2 g3 : Nat → Int} (h : SkyOk n g0 g1 g2 g3) {i j : Nat} (hij : i ≤ j) (hj : j < n) : g0 i ≤ g0 j := by
 rcases Nat.lt_or_eq_of_le hij with h2 | h2
 ·have := h.lt h2 hj; omega
 ·subst h2; exact Int.le_refl _
section
variable {n : Nat} {g0 g1 g2 g3 : Nat → Int} (hs : SkyOk n g0 g1 g2 g3)
include hs
theorem at_where {t : Int} (h0 : g0 0 ≤ t) (h1 : t ≤ g0 (n - 1)) : atI g0 t n 0 < n ∧ ((g0 (atI g0 t n 0) = t) ∨ (1 ≤ atI g0 t n 0 ∧ g0 (atI g0 t n 0 - 1) < t ∧ t < g0 (atI g0 t n 0))) := by
 obtain ⟨a1, a2, a3, a4⟩ := atI_spec (g := g0) (t := t) (m := n) (i := 0)
 have hn := hs.two
 have hlt : atI g0 t n 0 < n := by
  rcases Nat.lt_or_ge (atI g0 t n 0) n with h | h
  ·exact h
  ·have := a3 (n - 1) (Nat.zero_le _) (by omega); omega
 refine ⟨hlt, ?_⟩
 have h4 := a4 (by omega)
 by_cases e : g0 (atI g0 t n 0) = t
 ·exact .inl e
 ·refine .inr ⟨?_, a3 _ (Nat.zero_le _) ?_, by omega⟩
  ·rcases Nat.eq_zero_or_pos (atI g0 t n 0) with e0 | e0
   ·rw [e0] at e h4; omega
   ·exact e0
  ·rcases Nat.eq_zero_or_pos (atI g0 t n 0) with e0 | e0
   ·rw [e0] at e h4; omega
   ·omega
theorem at_told {k : Nat} (hk : k < n) : atI g0 (g0 k) n 0 = k := atI_is (Nat.zero_le _) (by omega) (fun j _ hj => hs.lt hj hk) (Int.le_refl _)
theorem at_mid {k : Nat} {t : Int} (hk : k + 1 < n) (h1 : g0 k < t) (h2 : t ≤ g0 (k + 1)) : atI g0 t n 0 = k + 1 := atI_is (Nat.zero_le _) (by omega) (fun j _ hj => by
 have := hs.le (show j ≤ k by omega) (by omega)
 omega) h2
theorem at_bd {M : Nat} {t : Int} (h0 : g0 0 ≤ t) (h1 : t ≤ g0 (n - 1)) {ga : Nat → Int} (ha : ∀ i, i < n → (ga i).natAbs ≤ M) : (atP g0 ga t (atI g0 t n 0)).natAbs ≤ 400 * M ∧
  (g0 (atI g0 t n 0) ≠ t → (g0 (atI g0 t n 0) - t).natAbs ≤ 200 ∧ (t - g0 (atI g0 t n 0 - 1)).natAbs ≤ 200) := by
 obtain ⟨a1, a2⟩ := at_where hs h0 h1
 generalize atI g0 t n 0 = i at *
 have hi := ha i a1
 unfold atP
 by_cases e : g0 i = t
 ·rw [show (g0 i == t) = true by simpa using e]
  exact ⟨by simp only []; omega, fun h => absurd e h⟩
 ·rw [show (g0 i == t) = false by simpa using e]
  rcases a2 with h | ⟨b1, b2, b3⟩
  ·exact absurd h e
  ·obtain ⟨c1, c2⟩ := hs.inc (i - 1) (by omega)
   rw [show i - 1 + 1 = i by omega] at c1 c2
   have hi' := ha (i - 1) (by omega)
   have e1 : (g0 i - t).natAbs ≤ 200 := by omega
   have e2 : (t - g0 (i - 1)).natAbs ≤ 200 := by omega
   have m1 := mul_bd e1 hi'
   have m2 := mul_bd e2 hi
   exact ⟨by simp only []; omega, fun _ => ⟨e1, e2⟩⟩
end
theorem cos_key {x y e n : Int} (hx : 0 < x) (hy : 0 < y) (hn : 0 ≤ n) (hne : n ≤ e) : n * n * (x * x * e + 2 * (x * y * n) + y * y * e) ≤ (x * e + y * n) * (x * e + y * n) * e := by
 have h1 : 0 ≤ (x * x * e + 2 * (x * y * n)) * ((e - n) * (e + n)) := by
  refine Int.mul_nonneg (Int.add_nonneg (Int.mul_nonneg (Int.mul_nonneg (Int.le_of_lt hx) (Int.le_of_lt hx)) (by omega)) (Int.mul_nonneg (by decide) (Int.mul_nonneg (Int.mul_nonneg (Int.le_of_lt hx) (Int.le_of_lt hy)) hn))) (Int.mul_nonneg (by omega) (by omega))
 have h2 : (x * e + y * n) * (x * e + y * n) * e - n * n * (x * x * e + 2 * (x * y * n) + y * y * e) = (x * x * e + 2 * (x * y * n)) * ((e - n) * (e + n)) := by grind
 omega
theorem dot_le {ax ay az bx b2 bz e : Int} (ha : ax * ax + ay * ay + az * az = e) (hb : bx * bx + b2 * b2 + bz * bz = e) : ax * bx + ay * b2 + az * bz ≤ e := by
 have h1 := sq_nonneg (ax - bx)
 have h2 := sq_nonneg (ay - b2)
 have h3 := sq_nonneg (az - bz)
 have h4 : (ax - bx) * (ax - bx) + (ay - b2) * (ay - b2) + (az - bz) * (az - bz) = 2 * e - 2 * (ax * bx + ay * b2 + az * bz) := by grind
 omega
theorem mid_cos {x y e ax ay az bx b2 bz g p q r : Int} (hx : 0 < x) (hy : 0 < y) (ha : ax * ax + ay * ay + az * az = e) (hb : bx * bx + b2 * b2 + bz * bz = e) (hg : 0 < g)
  (h1 : x * ax + y * bx = g * p) (h2 : x * ay + y * b2 = g * q) (h3 : x * az + y * bz = g * r) (hn : 0 ≤ ax * bx + ay * b2 + az * bz) :
  g * (p * ax + q * ay + r * az) = x * e + y * (ax * bx + ay * b2 + az * bz) ∧
  (ax * bx + ay * b2 + az * bz) * (ax * bx + ay * b2 + az * bz) * (p * p + q * q + r * r) ≤ (p * ax + q * ay + r * az) * (p * ax + q * ay + r * az) * e := by
 have hle := dot_le ha hb
 have e1 : g * (p * ax + q * ay + r * az) = x * e + y * (ax * bx + ay * b2 + az * bz) := by grind
 refine ⟨e1, ?_⟩
 have e2 : (g * g) * (p * p + q * q + r * r) = x * x * e + 2 * (x * y * (ax * bx + ay * b2 + az * bz)) + y * y * e := by grind
 have key := cos_key hx hy hn hle
 rw [← e1, ← e2] at key
 generalize ax * bx + ay * b2 + az * bz = n at *
 generalize p * ax + q * ay + r * az = d at *
 generalize p * p + q * q + r * r = w at *
 have hgg : 0 < g * g := Int.mul_pos hg hg
 refine Int.le_of_mul_le_mul_left (a := g * g) ?_ hgg
 have a1 : g * g * (n * n * w) = n * n * (g * g * w) := by grind
 have a2 : g * g * (d * d * e) = g * d * (g * d) * e := by grind
 rw [a1, a2]
 exact key
def loW (num den a : Int) : Int := w64 (a.tdiv (gcd1 num den))
theorem gcd1_pos (num : Int) {den : Int} (hd : 0 < den) : gcd1 num den = (Int.gcd num den : Nat) ∧ 0 < (Int.gcd num den : Nat) := by
 have h : 0 < Int.gcd num den := by
  rcases Nat.eq_zero_or_pos (Int.gcd num den) with h | h
  ·have := (Int.gcd_eq_zero_iff.1 h).2
   omega
  ·exact h
 refine ⟨?_, h⟩
 unfold gcd1
 rw [show (Int.gcd num den == 0) = false by simp only [beq_eq_false_iff_ne]; omega]
theorem lo_of {num den : Int} (hd : 0 < den) (b1 : num.natAbs ≤ 9223372036854775807) (b2 : den.natAbs ≤ 9223372036854775807) : ∃ g : Int, 0 < g ∧ num = g * loW num den num ∧ den = g * loW num den den ∧ (loW num den num).natAbs ≤ num.natAbs ∧ (loW num den den).natAbs ≤ den.natAbs := by
 obtain ⟨e1, e2⟩ := gcd1_pos num hd
 obtain ⟨p, hp⟩ := Int.gcd_dvd_left (a := num) (b := den)
 obtain ⟨q, hq⟩ := Int.gcd_dvd_right (a := num) (b := den)
 unfold loW
 rw [e1]
 generalize Int.gcd num den = g at *
 have key : ∀ a c : Int, a = (g : Int) * c → a.natAbs ≤ 9223372036854775807 → w64 (a.tdiv g) = c ∧ c.natAbs ≤ a.natAbs := fun a c h hb => by
  subst h
  have hc : c.natAbs ≤ ((g : Int) * c).natAbs := by
   rw [Int.natAbs_mul]
   exact Nat.le_mul_of_pos_left _ (by omega)
  rw [Int.mul_tdiv_cancel_left _ (by omega)]
  exact ⟨w64_id (by omega), hc⟩
 obtain ⟨k1, k2⟩ := key num p hp b1
 obtain ⟨k3, k4⟩ := key den q hq b2
 rw [k1, k3]
 exact ⟨g, by omega, hp, hq, k2, k4⟩
theorem cmp_ok {P Q R S : Int} (hQ : 0 < Q) (hS : 0 < S) (bP : P.natAbs ≤ 10000000000000) (bQ : Q.natAbs ≤ 1000000000) (bR : R.natAbs ≤ 1000000000) (bS : S.natAbs ≤ 100000) (h : R * Q ≤ P * S) :
  ¬ w64 (loW P Q P * loW R S S) < w64 (loW R S R * loW P Q Q) := by
 obtain ⟨g, hg, e1, e2, c1, c2⟩ := lo_of (num := P) hQ (by omega) (by omega)
 obtain ⟨k, hk, e3, e4, c3, c4⟩ := lo_of (num := R) hS (by omega) (by omega)
 generalize loW P Q P = p at *
 generalize loW P Q Q = q at *
 generalize loW R S R = r at *
 generalize loW R S S = s at *
 have m1 := mul_bd (a := p) (b := s) (s := 10000000000000) (t := 100000) (by omega) (by omega)
 have m2 := mul_bd (a := r) (b := q) (s := 1000000000) (t := 1000000000) (by omega) (by omega)
 rw [w64_id (n := p * s) (by omega), w64_id (n := r * q) (by omega)]
 have h2 : (g * k) * (r * q) ≤ (g * k) * (p * s) := by
  have a1 : (g * k) * (r * q) = R * Q := by rw [e2, e3]; grind
  have a2 : (g * k) * (p * s) = P * S := by rw [e1, e4]; grind
  rw [a1, a2]; exact h
 have := Int.le_of_mul_le_mul_left h2 (Int.mul_pos hg hk)
 omega
end Go.Ev
namespace Go.Ev
open Go
structure Spans where
 m : Nat
 F : Nat → Int
 T : Nat → Int
def Spans.add (s : Spans) (t : Int) : Spans := match s.m with
 | 0 => ⟨1, fun _ => t, fun _ => t + 1⟩
 | m + 1 => match s.T m == t with
  | true => ⟨m + 1, s.F, putF s.T m (t + 1)⟩
  | false => ⟨m + 2, putF s.F (m + 1) t, putF s.T (m + 1) (t + 1)⟩
def spansK (up : Int → Bool) (a : Int) : Nat → Spans
 | 0 => ⟨0, fun _ => 0, fun _ => 0⟩
 | k + 1 => match up (a + k) with
  | true => (spansK up a k).add (a + k)
  | false => spansK up a k
def Spans.Has (s : Spans) (t : Int) : Prop := ∃ j, j < s.m ∧ s.F j ≤ t ∧ t < s.T j
theorem putF_at {α : Type} (f : Nat → α) (i : Nat) (x : α) (j : Nat) : putF f i x j = if j = i then x else f j := by
 unfold putF
 by_cases h : j = i
 ·subst h; simp
 ·rw [if_neg h]
  have : Nat.beq j i = false := by
   cases e : Nat.beq j i with
   | false => rfl
   | true => exact absurd (Nat.eq_of_beq_eq_true e) h
  rw [this]
theorem add_has {s : Spans} {t : Int} (hb : ∀ j, j < s.m → s.F j < s.T j ∧ s.T j ≤ t) : (∀ j, j < (s.add t).m → (s.add t).F j < (s.add t).T j ∧ (s.add t).T j ≤ t + 1) ∧ ∀ τ, (s.add t).Has τ ↔ (s.Has τ ∨ τ = t) := by
 obtain ⟨m, F, T⟩ := s
 unfold Spans.add Spans.Has
 cases m with
 | zero =>
  simp only []
  refine ⟨fun j _ => by omega, fun τ => ⟨fun ⟨j, h1, h2, h3⟩ => .inr (by omega), fun h => ?_⟩⟩
  rcases h with ⟨j, h1, _⟩ | h
  ·omega
  ·exact ⟨0, by omega, by omega, by omega⟩
 | succ m =>
  simp only [] at hb ⊢
  have hm := hb m (by omega)
  by_cases e : T m = t
  ·rw [show (T m == t) = true by simpa using e]
   simp only [putF_at]
   refine ⟨fun j hj => ?_, fun τ => ⟨fun ⟨j, h1, h2, h3⟩ => ?_, fun h => ?_⟩⟩
   ·split
    ·rename_i ej; subst ej; omega
    ·have := hb j hj; omega
   ·split at h3
    ·rename_i ej
     subst ej
     by_cases ht : τ = t
     ·exact .inr ht
     ·exact .inl ⟨j, h1, h2, by omega⟩
    ·exact .inl ⟨j, h1, h2, h3⟩
   ·rcases h with ⟨j, h1, h2, h3⟩ | h
    ·refine ⟨j, h1, h2, ?_⟩
     split
     ·rename_i ej; subst ej; omega
     ·exact h3
    ·refine ⟨m, by omega, by omega, ?_⟩
     rw [if_pos rfl]; omega
  ·rw [show (T m == t) = false by simpa using e]
   simp only [putF_at]
   refine ⟨fun j hj => ?_, fun τ => ⟨fun ⟨j, h1, h2, h3⟩ => ?_, fun h => ?_⟩⟩
   ·split
    ·omega
    ·have := hb j (by omega); omega
   ·split at h2
    ·rename_i ej; rw [if_pos ej] at h3; exact .inr (by omega)
    ·rename_i ej; rw [if_neg ej] at h3; exact .inl ⟨j, by omega, h2, h3⟩
   ·rcases h with ⟨j, h1, h2, h3⟩ | h
    ·have ej : j ≠ m + 1 := by omega
     exact ⟨j, by omega, by rw [if_neg ej]; exact h2, by rw [if_neg ej]; exact h3⟩
    ·exact ⟨m + 1, by omega, by rw [if_pos rfl]; omega, by rw [if_pos rfl]; omega⟩
theorem spansK_has (up : Int → Bool) (a : Int) : ∀ k : Nat, (∀ j, j < (spansK up a k).m → (spansK up a k).F j < (spansK up a k).T j ∧ (spansK up a k).T j ≤ a + k) ∧ ∀ τ, (spansK up a k).Has τ ↔ (a ≤ τ ∧ τ < a + k ∧ up τ = true)
 | 0 => ⟨fun j h => by have h : j < 0 := h; omega, fun τ => ⟨fun ⟨j, h, _⟩ => by have h : j < 0 := h; omega, fun h => by have h1 := h.1; have h2 := h.2.1; omega⟩⟩
 | k + 1 => by
  obtain ⟨h1, h2⟩ := spansK_has up a k
  unfold spansK
  cases hu : up (a + k) with
  | false =>
   simp only []
   refine ⟨fun j hj => ?_, fun τ => ?_⟩
   ·have := h1 j hj; omega
   ·rw [h2]
    constructor
    ·rintro ⟨b1, b2, b3⟩; exact ⟨b1, by omega, b3⟩
    ·rintro ⟨b1, b2, b3⟩
     refine ⟨b1, ?_, b3⟩
     by_cases e : τ = a + k
     ·subst e; rw [hu] at b3; cases b3
     ·omega
  | true =>
   simp only []
   obtain ⟨a1, a2⟩ := add_has h1
   refine ⟨fun j hj => ?_, fun τ => ?_⟩
   ·have := a1 j hj; omega
   ·rw [a2, h2]
    constructor
    ·rintro (⟨b1, b2, b3⟩ | rfl)
     ·exact ⟨b1, by omega, b3⟩
     ·exact ⟨by omega, by omega, hu⟩
    ·rintro ⟨b1, b2, b3⟩
     by_cases e : τ = a + k
     ·exact .inr e
     ·exact .inl ⟨b1, by omega, b3⟩
theorem spansK_m (up : Int → Bool) (a : Int) : ∀ k : Nat, (spansK up a k).m ≤ k
 | 0 => Nat.le_refl _
 | k + 1 => by
  have h := spansK_m up a k
  unfold spansK
  cases up (a + k) with
  | false => simp only []; omega
  | true =>
   simp only []
   generalize spansK up a k = s at h ⊢
   obtain ⟨m, F, T⟩ := s
   unfold Spans.add
   cases m with
   | zero => show 1 ≤ _; omega
   | succ m =>
    simp only [] at h ⊢
    split
    ·show m + 1 ≤ _; omega
    ·show m + 2 ≤ _; omega
end Go.Ev
