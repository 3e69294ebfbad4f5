/- TopQuartzDay, plain: suns between two told ones, cones, cosines, the light of a day. Conditions: as each says. -/
import Derived.Test.YtjckcdpjibfacaaGreatQz7
namespace Go.Ev
open Go Go.Proofs
set_option maxRecDepth 100000
theorem z3_no {x y z : Int} (h : ¬ (x = 0 ∧ y = 0 ∧ z = 0)) : z3 x y z = false := by
 rw [← Bool.not_eq_true, z3_iff]
 exact h
theorem noneE_zero {x y z : Int} (h : ¬ (x = 0 ∧ y = 0 ∧ z = 0)) : noneE x y z = 0 := by unfold noneE; rw [z3_no h]; rfl
theorem noneE_or (x y z : Int) : noneE x y z = 0 ∨ noneE x y z = 7 := by unfold noneE errIf; cases z3 x y z with | true => exact .inr rfl | false => exact .inl rfl
theorem rsB_eq (x y z : Int) : rsB x y z = !decide (z ≤ 0) := by
 unfold rsB
 by_cases h : z ≤ 0
 ·rw [decide_eq_true h, decide_eq_false (show ¬ z > 0 by omega), Bool.and_false]; rfl
 ·rw [decide_eq_false h, decide_eq_true (show z > 0 by omega), noneE_zero (by omega)]; rfl
section
variable {n : Nat} {g0 g1 g2 g3 : Nat → Int} (hs : SkyOk n g0 g1 g2 g3)
include hs
theorem told_v {k : Nat} (hk : k < n) (ga : Nat → Int) : atV n g0 ga (g0 k) = ga k := by
 unfold atV
 rw [at_told hs hk]
 unfold atP
 rw [show (g0 k == g0 k) = true by simp]
theorem mid_v {k : Nat} {t : Int} (hk : k + 1 < n) (h1 : g0 k < t) (h2 : t < g0 (k + 1)) (ga : Nat → Int) : atV n g0 ga t = (g0 (k + 1) - t) * ga k + (t - g0 k) * ga (k + 1) := by
 unfold atV
 rw [at_mid hs hk h1 (by omega)]
 unfold atP
 rw [show (g0 (k + 1) == t) = false by simp only [beq_eq_false_iff_ne]; omega]
 rfl
theorem seg_v {k : Nat} {t : Int} (hk : k + 1 < n) (h1 : g0 k ≤ t) (h2 : t ≤ g0 (k + 1)) : ∃ s r : Int, 0 ≤ s ∧ 0 ≤ r ∧ s + r ≠ 0 ∧ ∀ ga : Nat → Int, atV n g0 ga t = s * ga k + r * ga (k + 1) := by
 have hlt := (hs.inc k hk).1
 by_cases e : g0 k = t
 ·exact ⟨1, 0, by decide, by decide, by decide, fun ga => by rw [← e, told_v hs (by omega)]; omega⟩
 ·by_cases e2 : t = g0 (k + 1)
  ·exact ⟨0, 1, by decide, by decide, by decide, fun ga => by rw [e2, told_v hs hk]; omega⟩
  ·exact ⟨g0 (k + 1) - t, t - g0 k, by omega, by omega, by omega, fun ga => mid_v hs hk (by omega) (by omega) ga⟩
end
theorem red_cases {M : Nat} {x y z : Int} (hb : Bd M x y z) (hM : M ≤ 9223372036854775807) : (x = 0 ∧ y = 0 ∧ z = 0 ∧ redA x y z x = 0 ∧ redA x y z y = 0 ∧ redA x y z z = 0) ∨ Red x y z (redA x y z x) (redA x y z y) (redA x y z z) := by
 by_cases h : x = 0 ∧ y = 0 ∧ z = 0
 ·obtain ⟨rfl, rfl, rfl⟩ := h
  exact .inl ⟨rfl, rfl, rfl, by decide, by decide, by decide⟩
 ·obtain ⟨p, q, r, hr⟩ := red_ex h
  obtain ⟨e1, e2, e3⟩ := redA_of hb hM hr
  rw [e1, e2, e3]
  exact .inr hr
theorem vq_cases {n : Nat} {g0 g1 g2 g3 : Nat → Int} (hs : SkyOk n g0 g1 g2 g3) (ht : ∀ i, i < n → Bd 40 (g1 i) (g2 i) (g3 i)) {t : Int} (h0 : g0 0 ≤ t) (h1 : t ≤ g0 (n - 1)) :
  (vX n g0 g1 g2 g3 t = 0 ∧ vY n g0 g1 g2 g3 t = 0 ∧ vZ n g0 g1 g2 g3 t = 0 ∧ atV n g0 g1 t = 0 ∧ atV n g0 g2 t = 0 ∧ atV n g0 g3 t = 0) ∨
  (¬ (vX n g0 g1 g2 g3 t = 0 ∧ vY n g0 g1 g2 g3 t = 0 ∧ vZ n g0 g1 g2 g3 t = 0) ∧ Bd 16000 (vX n g0 g1 g2 g3 t) (vY n g0 g1 g2 g3 t) (vZ n g0 g1 g2 g3 t) ∧ ∃ g : Int, 0 < g ∧ atV n g0 g1 t = g * vX n g0 g1 g2 g3 t ∧ atV n g0 g2 t = g * vY n g0 g1 g2 g3 t ∧ atV n g0 g3 t = g * vZ n g0 g1 g2 g3 t) := by
 obtain ⟨bx, _⟩ := at_bd hs h0 h1 (M := 40) (ga := g1) fun i hi => (ht i hi).1
 obtain ⟨by', _⟩ := at_bd hs h0 h1 (M := 40) (ga := g2) fun i hi => (ht i hi).2.1
 obtain ⟨bz, _⟩ := at_bd hs h0 h1 (M := 40) (ga := g3) fun i hi => (ht i hi).2.2
 have hBd : Bd 16000 (atV n g0 g1 t) (atV n g0 g2 t) (atV n g0 g3 t) := ⟨by unfold atV; omega, by unfold atV; omega, by unfold atV; omega⟩
 rcases red_cases hBd (by decide) with ⟨a1, a2, a3, z1, z2, z3⟩ | hR
 ·exact .inl ⟨z1, z2, z3, a1, a2, a3⟩
 ·have h1 := hR.ne
  have h2 := hR.bd hBd
  obtain ⟨g, hg, r1, r2, r3, _⟩ := hR
  exact .inr ⟨h1, h2, g, hg, r1, r2, r3⟩
theorem sq_le {a b : Int} (ha : 0 ≤ a) (h : b * b ≤ a * a) : b ≤ a := by
 rcases Int.lt_or_le a b with h1 | h1
 ·have h2 : a * a < b * b := Int.lt_of_le_of_lt (Int.mul_le_mul_of_nonneg_left (Int.le_of_lt h1) ha) (Int.mul_lt_mul_of_pos_right h1 (by omega))
  omega
 ·exact h1
theorem ins_add {x y z num den ax ay az bx b2 bz s r : Int} (hn : 0 ≤ num) (hd : 0 ≤ den) (hs : 0 ≤ s) (hr : 0 ≤ r) (hsr : s + r ≠ 0) (ha : InsP x y z num den ax ay az) (hb : InsP x y z num den bx b2 bz) :
  InsP x y z num den (s * ax + r * bx) (s * ay + r * b2) (s * az + r * bz) := by
 obtain ⟨p0, p1⟩ := ha
 obtain ⟨q0, q1⟩ := hb
 have hcc : 0 ≤ x * x + y * y + z * z := norm_nonneg x y z
 have hN : 0 ≤ num * (x * x + y * y + z * z) := Int.mul_nonneg hn hcc
 have haa := norm_nonneg ax ay az
 have hbb := norm_nonneg bx b2 bz
 have hcs : (ax * bx + ay * b2 + az * bz) * (ax * bx + ay * b2 + az * bz) ≤ (ax * ax + ay * ay + az * az) * (bx * bx + b2 * b2 + bz * bz) := by
  have e := all_sq ax ay az bx b2 bz
  unfold allP at e
  have h1 := sq_nonneg (ay * bz - az * b2)
  have h2 := sq_nonneg (az * bx - ax * bz)
  have h3 := sq_nonneg (ax * b2 - ay * bx)
  omega
 have eD : x * (s * ax + r * bx) + y * (s * ay + r * b2) + z * (s * az + r * bz) = s * (x * ax + y * ay + z * az) + r * (x * bx + y * b2 + z * bz) := by grind
 have eQ : (s * ax + r * bx) * (s * ax + r * bx) + (s * ay + r * b2) * (s * ay + r * b2) + (s * az + r * bz) * (s * az + r * bz) = s * s * (ax * ax + ay * ay + az * az) + 2 * (s * r * (ax * bx + ay * b2 + az * bz)) + r * r * (bx * bx + b2 * b2 + bz * bz) := by grind
 unfold InsP
 rw [eD, eQ]
 generalize x * ax + y * ay + z * az = p at *
 generalize x * bx + y * b2 + z * bz = q at *
 generalize num * (x * x + y * y + z * z) = N at *
 generalize ax * ax + ay * ay + az * az = aa at *
 generalize bx * bx + b2 * b2 + bz * bz = bb at *
 generalize ax * bx + ay * b2 + az * bz = ab at *
 have hmid : N * ab ≤ p * q * den := by
  refine sq_le (Int.mul_nonneg (Int.mul_nonneg (by omega) (by omega)) hd) ?_
  have h1 : (N * aa) * (N * bb) ≤ (p * p * den) * (q * q * den) := Int.mul_le_mul p1 q1 (Int.mul_nonneg hN hbb) (Int.mul_nonneg (Int.mul_nonneg (by omega) (by omega)) hd)
  have h2 : (N * N) * (ab * ab) ≤ (N * N) * (aa * bb) := Int.mul_le_mul_of_nonneg_left hcs (Int.mul_nonneg hN hN)
  have e1 : N * ab * (N * ab) = (N * N) * (ab * ab) := by grind
  have e2 : (N * aa) * (N * bb) = (N * N) * (aa * bb) := by grind
  have e3 : p * q * den * (p * q * den) = (p * p * den) * (q * q * den) := by grind
  rw [e1, e3]
  rw [e2] at h1
  omega
 refine ⟨?_, ?_⟩
 ·rcases Int.lt_or_le 0 s with h | h
  ·have h1 := Int.mul_pos h p0
   have h2 := Int.mul_nonneg hr (Int.le_of_lt q0)
   omega
  ·have h0 : s = 0 := by omega
   subst h0
   have h1 : 0 < r * q := Int.mul_pos (by omega) q0
   omega
 ·have m1 : s * s * (N * aa) ≤ s * s * (p * p * den) := Int.mul_le_mul_of_nonneg_left p1 (sq_nonneg s)
  have m2 : r * r * (N * bb) ≤ r * r * (q * q * den) := Int.mul_le_mul_of_nonneg_left q1 (sq_nonneg r)
  have m3 : s * r * (N * ab) ≤ s * r * (p * q * den) := Int.mul_le_mul_of_nonneg_left hmid (Int.mul_nonneg hs hr)
  have e1 : N * (s * s * aa + 2 * (s * r * ab) + r * r * bb) = s * s * (N * aa) + 2 * (s * r * (N * ab)) + r * r * (N * bb) := by grind
  have e2 : (s * p + r * q) * (s * p + r * q) * den = s * s * (p * p * den) + 2 * (s * r * (p * q * den)) + r * r * (q * q * den) := by grind
  rw [e1, e2]
  omega
theorem InsP.unscale {x y z num den a b c g : Int} (hg : 0 < g) (h : InsP x y z num den (g * a) (g * b) (g * c)) : InsP x y z num den a b c := by
 obtain ⟨h0, h1⟩ := h
 have e1 : x * (g * a) + y * (g * b) + z * (g * c) = g * (x * a + y * b + z * c) := by grind
 have e2 : (g * a) * (g * a) + (g * b) * (g * b) + (g * c) * (g * c) = (g * g) * (a * a + b * b + c * c) := by grind
 rw [e1] at h0
 rw [e1, e2] at h1
 refine ⟨?_, ?_⟩
 ·rcases Int.lt_or_le 0 (x * a + y * b + z * c) with h | h
  ·exact h
  ·have := Int.mul_nonpos_of_nonneg_of_nonpos (Int.le_of_lt hg) h
   omega
 ·have e3 : num * (x * x + y * y + z * z) * ((g * g) * (a * a + b * b + c * c)) = (g * g) * (num * (x * x + y * y + z * z) * (a * a + b * b + c * c)) := by grind
  have e4 : g * (x * a + y * b + z * c) * (g * (x * a + y * b + z * c)) * den = (g * g) * ((x * a + y * b + z * c) * (x * a + y * b + z * c) * den) := by grind
  rw [e3, e4] at h1
  exact le_of_mul (Int.mul_pos hg hg) h1
def sumL (f : Nat → Int) : Nat → Int
 | 0 => 0
 | k + 1 => sumL f k + f k
theorem sumL_eq {f g : Nat → Int} : ∀ {k : Nat}, (∀ j, j < k → f j = g j) → sumL f k = sumL g k
 | 0, _ => rfl
 | k + 1, h => by
  unfold sumL
  rw [sumL_eq (k := k) fun j hj => h j (by omega), h k (by omega)]
def lenS (s : Spans) : Int := sumL (fun j => s.T j - s.F j) s.m
theorem lenS_add (s : Spans) (t : Int) : lenS (s.add t) = lenS s + 1 := by
 obtain ⟨m, F, T⟩ := s
 unfold Spans.add lenS
 cases m with
 | zero => simp only [sumL]; omega
 | succ m =>
  simp only []
  by_cases e : T m = t
  ·rw [show (T m == t) = true by simpa using e]
   simp only [sumL]
   rw [sumL_eq (f := fun j => putF T m (t + 1) j - F j) (g := fun j => T j - F j) fun j hj => by rw [putF_other _ _ (by omega)], putF_same]
   omega
  ·rw [show (T m == t) = false by simpa using e]
   simp only [sumL]
   rw [sumL_eq (f := fun j => putF T (m + 1) (t + 1) j - putF F (m + 1) t j) (g := fun j => T j - F j) fun j hj => by rw [putF_other _ _ (by omega), putF_other _ _ (by omega)], putF_same, putF_same, putF_other _ _ (by omega), putF_other _ _ (by omega)]
   omega
theorem lenK (up : Int → Bool) (a : Int) : ∀ k : Nat, lenS (spansK up a (k + 1)) = lenS (spansK up a k) + (match up (a + k) with | true => 1 | false => 0) := by
 intro k
 rw [show spansK up a (k + 1) = match up (a + k) with | true => (spansK up a k).add (a + k) | false => spansK up a k from rfl]
 cases up (a + k) with
 | true => exact lenS_add _ _
 | false => exact (Int.add_zero _).symm
def qF (up : Int → Bool) (a : Int) : Nat → Nat → Nat
 | 0 => fun _ => 0
 | k + 1 => match up (a + k) with
  | true => putF (qF up a k) k q25
  | false => qF up a k
theorem qF_at (up : Int → Bool) (a : Int) : ∀ (k i : Nat), qF up a k i = if i < k ∧ up (a + i) = true then q25 else 0
 | 0, i => by simp [qF]
 | k + 1, i => by
  unfold qF
  have ih := qF_at up a k
  by_cases e : i = k
  ·subst e
   cases hu : up (a + i) with
   | true => simp only []; rw [putF_same]; simp
   | false => simp only []; rw [ih]; simp
  ·cases hu : up (a + k) with
   | true =>
    simp only []
    rw [putF_other _ _ e, ih]
    by_cases h : i < k
    ·simp [h, show i < k + 1 by omega]
    ·simp [h, show ¬ i < k + 1 by omega]
   | false =>
    simp only []
    rw [ih]
    by_cases h : i < k
    ·simp [h, show i < k + 1 by omega]
    ·simp [h, show ¬ i < k + 1 by omega]
theorem qF_ok (up : Int → Bool) (a : Int) (k n : Nat) : allN qOk (qF up a k) n = true := allN_of fun i _ => by
 rw [qF_at]
 split <;> rfl
theorem day_light (up : Int → Bool) (a : Int) (n : Nat) : ∀ k, k ≤ n → (cntQ (qF up a n) k : Int) = lenS (spansK up a k)
 | 0, _ => rfl
 | k + 1, h => by
  have ih := day_light up a n k (by omega)
  rw [lenK, ← ih]
  rw [show cntQ (qF up a n) (k + 1) = cntQ (qF up a n) k + (match Nat.beq (qF up a n k) 0 with | true => 0 | false => 1) from rfl, qF_at]
  cases hu : up (a + k) with
  | true =>
   rw [if_pos ⟨by omega, rfl⟩]
   rfl
  | false =>
   rw [if_neg (by simp)]
   exact (Int.add_zero _).symm
theorem ne25_q : ne25 q25 = false := by kernel_rfl
end Go.Ev
namespace Go.Ev
open Go Go.Proofs
set_option maxRecDepth 100000
theorem comesF_cutS {P : Program} {rec : Code → St → Tree (X × St)} (hrec : RecOk P rec) {c : Code} {sB st : St} {φ : X × St → Prop} (hlow : sB.hp.low = sB.hp.next) (k : Nat) (slots slotsR : List Nat) {T : Tree ((X × St) ⊕ (List Bool × St))} (e : (evB rec c st).bind (canO slots slotsR sB) = T) {S : SkO} (h1 : T = into T S) (h2 : fits T S = true)
  (h3 : SkLeads (CutF P rec c sB φ k) S) : ComesF P c sB st φ := by
 refine comesF_cut hrec hlow k slots slotsR ?_
 rw [e]
 exact all_into h1 h2 h3.all
theorem comesF_roundS {P : Program} {rec : Code → St → Tree (X × St)} (hrec : RecOk P rec) {c : Code} {sB st : St} {φ : X × St → Prop} (hlow : sB.hp.low = sB.hp.next) (slots slotsX : List Nat) {T : Tree (X × St)} (e : (rec c st).bind (canonT slots slotsX sB) = T) {S : SkX} (h1 : T = into T S) (h2 : fits T S = true)
  (h3 : SkLeads φ S) : ComesF P c sB st φ := by
 refine comesF_round hrec hlow slots slotsX ?_
 rw [e]
 exact all_into h1 h2 h3.all
structure QzK (fl : Bool) (nm : ByteArray) (m : Nat) (g0 g1 g2 g3 : Nat → Int) (x y z num den : Int) : Prop where
 s : skyE nm (m + 2) g0 g1 g2 g3 = 0
 tiny : ∀ i, i < m + 2 → Bd 40 (g1 i) (g2 i) (g3 i)
 cone : ConeOk x y z num den
 short : g0 (m + 1) - g0 0 ≤ 59
 fl : spnK fl fqT m g0 g1 g2 g3 = true
theorem mc_iff {x y z num den ax ay az bx b2 bz : Int} (hc : ConeOk x y z num den) (ha : Ray ax ay az) (hb : Ray bx b2 bz) (hA : Bd 256 ax ay az) (hB : Bd 256 bx b2 bz) (ho : oppW ax ay az bx b2 bz = false) :
  mcK [x, y, z, num, den, ax, ay, az, bx, b2, bz] [] = true ∧ (mcW x y z num den ax ay az bx b2 bz = true ↔ MeetP x y z num den ax ay az bx b2 bz) := by
 obtain ⟨e1, e2⟩ := meet_iff hc ha hb hA hB ho
 have hm : meetErr x y z num den ax ay az bx b2 bz = 0 := by
  unfold coErr at e1
  cases h : meetErr x y z num den ax ay az bx b2 bz != 0 with
  | true => rw [h] at e1; simp at h; exact absurd e1 h
  | false => simpa using h
 have ht : turnErr x y z ax ay az bx b2 bz = 0 := by
  unfold coErr at e1
  rw [hm] at e1
  exact e1
 refine ⟨by show (meetErr x y z num den ax ay az bx b2 bz == 0 && turnErr x y z ax ay az bx b2 bz == 0) = true; rw [hm, ht]; rfl, ?_⟩
 rw [← e2]
 unfold coMeets mcW
 rw [hm, ht]
 exact Iff.rfl
section
variable {fl : Bool} {nm : ByteArray} {m : Nat} {g0 g1 g2 g3 : Nat → Int} {x y z num den : Int} (hk : QzK fl nm m g0 g1 g2 g3 x y z num den)
include hk
theorem QzK.sky : SkyOk (m + 2) g0 g1 g2 g3 := (sky_ok hk.s).1
theorem QzK.icK {a b c : Int} (h : Ray a b c) : icK [x, y, z, num, den, a, b, c] [] = true := by
 show (firstZ [coneErr x y z num den, rayErr a b c] == 0) = true
 rw [hk.cone.err, ray_zero.2 h]
 rfl
theorem QzK.gd : gdK (m + 2) = true ∧ Nat.ble (m + 2) 1000000 = true := by
 have := hk.sky.few
 have h : Nat.ble (m + 2) 1000000 = true := by rw [Nat.ble_eq]; omega
 refine ⟨?_, h⟩
 unfold gdK
 rw [ble_self, h]
 rfl
theorem QzK.at {t : Int} (h0 : g0 0 ≤ t) (h1 : t ≤ g0 (m + 1)) : atOk skyE nm (m + 2) g0 g1 g2 g3 t = true := by
 unfold atOk
 rw [hk.s]
 simp only [Bool.and_eq_true, decide_eq_true_eq]
 exact ⟨rfl, h0, h1⟩
theorem QzK.ins {a b c : Int} (h : Bd 4096 a b c) : insW x y z num den a b c = true ↔ InsP x y z num den a b c := by
 have h1 := hk.cone.den0
 have h2 := hk.cone.den1
 have h3 := hk.cone.num0
 have h4 := hk.cone.num1
 exact ins_iff (hk.cone.bd.mono (by decide)) h ⟨h3, by omega⟩ ⟨by omega, h2⟩
theorem QzK.seg {k : Nat} (hk1 : k + 1 < m + 2) (ho : oppW (g1 k) (g2 k) (g3 k) (g1 (k + 1)) (g2 (k + 1)) (g3 (k + 1)) = false) {t : Int} (h1 : g0 k ≤ t) (h2 : t ≤ g0 (k + 1)) :
  g0 0 ≤ t ∧ t ≤ g0 (m + 1) ∧ ¬ (vX (m + 2) g0 g1 g2 g3 t = 0 ∧ vY (m + 2) g0 g1 g2 g3 t = 0 ∧ vZ (m + 2) g0 g1 g2 g3 t = 0) ∧ Bd 16000 (vX (m + 2) g0 g1 g2 g3 t) (vY (m + 2) g0 g1 g2 g3 t) (vZ (m + 2) g0 g1 g2 g3 t) ∧
  (Bd 4096 (vX (m + 2) g0 g1 g2 g3 t) (vY (m + 2) g0 g1 g2 g3 t) (vZ (m + 2) g0 g1 g2 g3 t) →
   (insW x y z num den (g1 k) (g2 k) (g3 k) = true → insW x y z num den (g1 (k + 1)) (g2 (k + 1)) (g3 (k + 1)) = true → insW x y z num den (vX (m + 2) g0 g1 g2 g3 t) (vY (m + 2) g0 g1 g2 g3 t) (vZ (m + 2) g0 g1 g2 g3 t) = true) ∧
   (mcW x y z num den (g1 k) (g2 k) (g3 k) (g1 (k + 1)) (g2 (k + 1)) (g3 (k + 1)) = false → insW x y z num den (vX (m + 2) g0 g1 g2 g3 t) (vY (m + 2) g0 g1 g2 g3 t) (vZ (m + 2) g0 g1 g2 g3 t) = false)) := by
 have hs := hk.sky
 have hA := hk.tiny k (by omega)
 have hB := hk.tiny (k + 1) hk1
 have rA := hs.ray k (by omega)
 have rB := hs.ray (k + 1) hk1
 have t0 : g0 0 ≤ t := by have := hs.le (Nat.zero_le k) (by omega); omega
 have t1 : t ≤ g0 (m + 1) := by have := hs.le (show k + 1 ≤ m + 1 by omega) (by omega); omega
 obtain ⟨s, r, hs0, hr0, hsr, hv⟩ := seg_v hs hk1 h1 h2
 have hne := sum_ne rA rB ho hs0 hr0 hsr
 have hnum := hk.cone.num0
 have hden := hk.cone.den0
 rcases vq_cases hs hk.tiny t0 (by rw [show m + 2 - 1 = m + 1 by omega]; exact t1) with ⟨_, _, _, a1, a2, a3⟩ | ⟨n1, n2, g, hg, r1, r2, r3⟩
 ·rw [hv] at a1 a2 a3
  exact absurd ⟨a1, a2, a3⟩ hne
 ·refine ⟨t0, t1, n1, n2, fun hb => ⟨fun i1 i2 => ?_, fun hm => ?_⟩⟩
  ·rw [hk.ins hb]
   have p1 := (hk.ins (hA.mono (by decide))).1 i1
   have p2 := (hk.ins (hB.mono (by decide))).1 i2
   have p := ins_add hnum (by omega) hs0 hr0 hsr p1 p2
   rw [← hv, ← hv, ← hv, r1, r2, r3] at p
   exact p.unscale hg
  ·rw [Bool.eq_false_iff]
   intro hi
   have p := ((hk.ins hb).1 hi).scale hg
   rw [← r1, ← r2, ← r3, hv, hv, hv] at p
   have hM := way_ins rA.2 rB.2 hs0 hr0 hnum (by omega) p
   rw [← (mc_iff hk.cone rA rB (hA.mono (by decide)) (hB.mono (by decide)) ho).2, hm] at hM
   cases hM
end
theorem k1_eq {k m : Nat} (hk : k ≤ m) (hm : m ≤ 1000) : k1Z k = ((k + 1 : Nat) : Int) ∧ k1N k = k + 1 ∧ ixN k = k := by
 have e : k1Z k = ((k + 1 : Nat) : Int) := wrap_succ (by omega)
 refine ⟨e, ?_, idx_nat k⟩
 unfold k1N
 rw [e]
 exact idx_nat _
section
variable {fl : Bool} {nm : ByteArray} {m : Nat} {g0 g1 g2 g3 : Nat → Int} {x y z num den : Int} (hk : QzK fl nm m g0 g1 g2 g3 x y z num den) (t0 wd : Int) (wn : Nat) (F : Nat → Nat)
include hk
theorem seg_loop {k : Nat} (hk1 : k + 1 < m + 2) (ho : oppW (g1 k) (g2 k) (g3 k) (g1 (k + 1)) (g2 (k + 1)) (g3 (k + 1)) = false) (i : Int) {p : Pq} (hp0 : p.b0 = g0 (k + 1)) (hp1 : p.i1 = insW x y z num den (g1 k) (g2 k) (g3 k)) (hp2 : p.i2 = insW x y z num den (g1 (k + 1)) (g2 (k + 1)) (g3 (k + 1))) (hp3 : p.mt = mcW x y z num den (g1 k) (g2 k) (g3 k) (g1 (k + 1)) (g2 (k + 1)) (g3 (k + 1))) :
  ComesF Tryz.prog (.loop (nthLoop qzC2 path3)) (qzB nm m g0 g1 g2 g3 x y z num den) (qzH3 fl fqT nm m g0 g1 g2 g3 x y z num den t0 wd wn F i p (g0 k)) fun q => ∃ t, q = (.exit 4, qzH3 fl fqT nm m g0 g1 g2 g3 x y z num den t0 wd wn F i p t) := by
 have hs := hk.sky
 have c1 := hs.tick k (by omega)
 have c2 := hs.tick (k + 1) hk1
 have key := comesF_loop (P := Tryz.prog) (c := nthLoop qzC2 path3) (sB := qzB nm m g0 g1 g2 g3 x y z num den) (ι := Nat) (fun j => qzH3 fl fqT nm m g0 g1 g2 g3 x y z num den t0 wd wn F i p (g0 k + (j : Int))) (fun j => (g0 (k + 1) - g0 k + 2).toNat - j) (fun j => g0 k + (j : Int) ≤ g0 (k + 1) + 1)
  (fun q => ∃ t, q = (.exit 4, qzH3 fl fqT nm m g0 g1 g2 g3 x y z num den t0 wd wn F i p t)) (fun j hj => ?_) 0 (by have := (hs.inc k hk1).1; omega)
 ·have e : g0 k + ((0 : Nat) : Int) = g0 k := by omega
  rw [e] at key
  exact key
 ·have hj : g0 k + (j : Int) ≤ g0 (k + 1) + 1 := hj
  refine comesF_roundS (reQ_ok fl) rfl qzV3 qzV3 (T := qzT3 fl fqT nm m g0 g1 g2 g3 x y z num den t0 wd wn F i p (g0 k + (j : Int))) (by delta qzT3; rfl) (qzT3_into fl fqT nm m g0 g1 g2 g3 x y z num den t0 wd wn F i p _) (qzT3_fits fl fqT nm m g0 g1 g2 g3 x y z num den t0 wd wn F i p _) ?_
  unfold qzS3
  refine sk_either (fun h => ?_) fun _ => sk_leaf ⟨_, rfl⟩
  rw [hp0] at h
  have h : g0 k + (j : Int) ≤ g0 (k + 1) := by simpa using h
  obtain ⟨d1, d2, d3, d4, d5⟩ := hk.seg hk1 ho (show g0 k ≤ g0 k + (j : Int) by omega) h
  have hN : ∀ {q : SkX}, q = qzN3 fl fqT nm m g0 g1 g2 g3 x y z num den t0 wd wn F i p (g0 k + (j : Int)) → SkLeads (fun p1 : X × St => match p1.1 with
    | .normal => ∃ y1 : Nat, p1.2.Le (qzH3 fl fqT nm m g0 g1 g2 g3 x y z num den t0 wd wn F i p (g0 k + (y1 : Int))) ∧ g0 k + (y1 : Int) ≤ g0 (k + 1) + 1 ∧ (g0 (k + 1) - g0 k + 2).toNat - y1 < (g0 (k + 1) - g0 k + 2).toNat - j
    | _ => ∃ t, p1 = (.exit 4, qzH3 fl fqT nm m g0 g1 g2 g3 x y z num den t0 wd wn F i p t)) q := fun {q} e => by
   subst e
   have hw : IntKind.i64.wrap (g0 k + (j : Int) + 1) = g0 k + ((j + 1 : Nat) : Int) := by rw [wrap_id (by omega) (by omega)]; omega
   unfold qzN3
   rw [hw]
   exact sk_leaf ⟨j + 1, St.Le.refl _, by omega, by omega⟩
  obtain ⟨k1, k2⟩ := hk.gd
  refine sk_need k1 (sk_need (okN_ok _) (sk_need ?_ (sk_ff (sk_no ?_ (sk_either (fun _ => hN rfl) fun hr => ?_)))))
  ·show (atOk skyE nm (m + 2) g0 g1 g2 g3 (g0 k + (j : Int)) && (noneE (vX (m + 2) g0 g1 g2 g3 (g0 k + (j : Int))) (vY (m + 2) g0 g1 g2 g3 (g0 k + (j : Int))) (vZ (m + 2) g0 g1 g2 g3 (g0 k + (j : Int))) == 0)) = true
   rw [hk.at d1 d2, noneE_zero d3]
   rfl
  ·show (qdirErr (vX (m + 2) g0 g1 g2 g3 (g0 k + (j : Int))) (vY (m + 2) g0 g1 g2 g3 (g0 k + (j : Int))) (vZ (m + 2) g0 g1 g2 g3 (g0 k + (j : Int))) != 0) = false
   rw [← dir_eq, dir_zero.2 ⟨d4.mono (by decide), d3⟩]
   rfl
  ·have hr : (qrayErr (vX (m + 2) g0 g1 g2 g3 (g0 k + (j : Int))) (vY (m + 2) g0 g1 g2 g3 (g0 k + (j : Int))) (vZ (m + 2) g0 g1 g2 g3 (g0 k + (j : Int))) != 0) = false := hr
   have hr : qrayErr (vX (m + 2) g0 g1 g2 g3 (g0 k + (j : Int))) (vY (m + 2) g0 g1 g2 g3 (g0 k + (j : Int))) (vZ (m + 2) g0 g1 g2 g3 (g0 k + (j : Int))) = 0 := by simpa using hr
   rw [← ray_eq, ray_zero] at hr
   obtain ⟨i1, i2⟩ := d5 hr.1
   have hM : ∀ {Φ : X × St → Prop}, SkLeads Φ (qzN3 fl fqT nm m g0 g1 g2 g3 x y z num den t0 wd wn F i p (g0 k + (j : Int))) → SkLeads Φ (qzM3 fl fqT nm m g0 g1 g2 g3 x y z num den t0 wd wn F i p (g0 k + (j : Int))) := fun {Φ} hN => by
    unfold qzM3
    refine sk_either (fun hm => sk_no ?_ hN) fun _ => sk_ff hN
    rw [hp3] at hm
    exact i2 (by simpa using hm)
   refine sk_need (hk.icK hr) (sk_ff (sk_either (fun h1 => sk_either (fun h2 => sk_no ?_ (hM (hN rfl))) fun _ => sk_ff (hM (hN rfl))) fun _ => sk_ff (sk_ff (hM (hN rfl)))))
   rw [hp1] at h1
   rw [hp2] at h2
   show (!insW x y z num den (vX (m + 2) g0 g1 g2 g3 (g0 k + (j : Int))) (vY (m + 2) g0 g1 g2 g3 (g0 k + (j : Int))) (vZ (m + 2) g0 g1 g2 g3 (g0 k + (j : Int)))) = false
   rw [i1 h1 h2]
   rfl
end
end Go.Ev
