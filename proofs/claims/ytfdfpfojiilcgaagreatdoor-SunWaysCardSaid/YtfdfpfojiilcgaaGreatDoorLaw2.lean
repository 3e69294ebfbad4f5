/- Plain laws of reduced vectors, reflected rays and cosines. Conditions: parts in the ranges that the checks ask. -/
import Derived.Test.YtfdfpfojiilcgaaGreatDoorTwice0
namespace Go.Ev
open Go

/-- p q r is the reduced vector of x y z -/
def Red (x y z p q r : Int) : Prop := ∃ g : Int, 0 < g ∧ x = g * p ∧ y = g * q ∧ z = g * r ∧ gcdN p q r = 1
theorem Red.bd {M : Nat} {x y z p q r : Int} (h : Red x y z p q r) (hb : Bd M x y z) : Bd M p q r := by
  obtain ⟨g, hg, rfl, rfl, rfl, _⟩ := h
  have key : ∀ a : Int, (g * a).natAbs ≤ M → a.natAbs ≤ M := fun a ha => by
    rw [Int.natAbs_mul] at ha
    exact Nat.le_trans (Nat.le_mul_of_pos_left _ (by omega)) ha
  exact ⟨key _ hb.1, key _ hb.2.1, key _ hb.2.2⟩
theorem Red.ne {x y z p q r : Int} (h : Red x y z p q r) : ¬ (p = 0 ∧ q = 0 ∧ r = 0) := by
  rintro ⟨rfl, rfl, rfl⟩
  obtain ⟨_, _, _, _, _, h⟩ := h
  simp [gcdN] at h
theorem Red.unique {x y z p q r x' y' z' p' q' r' l m : Int} (h : Red x y z p q r) (h' : Red x' y' z' p' q' r') (hl : 0 < l) (hm : 0 < m) (ex : l * x = m * x') (ey : l * y = m * y') (ez : l * z = m * z') : p = p' ∧ q = q' ∧ r = r' := by
  obtain ⟨g, hg, rfl, rfl, rfl, h1⟩ := h
  obtain ⟨k, hk, rfl, rfl, rfl, h2⟩ := h'
  have a1 : gcdN (l * (g * p)) (l * (g * q)) (l * (g * r)) = l.natAbs * g.natAbs := by rw [gcdN_mul, gcdN_mul, h1, Nat.mul_one]
  have a2 : gcdN (m * (k * p')) (m * (k * q')) (m * (k * r')) = m.natAbs * k.natAbs := by rw [gcdN_mul, gcdN_mul, h2, Nat.mul_one]
  rw [ex, ey, ez, a2] at a1
  rw [← Int.natAbs_mul, ← Int.natAbs_mul] at a1
  have hp' : 0 < m * k := Int.mul_pos hm hk
  have hp : 0 < l * g := Int.mul_pos hl hg
  have e : l * g = m * k := by omega
  have key : ∀ a b : Int, l * (g * a) = m * (k * b) → a = b := fun a b hab => by
    have : (l * g) * a = (l * g) * b := by rw [Int.mul_assoc, hab, e, Int.mul_assoc]
    exact Int.eq_of_mul_eq_mul_left (by omega) this
  exact ⟨key _ _ ex, key _ _ ey, key _ _ ez⟩
theorem Red.line {x y z p q r x' y' z' l m : Int} (h : Red x y z p q r) (hl : 0 < l) (hm : 0 < m) (ex : l * x' = m * x) (ey : l * y' = m * y) (ez : l * z' = m * z) : Red x' y' z' p q r := by
  have hne : ¬ (x' = 0 ∧ y' = 0 ∧ z' = 0) := by
    rintro ⟨rfl, rfl, rfl⟩
    obtain ⟨g, hg, rfl, rfl, rfl, h1⟩ := h
    have key : ∀ a : Int, l * 0 = m * (g * a) → a = 0 := fun a ha => by
      rw [Int.mul_zero] at ha
      rcases Int.mul_eq_zero.1 ha.symm with h | h
      · omega
      · rcases Int.mul_eq_zero.1 h with h | h
        · omega
        · exact h
    have e1 := key _ ex
    have e2 := key _ ey
    have e3 := key _ ez
    subst e1; subst e2; subst e3
    simp [gcdN] at h1
  have hp := gcdN_pos hne
  obtain ⟨⟨u, hx⟩, ⟨v, hy⟩, ⟨w, hz⟩⟩ := gcdN_dvd x' y' z'
  have h' : Red x' y' z' u v w := by
    refine ⟨(gcdN x' y' z' : Nat), by omega, hx, hy, hz, ?_⟩
    have := gcdN_mul (gcdN x' y' z' : Nat) u v w
    rw [← hx, ← hy, ← hz, Int.natAbs_natCast] at this
    exact Nat.eq_of_mul_eq_mul_left hp (by omega)
  obtain ⟨rfl, rfl, rfl⟩ := h'.unique h hl hm ex ey ez
  exact h'
theorem Red.neg {x y z p q r : Int} (h : Red x y z p q r) : Red (-x) (-y) (-z) (-p) (-q) (-r) := by
  obtain ⟨g, hg, rfl, rfl, rfl, h1⟩ := h
  exact ⟨g, hg, by grind, by grind, by grind, by simpa [gcdN] using h1⟩
theorem gcd3_eq (x y z : Int) : gcd3 x y z = (gcdN x y z : Int) := by
  unfold gcd3 gcdN
  simp only [Int.gcd_zero_left]
  rfl
theorem redA_of {M : Nat} {x y z p q r : Int} (hb : Bd M x y z) (hM : M ≤ 9223372036854775807) (h : Red x y z p q r) : redA x y z x = p ∧ redA x y z y = q ∧ redA x y z z = r := by
  have hpq := h.bd hb
  obtain ⟨g, hg, rfl, rfl, rfl, h1⟩ := h
  have e : gcd3 (g * p) (g * q) (g * r) = g := by
    rw [gcd3_eq, gcdN_mul, h1, Nat.mul_one]; omega
  have hz : (g == 0) = false := by rw [beq_eq_false_iff_ne]; omega
  unfold redA
  rw [e]
  unfold redW
  simp only [hz]
  rw [Int.mul_tdiv_cancel_left _ (by omega), Int.mul_tdiv_cancel_left _ (by omega), Int.mul_tdiv_cancel_left _ (by omega)]
  obtain ⟨b1, b2, b3⟩ := hpq
  exact ⟨w64_id (by omega), w64_id (by omega), w64_id (by omega)⟩
theorem red_ex {x y z : Int} (h : ¬ (x = 0 ∧ y = 0 ∧ z = 0)) : ∃ p q r, Red x y z p q r := by
  have hp := gcdN_pos h
  obtain ⟨⟨p, hx⟩, ⟨q, hy⟩, ⟨r, hz⟩⟩ := gcdN_dvd x y z
  refine ⟨p, q, r, (gcdN x y z : Nat), by omega, hx, hy, hz, ?_⟩
  have := gcdN_mul (gcdN x y z : Nat) p q r
  rw [← hx, ← hy, ← hz, Int.natAbs_natCast] at this
  exact Nat.eq_of_mul_eq_mul_left hp (by omega)
theorem Red.self {x y z p q r : Int} (h : Red x y z p q r) : Red p q r p q r := by
  obtain ⟨g, hg, rfl, rfl, rfl, h1⟩ := h
  exact ⟨1, by omega, by omega, by omega, by omega, h1⟩
/-- rdW: what Reduced returns -/
theorem rd_of {x y z p q r : Int} (hd : dirErr x y z = 0) (h : Red x y z p q r) : rdW x y z x = p ∧ rdW x y z y = q ∧ rdW x y z z = r := by
  unfold rdW
  rw [hd]
  exact redA_of (dir_zero.1 hd).1 (by decide) h

/-! ### small -/
theorem far_iff {x y z : Int} (h : Bd 4611686018427387904 x y z) : 4096 < farW x y z ↔ ¬ Bd 4096 x y z := by
  obtain ⟨h1, h2, h3⟩ := h
  unfold farW Bd
  rw [w64_id (n := 0 - x) (by omega), w64_id (n := 0 - y) (by omega), w64_id (n := 0 - z) (by omega)]
  simp only [max2_lt]
  omega
theorem small_of {M : Nat} {x y z p q r : Int} (hb : Bd M x y z) (hM : M ≤ 4611686018427387904) (h : Red x y z p q r) : (Bd 4096 p q r → smErr x y z = 0 ∧ smW x y z x = p ∧ smW x y z y = q ∧ smW x y z z = r) ∧ (¬ Bd 4096 p q r → smErr x y z = 4) := by
  obtain ⟨e1, e2, e3⟩ := redA_of hb (Nat.le_trans hM (by decide)) h
  have hf := far_iff ((h.bd hb).mono hM)
  unfold smW smErr only0
  rw [e1, e2, e3]
  refine ⟨fun hp => ?_, fun hp => ?_⟩
  · rw [decide_eq_false (by rw [hf]; simpa using hp)]
    exact ⟨rfl, rfl, rfl, rfl⟩
  · rw [decide_eq_true (hf.2 hp)]; rfl

/-! ### Reflected -/
def refl3 (D N a b : Int) : Int := (2 * D) * b + (0 - N) * a
theorem rf_of {ax ay az bx b2 bz p q r : Int} (ha : Ray ax ay az) (hb : Ray bx b2 bz)
    (h : Red (refl3 (ax * bx + ay * b2 + az * bz) (bx * bx + b2 * b2 + bz * bz) ax bx) (refl3 (ax * bx + ay * b2 + az * bz) (bx * bx + b2 * b2 + bz * bz) ay b2) (refl3 (ax * bx + ay * b2 + az * bz) (bx * bx + b2 * b2 + bz * bz) az bz) p q r) :
    (Bd 4096 p q r → rfE ax ay az bx b2 bz = 0 ∧ rfW ax ay az bx b2 bz ax bx = p ∧ rfW ax ay az bx b2 bz ay b2 = q ∧ rfW ax ay az bx b2 bz az bz = r) ∧ (¬ Bd 4096 p q r → rfE ax ay az bx b2 bz = 4) := by
  have h0 : raysErr ax ay az bx b2 bz = 0 := raysErr_zero.2 ⟨ha, hb⟩
  have f := fun {a b : Int} => fl_eq (M := 4096) (N := 4096) (a := a) (b := b) ha.1 hb.1 (by decide) (by decide)
  have f1 := f ha.1.1 hb.1.1
  have f2 := f ha.1.2.1 hb.1.2.1
  have f3 := f ha.1.2.2 hb.1.2.2
  have hs := small_of (M := 6 * (4096 * 4096) * 4096 + 3 * (4096 * 4096) * 4096) ⟨f1.2, f2.2, f3.2⟩ (by decide) (p := p) (q := q) (r := r) (by rw [f1.1, f2.1, f3.1]; exact h)
  unfold rfE rfW
  rw [h0]
  exact hs
theorem refl_ne {ax ay az bx b2 bz : Int} (ha : Ray ax ay az) (hb : Ray bx b2 bz) : ¬ (refl3 (ax * bx + ay * b2 + az * bz) (bx * bx + b2 * b2 + bz * bz) ax bx = 0 ∧ refl3 (ax * bx + ay * b2 + az * bz) (bx * bx + b2 * b2 + bz * bz) ay b2 = 0 ∧ refl3 (ax * bx + ay * b2 + az * bz) (bx * bx + b2 * b2 + bz * bz) az bz = 0) := by
  rintro ⟨h1, h2, h3⟩
  have pa := (ray_sq ha.1 ha.2).1
  have pb := (ray_sq hb.1 hb.2).1
  have : (bx * bx + b2 * b2 + bz * bz) * (bx * bx + b2 * b2 + bz * bz) * (ax * ax + ay * ay + az * az) = 0 := by
    unfold refl3 at h1 h2 h3
    grind
  have hp := Int.mul_pos (Int.mul_pos pb pb) pa
  omega

/-! ### Quotients -/
theorem rt_eq {k l n d n' d' : Int} (hk : 0 < k) (hl : 0 < l) (hd : 0 < d) (hd' : 0 < d') (hn : k * n = l * n') (he : k * d = l * d') (b1 : in63 n = true) (b2 : in63 d = true) (b3 : in63 n' = true) (b4 : in63 d' = true) : rtW n d n = rtW n' d' n' ∧ rtW n d d = rtW n' d' d' := by
  have g1 : Int.gcd (k * n) (k * d) = k.natAbs * Int.gcd n d := Int.gcd_mul_left ..
  have g2 : Int.gcd (l * n') (l * d') = l.natAbs * Int.gcd n' d' := Int.gcd_mul_left ..
  rw [hn, he, g2] at g1
  have p1 : 0 < Int.gcd n d := Nat.pos_of_ne_zero fun e => by rw [Int.gcd_eq_zero_iff] at e; omega
  have p2 : 0 < Int.gcd n' d' := Nat.pos_of_ne_zero fun e => by rw [Int.gcd_eq_zero_iff] at e; omega
  obtain ⟨u, hu⟩ : (Int.gcd n d : Int) ∣ n := Int.gcd_dvd_left ..
  obtain ⟨v, hv⟩ : (Int.gcd n d : Int) ∣ d := Int.gcd_dvd_right ..
  obtain ⟨u', hu'⟩ : (Int.gcd n' d' : Int) ∣ n' := Int.gcd_dvd_left ..
  obtain ⟨v', hv'⟩ : (Int.gcd n' d' : Int) ∣ d' := Int.gcd_dvd_right ..
  unfold rtW
  generalize hG : Int.gcd n d = G at *
  generalize hG' : Int.gcd n' d' = G' at *
  have e : k * (G : Int) = l * (G' : Int) := by
    have h1 : (k * (G : Int)).natAbs = k.natAbs * G := by rw [Int.natAbs_mul]; rfl
    have h2 : (l * (G' : Int)).natAbs = l.natAbs * G' := by rw [Int.natAbs_mul]; rfl
    have h3 : 0 < k * (G : Int) := Int.mul_pos hk (by omega)
    have h4 : 0 < l * (G' : Int) := Int.mul_pos hl (by omega)
    omega
  have h3 : 0 < k * (G : Int) := Int.mul_pos hk (by omega)
  have key : ∀ a b : Int, k * ((G : Int) * a) = l * ((G' : Int) * b) → a = b := fun a b hab => by
    have : (k * (G : Int)) * a = (k * (G : Int)) * b := by rw [Int.mul_assoc, hab, e, Int.mul_assoc]
    exact Int.eq_of_mul_eq_mul_left (by omega) this
  have eu : u = u' := key _ _ (by rw [← hu, ← hu']; exact hn)
  have ev : v = v' := key _ _ (by rw [← hv, ← hv']; exact he)
  rw [hu, hu', hv, hv', Int.mul_tdiv_cancel_left _ (by omega), Int.mul_tdiv_cancel_left _ (by omega), Int.mul_tdiv_cancel_left _ (by omega), Int.mul_tdiv_cancel_left _ (by omega), eu, ev]
  exact ⟨rfl, rfl⟩
theorem sign_eq {k l a b : Int} (hk : 0 < k) (hl : 0 < l) (h : k * a = l * b) : signW a = signW b := by
  have p : ∀ {k a : Int}, 0 < k → (0 < k * a ↔ 0 < a) := fun {k a} hk => by
    constructor
    · intro h
      rcases Int.lt_or_le 0 a with h' | h'
      · exact h'
      · have := Int.mul_nonpos_of_nonneg_of_nonpos (Int.le_of_lt hk) h'; omega
    · exact fun h => Int.mul_pos hk h
  have e1 : (0 < a) ↔ (0 < b) := by rw [← p hk, h, p hl]
  have e2 : (a < 0) ↔ (b < 0) := by
    have h' : k * (-a) = l * (-b) := by rw [Int.mul_neg, Int.mul_neg, h]
    have : (0 < -a) ↔ (0 < -b) := by rw [← p hk, h', p hl]
    omega
  unfold signW
  rw [decide_eq_decide.2 e1, decide_eq_decide.2 e2]
/-- the divisor of a reduced vector, as the reference takes it -/
theorem gcd1_one {p q r : Int} (h : gcdN p q r = 1) : gcd1 (gcd1 p q) r = 1 := by
  by_cases hp : p = 0 ∧ q = 0
  · obtain ⟨rfl, rfl⟩ := hp
    simp [gcd1]
  · have hne : ¬ (p = 0 ∧ q = 0 ∧ r = 0) := fun e => hp ⟨e.1, e.2.1⟩
    have e := qd_eq hne
    rw [h] at e
    unfold qd at e
    have h1 : ((p != 0) || (q != 0)) = true := by
      rw [Bool.or_eq_true]; simp only [bne_iff_ne]; omega
    rw [h1] at e
    exact e
/-- rays of one direction -/
theorem sam_of {x y z p q r : Int} {M : Nat} (hM : 3 * (M * M) ≤ 9223372036854775807) (h : Red x y z p q r) (hb : Bd M x y z) : samW p q r x y z = true := by
  have hb' := h.bd hb
  have hne := h.ne
  have hz := cross_zero (M := M) (by omega) hb' hb
  have hd := (dot_eq hb' hb hM).1
  unfold samW
  obtain ⟨g, hg, rfl, rfl, rfl, h1⟩ := h
  rw [Bool.and_eq_true]
  refine ⟨hz.2 ⟨by grind, by grind, by grind⟩, ?_⟩
  rw [hd, decide_eq_true_eq]
  have hs := Int.mul_pos hg (ray_sq hb' hne).1
  have : p * (g * p) + q * (g * q) + r * (g * r) = g * (p * p + q * q + r * r) := by grind
  omega
theorem tin_of {x y z : Int} (h : tinW x y z = true) : Ray x y z ∧ Bd 40 x y z := by
  unfold tinW at h
  rw [Bool.and_eq_true, beq_iff_eq, ← ray_eq, ray_zero, decide_eq_true_eq] at h
  obtain ⟨hr, hm⟩ := h
  refine ⟨hr, ?_⟩
  obtain ⟨h1, h2, h3⟩ := hr.1
  unfold maxW at hm
  rw [w64_id (n := 0 - x) (by omega), w64_id (n := 0 - y) (by omega), w64_id (n := 0 - z) (by omega)] at hm
  have hm' : ¬ (40 < max2 (max2 (max2 (max2 (max2 x (0 - x)) y) (0 - y)) z) (0 - z)) := by omega
  simp only [max2_lt] at hm'
  unfold Bd
  omega
theorem tiny_of {x y z : Int} (hr : Ray x y z) (hb : Bd 40 x y z) : tinW x y z = true := by
  unfold tinW
  rw [Bool.and_eq_true, beq_iff_eq, ← ray_eq, ray_zero, decide_eq_true_eq]
  refine ⟨hr, ?_⟩
  obtain ⟨h1, h2, h3⟩ := hb
  unfold maxW
  rw [w64_id (n := 0 - x) (by omega), w64_id (n := 0 - y) (by omega), w64_id (n := 0 - z) (by omega)]
  have hm' : ¬ (40 < max2 (max2 (max2 (max2 (max2 x (0 - x)) y) (0 - y)) z) (0 - z)) := by
    simp only [max2_lt]; omega
  omega
end Go.Ev
