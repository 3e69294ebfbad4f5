/- Plain laws of rays, cones and turns: the program's formulas and the reference's come to the same. Conditions: parts of vectors in the ranges that the checks ask. -/
import Derived.Test.YtfdfpfojiilcgaaGreatDoorVec3
namespace Go.Ev
open Go

theorem w64_id {n : Int} (h : n.natAbs ≤ 9223372036854775807) : w64 n = n := wrap_id (by omega) (by omega)
theorem mul_bd {a b : Int} {s t : Nat} (ha : a.natAbs ≤ s) (hb : b.natAbs ≤ t) : (a * b).natAbs ≤ s * t := by
  rw [Int.natAbs_mul]; exact Nat.mul_le_mul ha hb
theorem sq_nonneg (a : Int) : 0 ≤ a * a := by
  rcases Int.le_total 0 a with h | h
  · exact Int.mul_nonneg h h
  · have := Int.mul_nonneg_of_nonpos_of_nonpos h h; exact this
theorem sq_pos {a : Int} (h : a ≠ 0) : 0 < a * a := by
  have h1 := sq_nonneg a
  have h2 : a * a ≠ 0 := Int.mul_ne_zero h h
  omega

/-! ### Errors -/
theorem firstZ_zero : ∀ {l : List Int}, firstZ l = 0 ↔ ∀ a ∈ l, a = 0
  | [] => by simp [firstZ]
  | a :: l => by
    unfold firstZ
    cases h : a != 0 with
    | true =>
      have h : a ≠ 0 := by simpa using h
      simp [h]
    | false =>
      have h : a = 0 := by simpa using h
      simp [h, firstZ_zero]
theorem firstZ_cons0 {l : List Int} : firstZ (0 :: l) = firstZ l := rfl
theorem firstZ_cons1 {a : Int} {l : List Int} (h : a ≠ 0) : firstZ (a :: l) = a := by
  have : (a != 0) = true := by simpa using h
  simp [firstZ, this]
theorem errIf_zero {b : Bool} {e : Int} (he : e ≠ 0) : errIf b e = 0 ↔ b = false := by cases b <;> simp [errIf, he]
theorem wW_zero {n lo hi : Int} : wW n lo hi = 0 ↔ lo ≤ n ∧ n ≤ hi := by
  unfold wW
  rw [errIf_zero (by decide)]
  simp only [Bool.or_eq_false_iff, decide_eq_false_iff_not]
  omega
/-- parts up to a greatest absolute value -/
def Bd (m : Nat) (x y z : Int) : Prop := x.natAbs ≤ m ∧ y.natAbs ≤ m ∧ z.natAbs ≤ m
theorem vecErr_zero {x y z : Int} : vecErr x y z = 0 ↔ Bd 1048576 x y z := by
  unfold vecErr Bd
  rw [firstZ_zero]
  simp only [List.mem_cons, List.not_mem_nil, or_false, forall_eq_or_imp, forall_eq, wW_zero]
  omega
theorem z3_iff {x y z : Int} : z3 x y z = true ↔ x = 0 ∧ y = 0 ∧ z = 0 := by simp [z3]
theorem max2_lt {m a b : Int} : m < max2 a b ↔ m < a ∨ m < b := by unfold max2; split <;> omega
theorem far_lt {x y z : Int} (h : Bd 1048576 x y z) {m : Int} (hm : 0 ≤ m) : m < farW x y z ↔ ¬ (x.natAbs ≤ m ∧ y.natAbs ≤ m ∧ z.natAbs ≤ m) := by
  obtain ⟨h1, h2, h3⟩ := h
  unfold farW
  rw [w64_id (n := 0 - x) (by omega), w64_id (n := 0 - y) (by omega), w64_id (n := 0 - z) (by omega)]
  simp only [max2_lt]
  omega
theorem farErr_eq {x y z : Int} (h : Bd 1048576 x y z) {m : Int} (hm : 0 ≤ m) (hm' : m ≤ 1048576) : farErr x y z m = errIf (decide (m < farW x y z)) 3 := by
  have hw : ∀ n : Int, wW n (w64 (0 - m)) m = errIf (decide (¬ n.natAbs ≤ m)) 3 := fun n => by
    rw [w64_id (n := 0 - m) (by omega)]
    unfold wW
    congr 1
    by_cases h : (n.natAbs : Int) ≤ m
    · rw [decide_eq_false (by omega : ¬ n < 0 - m), decide_eq_false (by omega : ¬ m < n), decide_eq_false (by simpa using h)]; rfl
    · rw [decide_eq_true h]
      by_cases h' : m < n
      · rw [decide_eq_true h', Bool.or_true]
      · rw [decide_eq_true (by omega : n < 0 - m), Bool.true_or]
  unfold farErr
  rw [hw x, hw y, hw z]
  have hd : decide (m < farW x y z) = (decide (¬ (x.natAbs : Int) ≤ m) || (decide (¬ (y.natAbs : Int) ≤ m) || decide (¬ (z.natAbs : Int) ≤ m))) := by
    rw [Bool.eq_iff_iff]
    simp only [Bool.or_eq_true, decide_eq_true_eq, far_lt h hm]
    omega
  rw [hd]
  cases decide (¬ (x.natAbs : Int) ≤ m) <;> cases decide (¬ (y.natAbs : Int) ≤ m) <;> cases decide (¬ (z.natAbs : Int) ≤ m) <;> rfl
theorem dir_eq (x y z : Int) : dirErr x y z = qdirErr x y z := by
  unfold dirErr qdirErr
  cases h : vecErr x y z != 0 with
  | true => exact firstZ_cons1 (by simpa using h)
  | false =>
    have h : vecErr x y z = 0 := by simpa using h
    rw [h]
    cases z3 x y z <;> rfl
theorem dir_zero {x y z : Int} : dirErr x y z = 0 ↔ Bd 1048576 x y z ∧ ¬ (x = 0 ∧ y = 0 ∧ z = 0) := by
  unfold dirErr
  rw [firstZ_zero]
  simp only [List.mem_cons, List.not_mem_nil, or_false, forall_eq_or_imp, forall_eq, vecErr_zero, errIf_zero (show (6 : Int) ≠ 0 by decide)]
  rw [← z3_iff, Bool.not_eq_true]
theorem ray_eq (x y z : Int) : rayErr x y z = qrayErr x y z := by
  unfold rayErr qrayErr
  rw [← dir_eq]
  by_cases h : dirErr x y z = 0
  · rw [h, firstZ_cons0, firstZ_cons0, farErr_eq (dir_zero.1 h).1 (by decide) (by decide)]
  · rw [firstZ_cons1 h, firstZ_cons1 h]
/-- a ray: not 0, parts up to 4096 -/
def Ray (x y z : Int) : Prop := Bd 4096 x y z ∧ ¬ (x = 0 ∧ y = 0 ∧ z = 0)
theorem Bd.mono {m n : Nat} {x y z : Int} (h : Bd m x y z) (hmn : m ≤ n) : Bd n x y z := ⟨by have := h.1; omega, by have := h.2.1; omega, by have := h.2.2; omega⟩
theorem ray_zero {x y z : Int} : rayErr x y z = 0 ↔ Ray x y z := by
  unfold rayErr Ray
  rw [firstZ_zero]
  simp only [List.mem_cons, List.not_mem_nil, or_false, forall_eq_or_imp, forall_eq, dir_zero, errIf_zero (show (3 : Int) ≠ 0 by decide), decide_eq_false_iff_not]
  constructor
  · rintro ⟨⟨h1, h2⟩, h3⟩
    rw [far_lt h1 (by decide), Decidable.not_not] at h3
    exact ⟨⟨by have := h3.1; omega, by have := h3.2.1; omega, by have := h3.2.2; omega⟩, h2⟩
  · rintro ⟨h1, h2⟩
    refine ⟨⟨h1.mono (by decide), h2⟩, ?_⟩
    rw [far_lt (h1.mono (by decide)) (by decide), Decidable.not_not]
    exact ⟨by have := h1.1; omega, by have := h1.2.1; omega, by have := h1.2.2; omega⟩
theorem cone_eq (x y z num den : Int) : coneErr x y z num den = qconeErr x y z num den := by unfold coneErr qconeErr; rw [ray_eq]
theorem Ray.in3 {x y z : Int} (h : Ray x y z) : in3 x y z = true := by
  obtain ⟨⟨h1, h2, h3⟩, _⟩ := h
  unfold Ev.in3
  rw [Bool.and_eq_true, Bool.and_eq_true, in63_iff, in63_iff, in63_iff]
  omega

/-! ### Products -/
theorem dot_eq {M N : Nat} {ax ay az bx b2 bz : Int} (ha : Bd M ax ay az) (hb : Bd N bx b2 bz) (h : 3 * (M * N) ≤ 9223372036854775807) : dotW ax ay az bx b2 bz = ax * bx + ay * b2 + az * bz ∧ (ax * bx + ay * b2 + az * bz).natAbs ≤ 3 * (M * N) := by
  have h1 := mul_bd ha.1 hb.1
  have h2 := mul_bd ha.2.1 hb.2.1
  have h3 := mul_bd ha.2.2 hb.2.2
  unfold dotW
  generalize ax * bx = p at h1 ⊢
  generalize ay * b2 = q at h2 ⊢
  generalize az * bz = r at h3 ⊢
  generalize M * N = k at h h1 h2 h3 ⊢
  rw [w64_id (n := p) (by omega), w64_id (n := q) (by omega), w64_id (n := r) (by omega), w64_id (n := p + q) (by omega), w64_id (by omega)]
  exact ⟨rfl, by omega⟩
theorem diff_eq {M N : Nat} {a b c d : Int} (ha : a.natAbs ≤ M) (hb : b.natAbs ≤ N) (hc : c.natAbs ≤ M) (hd : d.natAbs ≤ N) (h : 2 * (M * N) ≤ 9223372036854775807) : w64 (w64 (a * b) - w64 (c * d)) = a * b - c * d ∧ (a * b - c * d).natAbs ≤ 2 * (M * N) := by
  have h1 := mul_bd ha hb
  have h2 := mul_bd hc hd
  generalize a * b = p at h1 ⊢
  generalize c * d = q at h2 ⊢
  generalize M * N = k at h h1 h2 ⊢
  rw [w64_id (n := p) (by omega), w64_id (n := q) (by omega), w64_id (by omega)]
  exact ⟨rfl, by omega⟩
theorem cross_zero {M : Nat} (hM : 2 * (M * M) ≤ 9223372036854775807) {ax ay az bx b2 bz : Int} (ha : Bd M ax ay az) (hb : Bd M bx b2 bz) :
    z3 (crX ax ay az bx b2 bz) (crY ax ay az bx b2 bz) (crZ ax ay az bx b2 bz) = true ↔ ay * bz - az * b2 = 0 ∧ az * bx - ax * bz = 0 ∧ ax * b2 - ay * bx = 0 := by
  rw [z3_iff]
  unfold crX crY crZ
  rw [(diff_eq ha.2.1 hb.2.2 ha.2.2 hb.2.1 hM).1, (diff_eq ha.2.2 hb.1 ha.1 hb.2.2 hM).1, (diff_eq ha.1 hb.2.1 ha.2.1 hb.1 hM).1]

/-! ### Reduced vectors -/
def gcdN (x y z : Int) : Nat := Nat.gcd (Nat.gcd x.natAbs y.natAbs) z.natAbs
theorem gcdN_mul (k x y z : Int) : gcdN (k * x) (k * y) (k * z) = k.natAbs * gcdN x y z := by
  unfold gcdN
  rw [Int.natAbs_mul, Int.natAbs_mul, Int.natAbs_mul, Nat.gcd_mul_left, Nat.gcd_mul_left]
theorem gcdN_pos {x y z : Int} (h : ¬ (x = 0 ∧ y = 0 ∧ z = 0)) : 0 < gcdN x y z := by
  unfold gcdN
  rcases Nat.eq_zero_or_pos (Nat.gcd (Nat.gcd x.natAbs y.natAbs) z.natAbs) with h0 | h0
  · rw [Nat.gcd_eq_zero_iff, Nat.gcd_eq_zero_iff] at h0
    exact absurd ⟨by omega, by omega, by omega⟩ h
  · exact h0
theorem dvdN {n : Nat} {x : Int} (h : n ∣ x.natAbs) : (n : Int) ∣ x := Int.dvd_natAbs.1 (Int.natCast_dvd_natCast.2 h)
theorem gcdN_dvd (x y z : Int) : (gcdN x y z : Int) ∣ x ∧ (gcdN x y z : Int) ∣ y ∧ (gcdN x y z : Int) ∣ z := by
  unfold gcdN
  have h1 : Nat.gcd (Nat.gcd x.natAbs y.natAbs) z.natAbs ∣ Nat.gcd x.natAbs y.natAbs := Nat.gcd_dvd_left _ _
  exact ⟨dvdN (Nat.dvd_trans h1 (Nat.gcd_dvd_left _ _)), dvdN (Nat.dvd_trans h1 (Nat.gcd_dvd_right _ _)), dvdN (Nat.gcd_dvd_right _ _)⟩
theorem qd_eq {x y z : Int} (h : ¬ (x = 0 ∧ y = 0 ∧ z = 0)) : qd x y z = gcdN x y z := by
  unfold qd gcdN gcd1
  by_cases hx : x = 0 ∧ y = 0
  · obtain ⟨rfl, rfl⟩ := hx
    have hz : z ≠ 0 := fun e => h ⟨rfl, rfl, e⟩
    have : (z.natAbs == 0) = false := by simpa using hz
    simp [this]
  · have h1 : ((x != 0) || (y != 0)) = true := by
      rw [Bool.or_eq_true]; simp only [bne_iff_ne]; omega
    have h2 : (Int.gcd x y == 0) = false := by
      rw [beq_eq_false_iff_ne]
      intro e
      rw [Int.gcd_eq_zero_iff] at e
      exact hx e
    rw [h1, h2]
    have h3 : (Int.gcd (Int.gcd x y : Int) z == 0) = false := by
      rw [beq_eq_false_iff_ne]
      intro e
      rw [Int.gcd_eq_zero_iff] at e
      have := e.1
      have h4 : ¬ Int.gcd x y = 0 := by simpa using h2
      omega
    rw [h3]
    rfl
/-- a part of a reduced vector, times the divisor, is the part; it is not greater -/
theorem qred_mul {x y z : Int} (h : ¬ (x = 0 ∧ y = 0 ∧ z = 0)) (hb : Bd 1048576 x y z) {a : Int} (ha : a = x ∨ a = y ∨ a = z) : (gcdN x y z : Int) * qred x y z a = a ∧ (qred x y z a).natAbs ≤ a.natAbs := by
  obtain ⟨d1, d2, d3⟩ := gcdN_dvd x y z
  have hpos := gcdN_pos h
  have hd : (gcdN x y z : Int) ∣ a := by rcases ha with rfl | rfl | rfl <;> assumption
  have hab : a.natAbs ≤ 1048576 := by obtain ⟨h1, h2, h3⟩ := hb; rcases ha with rfl | rfl | rfl <;> assumption
  unfold qred
  rw [qd_eq h]
  generalize gcdN x y z = d at hd hpos
  obtain ⟨k, rfl⟩ := hd
  rw [Int.mul_tdiv_cancel_left _ (by omega)]
  have hk : k.natAbs ≤ ((d : Int) * k).natAbs := by
    rw [Int.natAbs_mul]
    exact Nat.le_mul_of_pos_left _ (by omega)
  rw [w64_id (by omega)]
  exact ⟨rfl, hk⟩

/-- the parts of two vectors of one line -/
theorem line_red {n m da db a b p q : Int} (hn : 0 < n * db) (h1 : n * b = m * a) (hg : n * db = m * da) (ha : da * p = a) (hb : db * q = b) : q = p := by
  have h : (n * db) * q = (n * db) * p := by
    rw [Int.mul_assoc, hb, h1, ← ha, hg]; simp only [Int.mul_assoc]
  exact Int.eq_of_mul_eq_mul_left (by omega) h

theorem nsq_pos {x y z : Int} (h : ¬ (x = 0 ∧ y = 0 ∧ z = 0)) : 0 < x * x + y * y + z * z := by
  have h1 := sq_nonneg x
  have h2 := sq_nonneg y
  have h3 := sq_nonneg z
  by_cases hx : x = 0
  · by_cases hy : y = 0
    · have := sq_pos (fun e => h ⟨hx, hy, e⟩ : z ≠ 0); omega
    · have := sq_pos hy; omega
  · have := sq_pos hx; omega

theorem e3_iff {a b c d e f : Int} : e3 a b c d e f = true ↔ a = d ∧ b = e ∧ c = f := by simp [e3]

theorem dir_cases {ax ay az bx b2 bz : Int} (ha : ¬ (ax = 0 ∧ ay = 0 ∧ az = 0)) (hb : ¬ (bx = 0 ∧ b2 = 0 ∧ bz = 0)) (hA : Bd 1048576 ax ay az) (hB : Bd 1048576 bx b2 bz) (s : Int) (hs : s = 1 ∨ s = -1) :
    (qred ax ay az ax = s * qred bx b2 bz bx ∧ qred ax ay az ay = s * qred bx b2 bz b2 ∧ qred ax ay az az = s * qred bx b2 bz bz) ↔
    (ay * bz - az * b2 = 0 ∧ az * bx - ax * bz = 0 ∧ ax * b2 - ay * bx = 0) ∧ 0 < s * (ax * bx + ay * b2 + az * bz) := by
  obtain ⟨a1, _⟩ := qred_mul ha hA (a := ax) (.inl rfl)
  obtain ⟨a2, _⟩ := qred_mul ha hA (a := ay) (.inr (.inl rfl))
  obtain ⟨a3, _⟩ := qred_mul ha hA (a := az) (.inr (.inr rfl))
  obtain ⟨b1, _⟩ := qred_mul hb hB (a := bx) (.inl rfl)
  obtain ⟨b2', _⟩ := qred_mul hb hB (a := b2) (.inr (.inl rfl))
  obtain ⟨b3, _⟩ := qred_mul hb hB (a := bz) (.inr (.inr rfl))
  have pa := gcdN_pos ha
  have pb := gcdN_pos hb
  have na := nsq_pos ha
  have hgm := gcdN_mul
  constructor
  · rintro ⟨e1, e2, e3⟩
    generalize hp1 : qred bx b2 bz bx = p1 at *
    generalize hp2 : qred bx b2 bz b2 = p2 at *
    generalize hp3 : qred bx b2 bz bz = p3 at *
    rw [e1] at a1
    rw [e2] at a2
    rw [e3] at a3
    generalize gcdN ax ay az = da at *
    generalize gcdN bx b2 bz = db at *
    have hne : ¬ (p1 = 0 ∧ p2 = 0 ∧ p3 = 0) := by
      rintro ⟨rfl, rfl, rfl⟩
      exact hb ⟨by rw [← b1]; simp, by rw [← b2']; simp, by rw [← b3]; simp⟩
    have np := nsq_pos hne
    subst a1; subst a2; subst a3; subst b1; subst b2'; subst b3
    refine ⟨⟨by grind, by grind, by grind⟩, ?_⟩
    have hss : s * s = 1 := by rcases hs with rfl | rfl <;> rfl
    have h1 : s * ((da : Int) * (s * p1) * ((db : Int) * p1) + (da : Int) * (s * p2) * ((db : Int) * p2) + (da : Int) * (s * p3) * ((db : Int) * p3)) = (s * s) * ((da : Int) * db * (p1 * p1 + p2 * p2 + p3 * p3)) := by grind
    rw [h1, hss, Int.one_mul]
    exact Int.mul_pos (Int.mul_pos (by omega) (by omega)) np
  · rintro ⟨⟨c1, c2, c3⟩, hpos⟩
    -- n b = m a
    have k1 : (ax * ax + ay * ay + az * az) * bx = (ax * bx + ay * b2 + az * bz) * ax := by grind
    have k2 : (ax * ax + ay * ay + az * az) * b2 = (ax * bx + ay * b2 + az * bz) * ay := by grind
    have k3 : (ax * ax + ay * ay + az * az) * bz = (ax * bx + ay * b2 + az * bz) * az := by grind
    generalize ax * ax + ay * ay + az * az = n at na k1 k2 k3
    generalize hm : ax * bx + ay * b2 + az * bz = m at hpos k1 k2 k3
    have g1 : gcdN (n * bx) (n * b2) (n * bz) = gcdN (m * ax) (m * ay) (m * az) := by rw [k1, k2, k3]
    rw [gcdN_mul, gcdN_mul] at g1
    have hg : n * (gcdN bx b2 bz : Int) = (s * m) * (gcdN ax ay az : Int) := by
      have h2 : (n.natAbs : Int) = n := by omega
      have h3 : (m.natAbs : Int) = s * m := by rcases hs with rfl | rfl <;> omega
      have h4 : ((n.natAbs * gcdN bx b2 bz : Nat) : Int) = ((m.natAbs * gcdN ax ay az : Nat) : Int) := by rw [g1]
      rw [Int.natCast_mul, Int.natCast_mul, h2, h3] at h4
      exact h4
    have hn : 0 < n * (gcdN bx b2 bz : Int) := Int.mul_pos na (by omega)
    have hss : s * s = 1 := by rcases hs with rfl | rfl <;> rfl
    have fin : ∀ {a b p q : Int}, n * b = m * a → (gcdN ax ay az : Int) * p = a → (gcdN bx b2 bz : Int) * q = b → p = s * q := fun {a b p q} hk hp hq => by
      have h5 : n * b = (s * m) * (s * a) := by
        have : (s * m) * (s * a) = (s * s) * (m * a) := by grind
        rw [this, hss, Int.one_mul, hk]
      have h6 : (gcdN ax ay az : Int) * (s * p) = s * a := by rw [← hp]; grind
      have h7 : q = s * p := line_red hn h5 hg h6 hq
      rw [h7]
      have : s * (s * p) = (s * s) * p := by grind
      rw [this, hss, Int.one_mul]
    exact ⟨fin k1 a1 b1, fin k2 a2 b2', fin k3 a3 b3⟩

theorem dot_bd {ax ay az bx b2 bz : Int} (hA : Bd 1048576 ax ay az) (hB : Bd 1048576 bx b2 bz) : dotW ax ay az bx b2 bz = ax * bx + ay * b2 + az * bz := (dot_eq hA hB (by decide)).1
theorem same_eq {ax ay az bx b2 bz : Int} (ha : ¬ (ax = 0 ∧ ay = 0 ∧ az = 0)) (hb : ¬ (bx = 0 ∧ b2 = 0 ∧ bz = 0)) (hA : Bd 1048576 ax ay az) (hB : Bd 1048576 bx b2 bz) : samW ax ay az bx b2 bz = qsame ax ay az bx b2 bz := by
  rw [Bool.eq_iff_iff]
  unfold samW qsame
  rw [Bool.and_eq_true, cross_zero (by decide) hA hB, decide_eq_true_eq, dot_bd hA hB, e3_iff]
  have := dir_cases ha hb hA hB 1 (.inl rfl)
  simp only [Int.one_mul] at this
  exact this.symm
theorem opp_eq {ax ay az bx b2 bz : Int} (ha : ¬ (ax = 0 ∧ ay = 0 ∧ az = 0)) (hb : ¬ (bx = 0 ∧ b2 = 0 ∧ bz = 0)) (hA : Bd 1048576 ax ay az) (hB : Bd 1048576 bx b2 bz) : oppW ax ay az bx b2 bz = qopp ax ay az bx b2 bz := by
  rw [Bool.eq_iff_iff]
  unfold oppW qopp
  obtain ⟨_, b1⟩ := qred_mul hb hB (a := bx) (.inl rfl)
  obtain ⟨_, b2'⟩ := qred_mul hb hB (a := b2) (.inr (.inl rfl))
  obtain ⟨_, b3⟩ := qred_mul hb hB (a := bz) (.inr (.inr rfl))
  have hB1 := hB.1
  have hB2 := hB.2.1
  have hB3 := hB.2.2
  rw [Bool.and_eq_true, cross_zero (by decide) hA hB, decide_eq_true_eq, dot_bd hA hB, e3_iff, w64_id (n := qred bx b2 bz bx * -1) (by omega), w64_id (n := qred bx b2 bz b2 * -1) (by omega), w64_id (n := qred bx b2 bz bz * -1) (by omega)]
  have := dir_cases ha hb hA hB (-1) (.inr rfl)
  simp only [Int.neg_mul, Int.one_mul] at this
  rw [show (0 < -(ax * bx + ay * b2 + az * bz)) ↔ (ax * bx + ay * b2 + az * bz < 0) by omega] at this
  rw [← this]
  constructor <;> (rintro ⟨h1, h2, h3⟩; exact ⟨by omega, by omega, by omega⟩)

/-! ### Turns, and the way -/
theorem turn_eq {x y z ax ay az bx b2 bz : Int} (hx : Bd 1048576 x y z) (ha : ¬ (ax = 0 ∧ ay = 0 ∧ az = 0)) (hb : ¬ (bx = 0 ∧ b2 = 0 ∧ bz = 0)) (hA : Bd 1048576 ax ay az) (hB : Bd 1048576 bx b2 bz) :
    turnErr x y z ax ay az bx b2 bz = qturnErr x y z ax ay az bx b2 bz := by
  unfold turnErr qturnErr
  rw [farErr_eq hx (by decide) (by decide), farErr_eq hA (by decide) (by decide), farErr_eq hB (by decide) (by decide), opp_eq ha hb hA hB]
  cases decide (256 < farW x y z) <;> cases decide (256 < farW ax ay az) <;> cases decide (256 < farW bx b2 bz) <;> cases qopp ax ay az bx b2 bz <;> rfl
theorem turn_zero {x y z ax ay az bx b2 bz : Int} (hx : Bd 1048576 x y z) (hA : Bd 1048576 ax ay az) (hB : Bd 1048576 bx b2 bz) (h : turnErr x y z ax ay az bx b2 bz = 0) : Bd 256 x y z ∧ Bd 256 ax ay az ∧ Bd 256 bx b2 bz ∧ oppW ax ay az bx b2 bz = false := by
  unfold turnErr at h
  rw [firstZ_zero] at h
  simp only [List.mem_cons, List.not_mem_nil, or_false, forall_eq_or_imp, forall_eq, errIf_zero (show (3 : Int) ≠ 0 by decide), errIf_zero (show (1 : Int) ≠ 0 by decide), Bool.or_eq_false_iff, decide_eq_false_iff_not] at h
  obtain ⟨⟨h1, h2, h3⟩, h4⟩ := h
  rw [far_lt hx (by decide), Decidable.not_not] at h1
  rw [far_lt hA (by decide), Decidable.not_not] at h2
  rw [far_lt hB (by decide), Decidable.not_not] at h3
  refine ⟨⟨?_, ?_, ?_⟩, ⟨?_, ?_, ?_⟩, ⟨?_, ?_, ?_⟩, h4⟩ <;> omega
theorem btwA_zero {ax ay az bx b2 bz : Int} (ha : ¬ (ax = 0 ∧ ay = 0 ∧ az = 0)) (hb : ¬ (bx = 0 ∧ b2 = 0 ∧ bz = 0)) (hA : Bd 256 ax ay az) (hB : Bd 256 bx b2 bz) (ho : oppW ax ay az bx b2 bz = false) : (btwA ax ay az bx b2 bz == 0) = samW ax ay az bx b2 bz := by
  have hA' := hA.mono (show 256 ≤ 1048576 by decide)
  have hB' := hB.mono (show 256 ≤ 1048576 by decide)
  have c0 := cross_zero (show 2 * (1048576 * 1048576) ≤ 9223372036854775807 by decide) hA' hB'
  obtain ⟨d1, n1⟩ := dot_eq hA hA (by decide)
  obtain ⟨d2, n2⟩ := dot_eq hB hB (by decide)
  obtain ⟨d3, n3⟩ := dot_eq hA hB (by decide)
  have hall : btwA ax ay az bx b2 bz = (ay * bz - az * b2) * (ay * bz - az * b2) + (az * bx - ax * bz) * (az * bx - ax * bz) + (ax * b2 - ay * bx) * (ax * b2 - ay * bx) := by
    unfold btwA
    rw [d1, d2, d3, (diff_eq n1 n2 n3 n3 (by decide)).1]
    grind
  have hlag : (ax * ax + ay * ay + az * az) * (bx * bx + b2 * b2 + bz * bz) = (ax * bx + ay * b2 + az * bz) * (ax * bx + ay * b2 + az * bz) + ((ay * bz - az * b2) * (ay * bz - az * b2) + (az * bx - ax * bz) * (az * bx - ax * bz) + (ax * b2 - ay * bx) * (ax * b2 - ay * bx)) := by grind
  rw [Bool.eq_iff_iff]
  unfold samW
  unfold oppW at ho
  rw [Bool.and_eq_true, beq_iff_eq, hall, decide_eq_true_eq, c0, d3]
  rw [Bool.and_eq_false_iff] at ho
  rw [← Bool.not_eq_true, c0, decide_eq_false_iff_not, d3] at ho
  have s1 := sq_nonneg (ay * bz - az * b2)
  have s2 := sq_nonneg (az * bx - ax * bz)
  have s3 := sq_nonneg (ax * b2 - ay * bx)
  constructor
  · intro h
    have e1 : ay * bz - az * b2 = 0 := by
      by_cases e : ay * bz - az * b2 = 0
      · exact e
      · have := sq_pos e; omega
    have e2 : az * bx - ax * bz = 0 := by
      by_cases e : az * bx - ax * bz = 0
      · exact e
      · have := sq_pos e; omega
    have e3 : ax * b2 - ay * bx = 0 := by
      by_cases e : ax * b2 - ay * bx = 0
      · exact e
      · have := sq_pos e; omega
    refine ⟨⟨e1, e2, e3⟩, ?_⟩
    have hno : ¬ ax * bx + ay * b2 + az * bz < 0 := ho.resolve_left (fun hn => hn ⟨e1, e2, e3⟩)
    have hne : ax * bx + ay * b2 + az * bz ≠ 0 := fun e => by
      rw [h, e] at hlag
      have := Int.mul_pos (nsq_pos ha) (nsq_pos hb)
      omega
    omega
  · rintro ⟨⟨e1, e2, e3⟩, _⟩
    rw [e1, e2, e3]; rfl
/-- the way between two turns meets a cone: both formulas -/
theorem meet_eq {x y z num den ax ay az bx b2 bz : Int} (hx : Bd 1048576 x y z) (ha : ¬ (ax = 0 ∧ ay = 0 ∧ az = 0)) (hb : ¬ (bx = 0 ∧ b2 = 0 ∧ bz = 0)) (hA : Bd 1048576 ax ay az) (hB : Bd 1048576 bx b2 bz) (h : turnErr x y z ax ay az bx b2 bz = 0) :
    (insW x y z num den ax ay az || (insW x y z num den bx b2 bz || btwW x y z num den ax ay az bx b2 bz)) = qmeet x y z num den ax ay az bx b2 bz := by
  obtain ⟨_, h2, h3, h4⟩ := turn_zero hx hA hB h
  unfold btwW qmeet
  rw [btwA_zero ha hb h2 h3 h4, same_eq ha hb hA hB, Int.mul_comm den]
  have hle : ∀ t : Int, (!decide (t ≤ 0)) = decide (0 < t) := fun t => by
    by_cases h : t ≤ 0
    · rw [decide_eq_true h, decide_eq_false (by omega)]; rfl
    · rw [decide_eq_false h, decide_eq_true (by omega)]; rfl
  rw [hle, hle]
end Go.Ev
