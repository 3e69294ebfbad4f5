/- The laws of SunWays over the program's formulas. Conditions: as each says. -/
import Derived.Test.YtfdfpfojiilcgaaGreatDoorLaw5
import Derived.Test.YtfdfpfojiilcgaaGreatDoorWays
import Derived.Test.YtfdfpfojiilcgaaGreatDoorLaw3
namespace Go.Ev
open Go

/-- a cone with an axis up to 256 -/
structure ConeOk (x y z num den : Int) : Prop where
  ray : Ray x y z
  bd : Bd 256 x y z
  num0 : 0 ≤ num
  num1 : num ≤ den
  den0 : 1 ≤ den
  den1 : den ≤ 100
theorem ConeOk.err {x y z num den : Int} (h : ConeOk x y z num den) : coneErr x y z num den = 0 := by
  unfold coneErr
  rw [firstZ_zero]
  simp only [List.mem_cons, List.not_mem_nil, or_false, forall_eq_or_imp, forall_eq, ray_zero, wW_zero]
  exact ⟨h.ray, ⟨h.den0, h.den1⟩, h.num0, h.num1⟩
theorem meet_iff {x y z num den ax ay az bx b2 bz : Int} (hc : ConeOk x y z num den) (ha : Ray ax ay az) (hb : Ray bx b2 bz) (hA : Bd 256 ax ay az) (hB : Bd 256 bx b2 bz) (ho : oppW ax ay az bx b2 bz = false) :
    coErr x y z num den ax ay az bx b2 bz = 0 ∧ (coMeets x y z num den ax ay az bx b2 bz = true ↔ MeetP x y z num den ax ay az bx b2 bz) := by
  have hm : meetErr x y z num den ax ay az bx b2 bz = 0 := by
    unfold meetErr
    rw [firstZ_zero]
    simp only [List.mem_cons, List.not_mem_nil, or_false, forall_eq_or_imp, forall_eq, ray_zero]
    exact ⟨hc.err, ha, hb⟩
  have far : ∀ {a b c : Int}, Bd 256 a b c → decide (256 < farW a b c) = false := fun {a b c} h => by
    rw [decide_eq_false_iff_not, far_lt (h.mono (by decide)) (by decide), Decidable.not_not]
    obtain ⟨h1, h2, h3⟩ := h
    omega
  have ht : turnErr x y z ax ay az bx b2 bz = 0 := by
    unfold turnErr
    rw [far hc.bd, far hA, far hB, ho]; rfl
  have hden := hc.den0
  have hden1 := hc.den1
  have hnum := hc.num0
  have hnum1 := hc.num1
  refine ⟨by unfold coErr; rw [hm, ht]; rfl, ?_⟩
  unfold coMeets MeetP
  rw [hm, ht]
  have i1 := ins_iff (num := num) (den := den) (hc.bd.mono (show 256 ≤ 4096 by decide)) (hA.mono (show 256 ≤ 4096 by decide)) ⟨hnum, by omega⟩ ⟨by omega, hden1⟩
  have i2 := ins_iff (num := num) (den := den) (hc.bd.mono (show 256 ≤ 4096 by decide)) (hB.mono (show 256 ≤ 4096 by decide)) ⟨hnum, by omega⟩ ⟨by omega, hden1⟩
  have i3 := btw_iff (num := num) (den := den) hc.bd hA hB ⟨hnum, by omega⟩ ⟨by omega, hden1⟩ rfl rfl rfl rfl rfl rfl
  show (true && (true && (insW x y z num den ax ay az || (insW x y z num den bx b2 bz || btwW x y z num den ax ay az bx b2 bz)))) = true ↔ _
  rw [Bool.true_and, Bool.true_and, Bool.or_eq_true, Bool.or_eq_true, i1, i2, i3]
  exact Iff.rfl
theorem MeetP.symm {x y z num den ax ay az bx b2 bz : Int} (h : MeetP x y z num den ax ay az bx b2 bz) : MeetP x y z num den bx b2 bz ax ay az := by
  rcases h with h | h | ⟨h1, h2, h3, h4⟩
  · exact .inr (.inl h)
  · exact .inl h
  · refine .inr (.inr ?_)
    have e1 : allP bx b2 bz ax ay az = allP ax ay az bx b2 bz := by unfold allP; grind
    have e2 : prX x y z bx b2 bz ax ay az = prY x y z ax ay az bx b2 bz := by unfold prX prY; grind
    have e3 : prY x y z bx b2 bz ax ay az = prX x y z ax ay az bx b2 bz := by unfold prX prY; grind
    unfold BtwP
    rw [e1, e2, e3]
    refine ⟨h1, h3, h2, ?_⟩
    rw [Int.add_comm (prY x y z ax ay az bx b2 bz * (x * bx + y * b2 + z * bz))]
    exact h4
theorem norm_nonneg (x y z : Int) : 0 ≤ x * x + y * y + z * z := by
  have h1 := sq_nonneg x
  have h2 := sq_nonneg y
  have h3 := sq_nonneg z
  omega
theorem InsP.less {x y z num n den a b c : Int} (hn : n ≤ num) (h : InsP x y z num den a b c) : InsP x y z n den a b c := by
  refine ⟨h.1, Int.le_trans ?_ h.2⟩
  exact Int.mul_le_mul_of_nonneg_right (Int.mul_le_mul_of_nonneg_right hn (norm_nonneg _ _ _)) (norm_nonneg _ _ _)
theorem MeetP.less {x y z num n den ax ay az bx b2 bz : Int} (hn : n ≤ num) (h : MeetP x y z num den ax ay az bx b2 bz) : MeetP x y z n den ax ay az bx b2 bz := by
  rcases h with h | h | ⟨h1, h2, h3, h4⟩
  · exact .inl (h.less hn)
  · exact .inr (.inl (h.less hn))
  · refine .inr (.inr ⟨h1, h2, h3, Int.le_trans ?_ h4⟩)
    have hall : 0 ≤ allP ax ay az bx b2 bz := by
      rw [all_sq]
      exact norm_nonneg _ _ _
    exact Int.mul_le_mul_of_nonneg_right (Int.mul_le_mul_of_nonneg_right hn (norm_nonneg _ _ _)) hall
theorem half_le {num : Int} (h0 : 0 ≤ num) (h1 : num ≤ 100) : 0 ≤ halfN num ∧ halfN num ≤ num := by
  unfold halfN
  rw [Int.tdiv_eq_ediv_of_nonneg h0, w64_id (by omega)]
  omega
theorem ConeOk.half {x y z num den : Int} (h : ConeOk x y z num den) : ConeOk x y z (halfN num) den := by
  have h1 := h.num0
  have h2 := h.num1
  have h3 := h.den1
  obtain ⟨a, b⟩ := half_le h1 (by omega)
  exact ⟨h.ray, h.bd, a, by omega, h.den0, h.den1⟩

/-! ### Frames -/
theorem sd_law {x y z : Int} (hr : Ray x y z) (h40 : Bd 40 x y z) : ¬ (sd1 x y z = 0 ∧ sd2 x y z = 0 ∧ sd3 x y z = 0) ∧ Bd 40 (sd1 x y z) (sd2 x y z) (sd3 x y z) ∧ sd1 x y z * x + sd2 x y z * y + sd3 x y z * z = 0 := by
  obtain ⟨u1, u2, u3⟩ := up_eq hr.1
  unfold sd1 sd2 sd3 sdW up0
  rw [u1, u2, u3]
  cases h0 : z3 (-y) x 0 with
  | true =>
    obtain ⟨_, hx, _⟩ := z3_iff.1 h0
    subst hx
    exact ⟨by simp, ⟨by simp, by simp, by simp⟩, by simp⟩
  | false =>
    have hne : ¬ (-y = 0 ∧ x = 0 ∧ (0 : Int) = 0) := fun e => by rw [z3_iff.2 e] at h0; cases h0
    have hb : Bd 40 (-y) x 0 := ⟨by have := h40.2.1; omega, h40.1, by decide⟩
    obtain ⟨p, q, r, hR⟩ := red_ex hne
    obtain ⟨e1, e2, e3⟩ := redA_of hb (by decide) hR
    simp only [e1, e2, e3]
    refine ⟨hR.ne, hR.bd hb, ?_⟩
    obtain ⟨g, hg, g1, g2, g3, _⟩ := hR
    have : g * (p * x + q * y + r * z) = 0 := by
      have e : g * (p * x + q * y + r * z) = (g * p) * x + (g * q) * y + (g * r) * z := by grind
      rw [e, ← g1, ← g2, ← g3]; grind
    rcases Int.mul_eq_zero.1 this with h | h
    · omega
    · exact h
theorem fr_law {x y z : Int} (hr : Ray x y z) (h40 : Bd 40 x y z) : ∃ p q r, frW x y z (tp1 x y z) = p ∧ frW x y z (tp2 x y z) = q ∧ frW x y z (tp3 x y z) = r ∧ ¬ (p = 0 ∧ q = 0 ∧ r = 0) ∧ Bd 3200 p q r ∧ p * x + q * y + r * z = 0 ∧ sd1 x y z * p + sd2 x y z * q + sd3 x y z * r = 0 := by
  obtain ⟨s0, sb, sa⟩ := sd_law hr h40
  have t1 : tp1 x y z = y * sd3 x y z - z * sd2 x y z ∧ (y * sd3 x y z - z * sd2 x y z).natAbs ≤ 2 * (40 * 40) := diff_eq h40.2.1 sb.2.2 h40.2.2 sb.2.1 (by decide)
  have t2 : tp2 x y z = z * sd1 x y z - x * sd3 x y z ∧ (z * sd1 x y z - x * sd3 x y z).natAbs ≤ 2 * (40 * 40) := diff_eq h40.2.2 sb.1 h40.1 sb.2.2 (by decide)
  have t3 : tp3 x y z = x * sd2 x y z - y * sd1 x y z ∧ (x * sd2 x y z - y * sd1 x y z).natAbs ≤ 2 * (40 * 40) := diff_eq h40.1 sb.2.1 h40.2.1 sb.1 (by decide)
  unfold frW
  rw [t1.1, t2.1, t3.1]
  generalize sd1 x y z = a at *
  generalize sd2 x y z = b at *
  generalize sd3 x y z = c at *
  have hb : Bd 3200 (y * c - z * b) (z * a - x * c) (x * b - y * a) := ⟨t1.2, t2.2, t3.2⟩
  have hne : ¬ (y * c - z * b = 0 ∧ z * a - x * c = 0 ∧ x * b - y * a = 0) := by
    rintro ⟨c1, c2, c3⟩
    have e := all_sq x y z a b c
    unfold allP at e
    rw [c1, c2, c3] at e
    have na := nsq_pos hr.2
    have nb := nsq_pos s0
    have hd : x * a + y * b + z * c = 0 := by
      have : x * a + y * b + z * c = a * x + b * y + c * z := by grind
      rw [this]; exact sa
    rw [hd] at e
    have := Int.mul_pos na nb
    simp only [Int.mul_zero, Int.add_zero, Int.sub_zero] at e
    omega
  obtain ⟨p, q, r, hR⟩ := red_ex hne
  obtain ⟨e1, e2, e3⟩ := redA_of hb (by decide) hR
  refine ⟨p, q, r, e1, e2, e3, hR.ne, hR.bd hb, ?_, ?_⟩
  · obtain ⟨g, hg, g1, g2, g3, _⟩ := hR
    have : g * (p * x + q * y + r * z) = 0 := by
      have e : g * (p * x + q * y + r * z) = (g * p) * x + (g * q) * y + (g * r) * z := by grind
      rw [e, ← g1, ← g2, ← g3]; grind
    rcases Int.mul_eq_zero.1 this with h | h
    · omega
    · exact h
  · obtain ⟨g, hg, g1, g2, g3, _⟩ := hR
    have : g * (a * p + b * q + c * r) = 0 := by
      have e : g * (a * p + b * q + c * r) = a * (g * p) + b * (g * q) + c * (g * r) := by grind
      rw [e, ← g1, ← g2, ← g3]; grind
    rcases Int.mul_eq_zero.1 this with h | h
    · omega
    · exact h

/-! ### Sums of two rays -/
theorem sum_ne {ax ay az bx b2 bz s t : Int} (ha : Ray ax ay az) (hb : Ray bx b2 bz) (ho : oppW ax ay az bx b2 bz = false) (hs : 0 ≤ s) (ht : 0 ≤ t) (hst : s + t ≠ 0) : ¬ (s * ax + t * bx = 0 ∧ s * ay + t * b2 = 0 ∧ s * az + t * bz = 0) := by
  rintro ⟨h1, h2, h3⟩
  have zero : ∀ {k a : Int}, 0 < k → k * a = 0 → a = 0 := fun {k a} hk h => by
    rcases Int.mul_eq_zero.1 h with h | h
    · omega
    · exact h
  by_cases s0 : s = 0
  · subst s0
    have ht' : 0 < t := by omega
    rw [Int.zero_mul, Int.zero_add] at h1 h2 h3
    exact hb.2 ⟨zero ht' h1, zero ht' h2, zero ht' h3⟩
  by_cases t0 : t = 0
  · subst t0
    have hs' : 0 < s := by omega
    rw [Int.zero_mul, Int.add_zero] at h1 h2 h3
    exact ha.2 ⟨zero hs' h1, zero hs' h2, zero hs' h3⟩
  obtain ⟨p, q, r, hR⟩ := red_ex ha.2
  obtain ⟨u, v, w, hR'⟩ := red_ex hb.2
  have := hR.unique hR'.neg (l := s) (m := t) (by omega) (by omega) (by rw [Int.mul_neg]; omega) (by rw [Int.mul_neg]; omega) (by rw [Int.mul_neg]; omega)
  have h := (opp_red ha hb hR hR').2 ⟨by omega, by omega, by omega⟩
  rw [h] at ho
  cases ho
theorem wv_eq {k j a b : Int} (hk : 0 ≤ k) (hk' : k < 13) (hj : 0 ≤ j) (hj' : j < 13) (ha : a.natAbs ≤ 40) (hb : b.natAbs ≤ 40) : wv k j a b = k * a + j * b ∧ (k * a + j * b).natAbs ≤ 960 := by
  have h1 := mul_bd (a := k) (s := 12) (by omega) ha
  have h2 := mul_bd (a := j) (s := 12) (by omega) hb
  unfold wv
  rw [Int.mul_comm a k, Int.mul_comm b j]
  generalize k * a = p at *
  generalize j * b = q at *
  rw [w64_id (n := p) (by omega), w64_id (n := q) (by omega), w64_id (by omega)]
  exact ⟨rfl, by omega⟩
theorem good_ok {x y z num den ax ay az bx b2 bz : Int} (hc : ConeOk x y z num den) (ha : Ray ax ay az) (hb : Ray bx b2 bz) (hA : Bd 40 ax ay az) (hB : Bd 40 bx b2 bz) (ho : oppW ax ay az bx b2 bz = false) {k j : Int} (hk : 0 ≤ k) (hk' : k < 13) (hj : 0 ≤ j) (hj' : j < 13) (hkj : k + j ≠ 0) :
    wGood x y z num den ax ay az bx b2 bz (coMeets x y z num den ax ay az bx b2 bz) k j := by
  obtain ⟨w1, v1⟩ := wv_eq hk hk' hj hj' hA.1 hB.1
  obtain ⟨w2, v2⟩ := wv_eq hk hk' hj hj' hA.2.1 hB.2.1
  obtain ⟨w3, v3⟩ := wv_eq hk hk' hj hj' hA.2.2 hB.2.2
  have hne := sum_ne ha hb ho hk hj hkj
  have hbd : Bd 960 (k * ax + j * bx) (k * ay + j * b2) (k * az + j * bz) := ⟨v1, v2, v3⟩
  have hray : Ray (k * ax + j * bx) (k * ay + j * b2) (k * az + j * bz) := ⟨hbd.mono (by decide), hne⟩
  have he : wErr x y z num den ax ay az bx b2 bz k j = 0 := by
    unfold wErr
    rw [w1, w2, w3, firstZ_zero]
    simp only [List.mem_cons, List.not_mem_nil, or_false, forall_eq_or_imp, forall_eq, ray_zero]
    exact ⟨hc.err, hray⟩
  refine ⟨?_, he, fun hi => ?_⟩
  · rw [w1, w2, w3, Bool.eq_false_iff]
    exact fun h => hne (z3_iff.1 h)
  · unfold wIns at hi
    rw [he, w1, w2, w3] at hi
    have hi' : insW x y z num den (k * ax + j * bx) (k * ay + j * b2) (k * az + j * bz) = true := hi
    have h1 := hc.num0
    have h2 := hc.num1
    have h3 := hc.den0
    have h4 := hc.den1
    have hP := (ins_iff (hc.bd.mono (by decide)) (hbd.mono (by decide)) ⟨h1, by omega⟩ ⟨by omega, h4⟩).1 hi'
    exact (meet_iff hc ha hb (hA.mono (by decide)) (hB.mono (by decide)) ho).2.2 (way_ins ha.2 hb.2 hk hj h1 (by omega) hP)
theorem max_le {x y z : Int} (h : Bd 4611686018427387904 x y z) : ¬ 256 < maxW x y z ↔ Bd 256 x y z := by
  obtain ⟨h1, h2, h3⟩ := h
  unfold maxW Bd
  rw [w64_id (n := 0 - x) (by omega), w64_id (n := 0 - y) (by omega), w64_id (n := 0 - z) (by omega)]
  simp only [max2_lt]
  omega
theorem end_ok {x y z num den ax ay az bx b2 bz : Int} (hc : ConeOk x y z num den) (ha : Ray ax ay az) (hb : Ray bx b2 bz) (hA : Bd 40 ax ay az) (hB : Bd 40 bx b2 bz) (ho : oppW ax ay az bx b2 bz = false) {k j : Int} (hk : 0 ≤ k) (hk' : k < 13) (hj : 0 ≤ j) (hj' : j < 13) :
    (wEnd x y z num den ax ay az bx b2 bz (coMeets x y z num den ax ay az bx b2 bz) k j).goes id = true := by
  unfold wEnd
  rw [w64_id (n := k + j) (by omega)]
  by_cases hkj : k + j = 0
  · rw [hkj]; rfl
  rw [show (k + j == 0) = false by simpa using hkj]
  cases hM : coMeets x y z num den ax ay az bx b2 bz with
  | true => rfl
  | false =>
  have hA' := hA.mono (show 40 ≤ 256 by decide)
  have hB' := hB.mono (show 40 ≤ 256 by decide)
  have hno : ¬ MeetP x y z num den ax ay az bx b2 bz := fun h => by
    have := (meet_iff hc ha hb hA' hB' ho).2.2 h
    rw [hM] at this; cases this
  refine many_ok ?_
  obtain ⟨w1, v1⟩ := wv_eq hk hk' hj hj' hA.1 hB.1
  obtain ⟨w2, v2⟩ := wv_eq hk hk' hj hj' hA.2.1 hB.2.1
  obtain ⟨w3, v3⟩ := wv_eq hk hk' hj hj' hA.2.2 hB.2.2
  rw [w1, w2, w3]
  have hne := sum_ne ha hb ho hk hj hkj
  have hbd : Bd 960 (k * ax + j * bx) (k * ay + j * b2) (k * az + j * bz) := ⟨v1, v2, v3⟩
  have hdir : dirErr (k * ax + j * bx) (k * ay + j * b2) (k * az + j * bz) = 0 := dir_zero.2 ⟨hbd.mono (by decide), hne⟩
  obtain ⟨p, q, r, hR⟩ := red_ex hne
  obtain ⟨r1, r2, r3⟩ := rd_of hdir hR
  unfold wMid
  rw [r1, r2, r3]
  refine no_true (bne_zero hdir) ?_
  have hg := hR.bd hbd
  unfold wLast
  by_cases hm : 256 < maxW p q r
  · rw [decide_eq_true hm]; rfl
  rw [decide_eq_false hm]
  have hG : Bd 256 p q r := (max_le (hg.mono (by decide))).1 hm
  have rG : Ray p q r := ⟨hG.mono (by decide), hR.ne⟩
  have hself := hR.self
  obtain ⟨h, hh, g1, g2, g3, _⟩ := hR
  obtain ⟨a1, a2, a3, hRa⟩ := red_ex ha.2
  obtain ⟨c1, c2, c3, hRb⟩ := red_ex hb.2
  have o1 : oppW ax ay az p q r = false := by
    rw [Bool.eq_false_iff]
    intro e
    obtain ⟨e1, e2, e3⟩ := (opp_red ha rG hRa hself).1 e
    obtain ⟨d, hd, d1, d2, d3, _⟩ := hRa
    refine sum_ne ha hb ho (s := h + d * k) (t := d * j) (by have := Int.mul_nonneg (Int.le_of_lt hd) hk; omega) (Int.mul_nonneg (Int.le_of_lt hd) hj) (by have := Int.mul_nonneg (Int.le_of_lt hd) hk; have := Int.mul_nonneg (Int.le_of_lt hd) hj; omega) ⟨?_, ?_, ?_⟩
    · have : (h + d * k) * ax + d * j * bx = h * ax + d * (k * ax + j * bx) := by grind
      rw [this, g1, d1, e1]; grind
    · have : (h + d * k) * ay + d * j * b2 = h * ay + d * (k * ay + j * b2) := by grind
      rw [this, g2, d2, e2]; grind
    · have : (h + d * k) * az + d * j * bz = h * az + d * (k * az + j * bz) := by grind
      rw [this, g3, d3, e3]; grind
  have o2 : oppW p q r bx b2 bz = false := by
    rw [Bool.eq_false_iff]
    intro e
    obtain ⟨e1, e2, e3⟩ := (opp_red rG hb hself hRb).1 e
    obtain ⟨d, hd, d1, d2, d3, _⟩ := hRb
    refine sum_ne ha hb ho (s := d * k) (t := h + d * j) (Int.mul_nonneg (Int.le_of_lt hd) hk) (by have := Int.mul_nonneg (Int.le_of_lt hd) hj; omega) (by have := Int.mul_nonneg (Int.le_of_lt hd) hk; have := Int.mul_nonneg (Int.le_of_lt hd) hj; omega) ⟨?_, ?_, ?_⟩
    · have : d * k * ax + (h + d * j) * bx = h * bx + d * (k * ax + j * bx) := by grind
      rw [this, g1, d1, e1]; grind
    · have : d * k * ay + (h + d * j) * b2 = h * b2 + d * (k * ay + j * b2) := by grind
      rw [this, g2, d2, e2]; grind
    · have : d * k * az + (h + d * j) * bz = h * bz + d * (k * az + j * bz) := by grind
      rw [this, g3, d3, e3]; grind
  obtain ⟨E1, M1⟩ := meet_iff hc ha rG hA' hG o1
  obtain ⟨E2, M2⟩ := meet_iff hc rG hb hG hB' o2
  have hn := hc.num0
  have hd := hc.den0
  have n1 : coMeets x y z num den ax ay az p q r = false := by
    rw [Bool.eq_false_iff]
    exact fun e => hno (part_of (g := h) (s1 := h) (t1 := 0) (s2 := k) (t2 := j) ha.2 hb.2 hn (by omega) hh (Int.le_of_lt hh) (by decide) hk hj (by grind) (by grind) (by grind) g1.symm g2.symm g3.symm (M1.1 e))
  have n2 : coMeets x y z num den p q r bx b2 bz = false := by
    rw [Bool.eq_false_iff]
    exact fun e => hno (part_of (g := h) (s1 := k) (t1 := j) (s2 := 0) (t2 := h) ha.2 hb.2 hn (by omega) hh hk hj (by decide) (Int.le_of_lt hh) g1.symm g2.symm g3.symm (by grind) (by grind) (by grind) (M2.1 e))
  exact yes_true (by rw [E1]; rfl) (yes_true (by rw [E2]; rfl) (yes_true (by rw [n1]; rfl) (yes_true (by rw [n2]; rfl) rfl)))
end Go.Ev
