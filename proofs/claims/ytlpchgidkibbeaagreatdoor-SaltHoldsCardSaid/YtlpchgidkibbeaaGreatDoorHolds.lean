/- The plain law of holds: a step grows with its heat and its light; what is sure fails for no light between; waiting. Conditions: the checks. SaltHolds: its table, the states of its loops. Conditions: none. SaltHolds up to its loops; the inner loop. Conditions: none. SaltHolds: the inner loop, that chooses lights. Conditions: the list is short. SaltHolds: the rest of a round of the outer loop. Conditions: none. SaltHolds: what its runs hand back keeps to what Sure told; the outer loop. Conditions: the checks. SaltHolds: the outer loop. Conditions: the checks. SaltHolds behind its outer loop: the hold, the waits. Conditions: none. SaltHolds: it is true; its call. Conditions: the two variables that awake() reads; the list of told steps is a table. -/
import Derived.Test.YtlpchgidkibbeaaGreatDoorSureS
import Derived.Test.YtlpchgidkibbeaaGreatDoorRunS
import Derived.Test.YtlpchgidkibbeaaGreatDoorLoops
namespace Go.Ev
open Go Go.Proofs

theorem told_qh (c lo hi flow : Int) (s : ByteArray) : toldErr c lo hi flow s = qtoldErr c lo hi flow s := by
  unfold toldErr qtoldErr
  rw [isAct_q]
theorem told0h {c lo hi flow : Int} {s : ByteArray} (h : toldErr c lo hi flow s = 0) : isAct s = true ∧ 0 ≤ lo ∧ lo ≤ hi ∧ hi ≤ 1000000 ∧ 0 ≤ flow ∧ flow ≤ c := by
  unfold toldErr at h
  obtain ⟨h1, h⟩ := first0 h
  obtain ⟨h2, h⟩ := first0 h
  obtain ⟨h3, h⟩ := first0 h
  obtain ⟨h4, h⟩ := first0 h
  obtain ⟨h5, _⟩ := first0 h
  have a1 := errIf0 (by decide) h1
  obtain ⟨b1, b2⟩ := wW0 h2
  obtain ⟨c1, c2⟩ := wW0 h3
  have d := errIf0 (by decide) h4
  obtain ⟨f1, f2⟩ := wW0 h5
  simp only [decide_eq_false_iff_not] at d
  exact ⟨by simpa using a1, b1, by omega, c2, f1, f2⟩
theorem step_of {c light flow : Int} {s : ByteArray} (h1 : isAct s = true) (h2 : 0 ≤ light) (h3 : light ≤ 1000000) (h4 : 0 ≤ flow) (h5 : flow ≤ c) : stepErr c light flow s = 0 := by
  unfold stepErr wW
  have a1 : decide (light < 0) = false := by simp only [decide_eq_false_iff_not]; omega
  have a2 : decide (1000000 < light) = false := by simp only [decide_eq_false_iff_not]; omega
  have a3 : decide (flow < 0) = false := by simp only [decide_eq_false_iff_not]; omega
  have a4 : decide (c < flow) = false := by simp only [decide_eq_false_iff_not]; omega
  rw [h1, a1, a2, a3, a4]
  rfl
/-- a step in plain numbers -/
theorem step_num {c l f r h k heat light flow : Int} {s act : ByteArray} (h1 : rulesErr c l f r h k = 0) (h2 : recvErr s heat = 0) (h3 : stepErr c light flow act = 0) :
    takenW c k heat flow = (flow * heat).tdiv c - flow * k ∧ heat1W c k heat light flow = heat - ((flow * heat).tdiv c - flow * k) + light ∧ 0 ≤ heat1W c k heat light flow ∧
    outW c l k heat light flow = heat1W c k heat light flow - lostW l (heat1W c k heat light flow) ∧ 0 ≤ lostW l (heat1W c k heat light flow) ∧ lostW l (heat1W c k heat light flow) ≤ 100000 ∧ 0 ≤ outW c l k heat light flow ∧
    -1000000 ≤ takenW c k heat flow ∧ takenW c k heat flow ≤ 1000000000000 := by
  obtain ⟨⟨hc1, hc2⟩, ⟨hl1, hl2⟩, hf, hr, hh, ⟨hk1, hk2⟩, _⟩ := rules0 h1
  obtain ⟨hs, hh1, hh2⟩ := recv0 h2
  obtain ⟨ha, ⟨hi1, hi2⟩, hw1, hw2⟩ := step0 h3
  have a1 : 0 ≤ flow * heat := Int.mul_nonneg hw1 hh1
  have a3 : flow * heat ≤ c * heat := Int.mul_le_mul_of_nonneg_right hw2 hh1
  have a2 : flow * heat ≤ 1000 * 1000000000 := by
    have b1 : flow * heat ≤ flow * 1000000000 := Int.mul_le_mul_of_nonneg_left hh2 hw1
    omega
  have b1 : 0 ≤ flow * k := Int.mul_nonneg hw1 hk1
  have b2 : flow * k ≤ 1000 * 1000 := by
    have b1 : flow * k ≤ flow * 1000 := Int.mul_le_mul_of_nonneg_left hk2 hw1
    omega
  obtain ⟨d1, d2, d3, _⟩ := tdiv_bd a1 hc1
  have d4 : (flow * heat).tdiv c ≤ heat := by
    have : (flow * heat).tdiv c * c ≤ heat * c := by rw [Int.mul_comm heat c]; omega
    exact Int.le_of_mul_le_mul_right this (by omega)
  have e1 : w64 (flow * heat) = flow * heat := w64_id (by omega) (by omega)
  have e2 : w64 ((flow * heat).tdiv c) = (flow * heat).tdiv c := w64_id (by omega) (by omega)
  have e3 : w64 (flow * k) = flow * k := w64_id (by omega) (by omega)
  have et : takenW c k heat flow = (flow * heat).tdiv c - flow * k := by
    unfold takenW
    rw [e1, e2, e3]
    exact w64_id (by omega) (by omega)
  have eh : heat1W c k heat light flow = heat - ((flow * heat).tdiv c - flow * k) + light := by
    unfold heat1W
    rw [et, w64_id (n := heat - ((flow * heat).tdiv c - flow * k)) (by omega) (by omega)]
    exact w64_id (by omega) (by omega)
  have hl : lostW l (heat1W c k heat light flow) ≤ heat1W c k heat light flow ∧ 0 ≤ lostW l (heat1W c k heat light flow) ∧ lostW l (heat1W c k heat light flow) ≤ 100000 := by
    unfold lostW
    rw [eh]
    split <;> omega
  have eo : outW c l k heat light flow = heat1W c k heat light flow - lostW l (heat1W c k heat light flow) := by
    unfold outW
    exact w64_id (by omega) (by omega)
  exact ⟨et, eh, by omega, eo, hl.2.1, hl.2.2, by omega, by omega, by omega⟩
theorem tdiv_mono {a b c : Int} (ha : 0 ≤ a) (hab : a ≤ b) (hc : 1 ≤ c) : a.tdiv c ≤ b.tdiv c := by
  obtain ⟨_, _, a1, _⟩ := tdiv_bd ha hc
  obtain ⟨_, _, _, b1⟩ := tdiv_bd (show 0 ≤ b by omega) hc
  have : a.tdiv c * c < (b.tdiv c + 1) * c := by omega
  have := Int.lt_of_mul_lt_mul_right this (by omega)
  omega
/-- the salt takes from more heat no more than that more -/
theorem flow_mono {c flow x y : Int} (hc : 1 ≤ c) (hf : 0 ≤ flow) (hfc : flow ≤ c) (hx : 0 ≤ x) (hxy : x ≤ y) : (flow * y).tdiv c - (flow * x).tdiv c ≤ y - x := by
  obtain ⟨_, _, a1, a2⟩ := tdiv_bd (Int.mul_nonneg hf hx) hc
  obtain ⟨_, _, b1, b2⟩ := tdiv_bd (Int.mul_nonneg hf (show 0 ≤ y by omega)) hc
  have e1 : flow * y = flow * x + flow * (y - x) := by rw [← Int.mul_add]; congr 1; omega
  have e2 : flow * (y - x) ≤ c * (y - x) := Int.mul_le_mul_of_nonneg_right hfc (by omega)
  have e3 : (flow * y).tdiv c * c < ((flow * x).tdiv c + 1 + (y - x)) * c := by
    rw [Int.add_mul _ (y - x) c, Int.mul_comm (y - x) c]
    omega
  have := Int.lt_of_mul_lt_mul_right e3 (by omega)
  omega
theorem out_mono {c l f r h k g g' i i' flow : Int} {s s' act act' : ByteArray} (h1 : rulesErr c l f r h k = 0) (h2 : recvErr s g = 0) (h2' : recvErr s' g' = 0) (h3 : stepErr c i flow act = 0) (h3' : stepErr c i' flow act' = 0) (hg : g ≤ g') (hi : i ≤ i') :
    outW c l k g i flow ≤ outW c l k g' i' flow := by
  obtain ⟨_, a2, a3, a4, a5, _⟩ := step_num h1 h2 h3
  obtain ⟨_, b2, b3, b4, b5, _⟩ := step_num h1 h2' h3'
  obtain ⟨⟨hc1, hc2⟩, ⟨hl1, hl2⟩, _⟩ := rules0 h1
  obtain ⟨_, _, hw1, hw2⟩ := step0 h3
  have hm := flow_mono hc1 hw1 hw2 (recv0 h2).2.1 hg
  rw [a4, b4]
  unfold lostW
  rw [a2, b2]
  split <;> split <;> omega
theorem deg_mono {c x y : Int} (hc : 1 ≤ c) (hx : 0 ≤ x) (hxy : x ≤ y) (hy : y ≤ 2000000000000) : degW c x ≤ degW c y := by
  obtain ⟨a1, a2, _, _⟩ := tdiv_bd hx hc
  obtain ⟨b1, b2, _, _⟩ := tdiv_bd (show 0 ≤ y by omega) hc
  unfold degW
  rw [w64_id (by omega) (by omega), w64_id (by omega) (by omega)]
  exact tdiv_mono hx hxy hc
theorem ne_iff {a : Int} : (a != 0) = true ↔ a ≠ 0 := by simp
theorem errIf_iff {b : Bool} {e : Int} (he : e ≠ 0) : errIf b e = 0 ↔ b = false := by cases b <;> simp [errIf, he]
theorem first_iff {a : Int} {l : List Int} : firstZ (a :: l) = 0 ↔ a = 0 ∧ firstZ l = 0 := by
  constructor
  · exact first0
  · rintro ⟨rfl, h⟩
    exact h
/-- when a step comes to no error -/
theorem pE1_iff {c l f r h k heat light flow : Int} {s act : ByteArray} : pE1 c l f r h k heat light flow s act = 0 ↔
    (actB1 s act = true ∧ actB2 act c r heat = true ∧ (0 < flow → nrW (actNs s act) = false)) ∧ outW c l k heat light flow ≤ 1000000000 ∧ (neW (actNs s act) = true → f ≤ degW c (outW c l k heat light flow)) ∧ degW c (outW c l k heat light flow) ≤ h := by
  have e1 : e1W (actNs s act) (actB1 s act) (actB2 act c r heat) flow = 0 ↔ (actB1 s act = true ∧ actB2 act c r heat = true ∧ (0 < flow → nrW (actNs s act) = false)) := by
    unfold e1W err1W
    rw [first_iff, first_iff, first_iff, errIf_iff (by decide), errIf_iff (by decide), errIf_iff (by decide)]
    simp only [Bool.not_eq_false', firstZ, and_true]
    constructor
    · rintro ⟨a, b, d⟩
      refine ⟨a, b, fun hf => ?_⟩
      rw [show decide (0 < flow) = true by simpa using hf] at d
      exact d
    · rintro ⟨a, b, d⟩
      refine ⟨a, b, ?_⟩
      cases hf : decide (0 < flow) with
      | true => exact d (of_decide_eq_true hf)
      | false => rfl
  have e2 : e2W (actNs s act) c l f h k heat light flow = 0 ↔ outW c l k heat light flow ≤ 1000000000 ∧ (neW (actNs s act) = true → f ≤ degW c (outW c l k heat light flow)) ∧ degW c (outW c l k heat light flow) ≤ h := by
    unfold e2W err2W
    rw [first_iff, first_iff, first_iff, errIf_iff (by decide), errIf_iff (by decide), errIf_iff (by decide)]
    simp only [firstZ, and_true, decide_eq_false_iff_not]
    constructor
    · rintro ⟨a, b, d⟩
      refine ⟨by omega, fun hf => ?_, by omega⟩
      rw [hf] at b
      simp only [decide_eq_false_iff_not] at b
      omega
    · rintro ⟨a, b, d⟩
      refine ⟨by omega, ?_, by omega⟩
      cases hf : neW (actNs s act) with
      | true =>
        have := b hf
        simp only [decide_eq_false_iff_not]
        omega
      | false => rfl
  unfold pE1 eW
  cases h1 : e1W (actNs s act) (actB1 s act) (actB2 act c r heat) flow != 0 with
  | true =>
    have hne := ne_iff.1 h1
    simp only []
    exact ⟨fun h0 => absurd h0 hne, fun hh => absurd (e1.2 hh.1) hne⟩
  | false =>
    have h0 : e1W (actNs s act) (actB1 s act) (actB2 act c r heat) flow = 0 := ne0 h1
    simp only []
    rw [e2]
    exact ⟨fun hh => ⟨e1.1 h0, hh⟩, fun hh => hh.2⟩
/-- a step between two that come to no error comes to none -/
theorem between {c l f r h k g1 g g2 i1 i i2 flow : Int} {s act : ByteArray} (h1 : rulesErr c l f r h k = 0) (a1 : recvErr s g1 = 0) (a2 : recvErr s g2 = 0) (b1 : stepErr c i1 flow act = 0) (b2 : stepErr c i2 flow act = 0)
    (hg1 : g1 ≤ g) (hg2 : g ≤ g2) (hi1 : i1 ≤ i) (hi2 : i ≤ i2) (e1 : pE1 c l f r h k g1 i1 flow s act = 0) (e2 : pE1 c l f r h k g2 i2 flow s act = 0) : pE1 c l f r h k g i flow s act = 0 := by
  obtain ⟨hs, p1, p2⟩ := recv0 a1
  obtain ⟨_, q1, q2⟩ := recv0 a2
  obtain ⟨ha, ⟨u1, u2⟩, u3, u4⟩ := step0 b1
  obtain ⟨_, ⟨v1, v2⟩, _⟩ := step0 b2
  have a : recvErr s g = 0 := recv_of hs (by omega) (by omega)
  have b : stepErr c i flow act = 0 := step_of ha (by omega) (by omega) u3 u4
  obtain ⟨⟨hc1, hc2⟩, _⟩ := rules0 h1
  have m1 := out_mono (l := l) (k := k) h1 a1 a b1 b hg1 hi1
  have m2 := out_mono (l := l) (k := k) h1 a a2 b b2 hg2 hi2
  have n1 := (step_num h1 a1 b1).2.2.2.2.2.2.1
  have n := (step_num h1 a b).2.2.2.2.2.2.1
  obtain ⟨⟨x1, x2, x3⟩, x4, x5, x6⟩ := pE1_iff.1 e1
  obtain ⟨⟨y1, y2, y3⟩, y4, y5, y6⟩ := pE1_iff.1 e2
  refine pE1_iff.2 ⟨⟨x1, ?_, x3⟩, by omega, fun hn => ?_, ?_⟩
  · unfold actB2 at x2 ⊢
    split
    · rfl
    · rename_i hw
      rw [hw] at x2
      simp only at x2 ⊢
      split
      · rename_i hf
        rw [hf] at x2
        simp only [decide_eq_true_eq] at x2 ⊢
        have := deg_mono hc1 p1 hg1 (by omega)
        omega
      · rfl
  · have := x5 hn
    have := deg_mono hc1 n1 m1 (by omega)
    omega
  · have := deg_mono hc1 n m2 (by omega)
    omega
section
variable {z0 : Nat → ByteArray} {z1 z2 z3 zl : Nat → Int} {r0 r1 r2 r3 r4 r5 : Int}
theorem step_vals {zz : Nat → Int} {k : Nat} {s : ByteArray} {heat : Int} (h0 : se z0 zz z3 r0 r1 r2 r3 r4 r5 k s heat = 0) : ss1 z0 zz z3 r0 r1 r2 r3 r4 r5 k s heat = actNs s (z0 k) ∧ sh1 z0 zz z3 r0 r1 r2 r3 r4 r5 k s heat = outW r0 r1 r5 heat (zz k) (z3 k) ∧
    st1 z0 zz z3 r0 r1 r2 r3 r4 r5 k s heat = takenW r0 r5 heat (z3 k) ∧ sl1 z0 zz z3 r0 r1 r2 r3 r4 r5 k s heat = lostW r1 (heat1W r0 r5 heat (zz k) (z3 k)) := by
  refine ⟨?_, ?_, ?_, ?_⟩
  · unfold ss1 sif; rw [h0]; rfl
  · unfold sh1 zif; rw [h0]; rfl
  · unfold st1 zif; rw [h0]; rfl
  · unfold sl1 zif; rw [h0]; rfl
theorem step_recv {zz : Nat → Int} (h1 : rulesErr r0 r1 r2 r3 r4 r5 = 0) {k : Nat} {s : ByteArray} {heat : Int} (h2 : recvErr s heat = 0) (h3 : stepErr r0 (zz k) (z3 k) (z0 k) = 0) (h0 : se z0 zz z3 r0 r1 r2 r3 r4 r5 k s heat = 0) : recvErr (actNs s (z0 k)) (outW r0 r1 r5 heat (zz k) (z3 k)) = 0 :=
  recv_of (actNs_known (recv0 h2).1 (step0 h3).1) (out_nonneg h1 h2 h3) (eW0 (show eW _ _ _ _ _ _ _ _ _ _ _ = 0 from h0))
/-- the lights of m steps from one on -/
def sumL (zl : Nat → Int) : Nat → Nat → Int
  | 0, _ => 0
  | m + 1, k => zl k + sumL zl m (k + 1)
/-- told steps: each light between the two ends -/
structure Mid (z0 : Nat → ByteArray) (z1 z2 z3 zl : Nat → Int) (r0 : Int) (n : Nat) : Prop where
  told : ∀ j, j < n → toldErr r0 (z1 j) (z2 j) (z3 j) (z0 j) = 0
  lo : ∀ j, j < n → z1 j ≤ zl j
  hi : ∀ j, j < n → zl j ≤ z2 j
theorem Mid.ends {n : Nat} (h : Mid z0 z1 z2 z3 zl r0 n) {j : Nat} (hj : j < n) : stepErr r0 (z1 j) (z3 j) (z0 j) = 0 ∧ stepErr r0 (z2 j) (z3 j) (z0 j) = 0 ∧ stepErr r0 (zl j) (z3 j) (z0 j) = 0 ∧ 0 ≤ zl j ∧ zl j ≤ 1000000 := by
  obtain ⟨a1, a2, a3, a4, a5, a6⟩ := told0h (h.told j hj)
  have := h.lo j hj
  have := h.hi j hj
  exact ⟨step_of a1 a2 (by omega) a5 a6, step_of a1 (by omega) a4 a5 a6, step_of a1 (by omega) (by omega) a5 a6, by omega, by omega⟩
/-- what is sure fails for no light between; what is not fails not before -/
theorem sure_runs (h1 : rulesErr r0 r1 r2 r3 r4 r5 = 0) {n : Nat} (hM : Mid z0 z1 z2 z3 zl r0 n) : ∀ (m k : Nat) (s : ByteArray) (g1 g2 g t l : Int), k + m = n → recvErr s g1 = 0 → recvErr s g2 = 0 → g1 ≤ g → g ≤ g2 →
    0 ≤ l → l ≤ 100000 * k → -1000000 * k ≤ t → t ≤ 1000000000000 * k → n ≤ 256 →
    (∃ s' a b g' t' l', suGo z0 z1 z2 z3 r0 r1 r2 r3 r4 r5 m k s g1 s g2 = (s', a, s', b, none) ∧ srGo z0 zl z3 r0 r1 r2 r3 r4 r5 m k s g t l = (s', g', t', l', none) ∧ a ≤ g' ∧ g' ≤ b ∧ g' = g + sumL zl m k - (t' - t) - (l' - l) ∧ 0 ≤ l' ∧ l' ≤ 100000 * n ∧ -1000000 * n ≤ t' ∧ t' ≤ 1000000000000 * n ∧ 0 ≤ g' ∧ g' ≤ 1000000000) ∨
    (∃ s1 a s2 b at' e, suGo z0 z1 z2 z3 r0 r1 r2 r3 r4 r5 m k s g1 s g2 = (s1, a, s2, b, some (at', e)) ∧ k ≤ at' ∧ at' < n ∧ ∀ s' g' t' l' i e', srGo z0 zl z3 r0 r1 r2 r3 r4 r5 m k s g t l = (s', g', t', l', some (i, e')) → at' ≤ i)
  | 0, k, s, g1, g2, g, t, l, hk, a1, a2, hg1, hg2, l1, l2, t1, t2, hn => by
    obtain ⟨hs, p1, p2⟩ := recv0 a1
    obtain ⟨_, q1, q2⟩ := recv0 a2
    have : k = n := by omega
    subst this
    exact .inl ⟨s, g1, g2, g, t, l, rfl, rfl, hg1, hg2, by simp [sumL], l1, l2, t1, t2, by omega, by omega⟩
  | m + 1, k, s, g1, g2, g, t, l, hk, a1, a2, hg1, hg2, l1, l2, t1, t2, hn => by
    have hkn : k < n := by omega
    obtain ⟨hs, p1, p2⟩ := recv0 a1
    obtain ⟨_, q1, q2⟩ := recv0 a2
    obtain ⟨b1, b2, b, hz1, hz2⟩ := hM.ends hkn
    have a : recvErr s g = 0 := recv_of hs (by omega) (by omega)
    cases c1 : se z0 z1 z3 r0 r1 r2 r3 r4 r5 k s g1 != 0 with
    | true =>
      refine .inr ⟨s, g1, s, g2, k, _, by unfold suGo; rw [c1], Nat.le_refl k, hkn, fun s' g' t' l' i e' he => ?_⟩
      exact srGo_ge he
    | false =>
      have d1 := ne0 c1
      obtain ⟨u1, u2, _⟩ := step_vals d1
      cases c2 : se z0 z2 z3 r0 r1 r2 r3 r4 r5 k s g2 != 0 with
      | true =>
        refine .inr ⟨actNs s (z0 k), outW r0 r1 r5 g1 (z1 k) (z3 k), s, g2, k, se z0 z2 z3 r0 r1 r2 r3 r4 r5 k s g2, ?_, Nat.le_refl k, hkn, fun s' g' t' l' i e' he => srGo_ge he⟩
        unfold suGo
        rw [c1, c2, u1, u2]
      | false =>
        have d2 := ne0 c2
        obtain ⟨v1, v2, _⟩ := step_vals d2
        have d : se z0 zl z3 r0 r1 r2 r3 r4 r5 k s g = 0 := between h1 a1 a2 b1 b2 hg1 hg2 (hM.lo k hkn) (hM.hi k hkn) d1 d2
        obtain ⟨w1, w2, w3, w4⟩ := step_vals d
        obtain ⟨n1, n2, n3, n4, n5, n6, n7, n8, n9⟩ := step_num h1 a b
        have hsu : suGo z0 z1 z2 z3 r0 r1 r2 r3 r4 r5 (m + 1) k s g1 s g2 = suGo z0 z1 z2 z3 r0 r1 r2 r3 r4 r5 m (k + 1) (actNs s (z0 k)) (outW r0 r1 r5 g1 (z1 k) (z3 k)) (actNs s (z0 k)) (outW r0 r1 r5 g2 (z2 k) (z3 k)) := by
          rw [← u2, ← v2, show actNs s (z0 k) = ss1 z0 z1 z3 r0 r1 r2 r3 r4 r5 k s g1 from u1.symm]
          conv => lhs; unfold suGo
          rw [c1, c2]
          simp only []
          rw [u1, v1]
        have ew1 : w64 (t + takenW r0 r5 g (z3 k)) = t + takenW r0 r5 g (z3 k) := w64_id (by omega) (by omega)
        have ew2 : w64 (l + lostW r1 (heat1W r0 r5 g (zl k) (z3 k))) = l + lostW r1 (heat1W r0 r5 g (zl k) (z3 k)) := w64_id (by omega) (by omega)
        have hsr : srGo z0 zl z3 r0 r1 r2 r3 r4 r5 (m + 1) k s g t l = srGo z0 zl z3 r0 r1 r2 r3 r4 r5 m (k + 1) (actNs s (z0 k)) (outW r0 r1 r5 g (zl k) (z3 k)) (t + takenW r0 r5 g (z3 k)) (l + lostW r1 (heat1W r0 r5 g (zl k) (z3 k))) := by
          conv => lhs; unfold srGo
          rw [d]
          simp only [bne_self_eq_false]
          rw [w1, w2, w3, w4, ew1, ew2]
        rw [hsu, hsr]
        have g1' := step_recv h1 a1 b1 d1
        have g2' := step_recv h1 a2 b2 d2
        have m1 := out_mono (l := r1) (k := r5) h1 a1 a b1 b hg1 (hM.lo k hkn)
        have m2 := out_mono (l := r1) (k := r5) h1 a a2 b b2 hg2 (hM.hi k hkn)
        rcases sure_runs h1 hM m (k + 1) (actNs s (z0 k)) _ _ (outW r0 r1 r5 g (zl k) (z3 k)) (t + takenW r0 r5 g (z3 k)) (l + lostW r1 (heat1W r0 r5 g (zl k) (z3 k))) (by omega) g1' g2' m1 m2 (by omega) (by push_cast; omega) (by push_cast; omega) (by push_cast; omega) hn with
          ⟨s', aa, bb, g', t', l', x1, x2, x3, x4, x5, x6⟩ | ⟨s1, aa, s2, bb, at', e, x1, x2, x3, x4⟩
        · exact .inl ⟨s', aa, bb, g', t', l', x1, x2, x3, x4, by rw [x5, sumL, n4, n2, n1]; omega, x6⟩
        · exact .inr ⟨s1, aa, s2, bb, at', e, x1, by omega, x3, x4⟩
where
  srGo_ge {m k : Nat} {s : ByteArray} {g t l : Int} {s' : ByteArray} {g' t' l' : Int} {i : Nat} {e' : Int} (he : srGo z0 zl z3 r0 r1 r2 r3 r4 r5 m k s g t l = (s', g', t', l', some (i, e'))) : k ≤ i := by
    induction m generalizing k s g t l with
    | zero => unfold srGo at he; simp at he
    | succ m ih =>
      unfold srGo at he
      split at he
      · simp only [Prod.mk.injEq, Option.some.injEq] at he
        omega
      · have := ih he
        omega
/-- where steps are not sure, one of the ends fails there -/
theorem sure_fails : ∀ (m k : Nat) (s : ByteArray) (g1 g2 : Int) {s1 s2 : ByteArray} {a b : Int} {i : Nat} {e : Int}, suGo z0 z1 z2 z3 r0 r1 r2 r3 r4 r5 m k s g1 s g2 = (s1, a, s2, b, some (i, e)) →
    (∀ t l, ∃ s' g' t' l' e', srGo z0 z1 z3 r0 r1 r2 r3 r4 r5 m k s g1 t l = (s', g', t', l', some (i, e'))) ∨ (∀ t l, ∃ s' g' t' l' e', srGo z0 z2 z3 r0 r1 r2 r3 r4 r5 m k s g2 t l = (s', g', t', l', some (i, e')))
  | 0, k, s, g1, g2, s1, s2, a, b, i, e, h => by unfold suGo at h; simp at h
  | m + 1, k, s, g1, g2, s1, s2, a, b, i, e, h => by
    unfold suGo at h
    cases c1 : se z0 z1 z3 r0 r1 r2 r3 r4 r5 k s g1 != 0 with
    | true =>
      rw [c1] at h
      simp only [Prod.mk.injEq, Option.some.injEq] at h
      obtain ⟨_, _, _, _, rfl, _⟩ := h
      exact .inl fun t l => ⟨s, g1, t, l, se z0 z1 z3 r0 r1 r2 r3 r4 r5 k s g1, by unfold srGo; rw [c1]⟩
    | false =>
      rw [c1] at h
      simp only [] at h
      cases c2 : se z0 z2 z3 r0 r1 r2 r3 r4 r5 k s g2 != 0 with
      | true =>
        rw [c2] at h
        simp only [Prod.mk.injEq, Option.some.injEq] at h
        obtain ⟨_, _, _, _, rfl, _⟩ := h
        exact .inr fun t l => ⟨s, g2, t, l, se z0 z2 z3 r0 r1 r2 r3 r4 r5 k s g2, by unfold srGo; rw [c2]⟩
      | false =>
        rw [c2] at h
        simp only [] at h
        obtain ⟨u1, _⟩ := step_vals (ne0 c1)
        obtain ⟨v1, _⟩ := step_vals (ne0 c2)
        rw [v1, ← u1] at h
        rcases sure_fails m (k + 1) _ _ _ h with x | x
        · refine .inl fun t l => ?_
          obtain ⟨s', g', t', l', e', x⟩ := x (w64 (t + st1 z0 z1 z3 r0 r1 r2 r3 r4 r5 k s g1)) (w64 (l + sl1 z0 z1 z3 r0 r1 r2 r3 r4 r5 k s g1))
          exact ⟨s', g', t', l', e', by unfold srGo; rw [c1]; exact x⟩
        · refine .inr fun t l => ?_
          obtain ⟨s', g', t', l', e', x⟩ := x (w64 (t + st1 z0 z2 z3 r0 r1 r2 r3 r4 r5 k s g2)) (w64 (l + sl1 z0 z2 z3 r0 r1 r2 r3 r4 r5 k s g2))
          exact ⟨s', g', t', l', e', by unfold srGo; rw [c2]; simp only []; rw [v1, ← u1]; exact x⟩
end

/-! ### Waiting -/
theorem taken_wait {c k heat : Int} (hc : 1 ≤ c) : takenW c k heat 0 = 0 := by
  unfold takenW
  simp only [Int.zero_mul]
  rw [show w64 0 = 0 from w64_id (by omega) (by omega)]
  simp only [Int.zero_tdiv]
  rw [show w64 0 = 0 from w64_id (by omega) (by omega)]
  exact w64_id (by omega) (by omega)
theorem heat_wait {c k heat : Int} (hc : 1 ≤ c) (h0 : 0 ≤ heat) (h1 : heat ≤ 1000000000) : heat1W c k heat 0 0 = heat := by
  unfold heat1W
  rw [taken_wait hc, w64_id (n := heat - 0) (by omega) (by omega), w64_id (by omega) (by omega)]
  omega
theorem act_wait (s : ByteArray) (c r heat : Int) : actNs s sWait = s ∧ actB1 s sWait = true ∧ actB2 sWait c r heat = true := by
  have e : (sWait.toList == sWait.toList) = true := by simp
  exact ⟨by unfold actNs; rw [e], by unfold actB1; rw [e], by unfold actB2; rw [e]⟩
section
variable {r0 r1 r2 r3 r4 r5 : Int}
def wzS : Nat → ByteArray := fun _ => sWait
def wzI : Nat → Int := fun _ => 0
/-- a wait from enough heat comes to no error -/
theorem wait_ok (h1 : rulesErr r0 r1 r2 r3 r4 r5 = 0) (k : Nat) {s : ByteArray} {heat : Int} (h0 : r2 * r0 + r1 ≤ heat) (h2 : heat ≤ 1000000000) (h3 : heat.tdiv r0 ≤ r4) :
    se wzS wzI wzI r0 r1 r2 r3 r4 r5 k s heat = 0 ∧ outW r0 r1 r5 heat 0 0 = heat - r1 ∧ lostW r1 (heat1W r0 r5 heat 0 0) = r1 ∧ (heat - r1).tdiv r0 ≤ r4 := by
  obtain ⟨⟨hc1, hc2⟩, ⟨hl1, hl2⟩, ⟨hf1, hf2⟩, _⟩ := rules0 h1
  have hp : 0 ≤ r2 * r0 := Int.mul_nonneg hf1 (by omega)
  obtain ⟨w1, w2, w3⟩ := act_wait s r0 r3 heat
  have eh := heat_wait (k := r5) hc1 (show 0 ≤ heat by omega) h2
  have el : lostW r1 (heat1W r0 r5 heat 0 0) = r1 := by
    unfold lostW
    rw [eh, if_neg (by omega)]
  have eo : outW r0 r1 r5 heat 0 0 = heat - r1 := by
    unfold outW
    rw [el, eh]
    exact w64_id (by omega) (by omega)
  obtain ⟨d1, d2, d3, d4⟩ := tdiv_bd (show 0 ≤ heat - r1 by omega) hc1
  have em := tdiv_mono (c := r0) (show 0 ≤ heat - r1 by omega) (show heat - r1 ≤ heat by omega) hc1
  have ed : degW r0 (heat - r1) = (heat - r1).tdiv r0 := w64_id (by omega) (by omega)
  refine ⟨?_, eo, el, by omega⟩
  show pE1 r0 r1 r2 r3 r4 r5 heat 0 0 s sWait = 0
  rw [pE1_iff, w1, w2, w3, eo, ed]
  refine ⟨⟨rfl, rfl, fun h => by omega⟩, by omega, fun _ => ?_, by omega⟩
  have : r2 * r0 < ((heat - r1).tdiv r0 + 1) * r0 := by omega
  have := Int.lt_of_mul_lt_mul_right this (by omega)
  omega
theorem waits_ok (h1 : rulesErr r0 r1 r2 r3 r4 r5 = 0) : ∀ (m k : Nat) (s : ByteArray) (heat t l : Int), r2 * r0 + m * r1 ≤ heat → heat ≤ 1000000000 → heat.tdiv r0 ≤ r4 → ∃ t' l', srGo wzS wzI wzI r0 r1 r2 r3 r4 r5 m k s heat t l = (s, heat - m * r1, t', l', none)
  | 0, k, s, heat, t, l, _, _, _ => ⟨t, l, by simp [srGo]⟩
  | m + 1, k, s, heat, t, l, h0, h2, h3 => by
    obtain ⟨⟨hc1, hc2⟩, ⟨hl1, hl2⟩, _⟩ := rules0 h1
    have hm : 0 ≤ (m : Int) * r1 := Int.mul_nonneg (by omega) hl1
    have e : ((m + 1 : Nat) : Int) * r1 = m * r1 + r1 := by push_cast; rw [Int.add_mul, Int.one_mul]
    rw [e] at h0
    obtain ⟨a1, a2, a3, a4⟩ := wait_ok h1 k (s := s) (show r2 * r0 + r1 ≤ heat by omega) h2 h3
    obtain ⟨v1, v2, v3, v4⟩ := step_vals a1
    have v1 : ss1 wzS wzI wzI r0 r1 r2 r3 r4 r5 k s heat = s := v1.trans (act_wait s r0 r3 heat).1
    have v2 : sh1 wzS wzI wzI r0 r1 r2 r3 r4 r5 k s heat = heat - r1 := v2.trans a2
    obtain ⟨t', l', x⟩ := waits_ok h1 m (k + 1) s (heat - r1) (w64 (t + st1 wzS wzI wzI r0 r1 r2 r3 r4 r5 k s heat)) (w64 (l + sl1 wzS wzI wzI r0 r1 r2 r3 r4 r5 k s heat)) (by omega) (by omega) a4
    refine ⟨t', l', ?_⟩
    unfold srGo
    rw [a1]
    simp only [bne_self_eq_false]
    rw [v1, v2, x, e]
    congr 2
    omega
/-- the wait behind the hold -/
theorem waits_end (h1 : rulesErr r0 r1 r2 r3 r4 r5 = 0) : ∀ (m k : Nat) (s : ByteArray) (heat t l : Int), neW s = true → 1 ≤ r2 → r2 * r0 + m * r1 ≤ heat → heat < r2 * r0 + (m + 1) * r1 → heat ≤ 1000000000 → heat.tdiv r0 ≤ r4 →
    ∃ s' g' t' l', srGo wzS wzI wzI r0 r1 r2 r3 r4 r5 (m + 1) k s heat t l = (s', g', t', l', some (k + m, 31))
  | 0, k, s, heat, t, l, hs, hf, h0, hlt, h2, h3 => by
    obtain ⟨⟨hc1, hc2⟩, ⟨hl1, hl2⟩, ⟨hf1, hf2⟩, _, ⟨hh1, hh2⟩, _⟩ := rules0 h1
    have hp : 0 ≤ r2 * r0 := Int.mul_nonneg hf1 (by omega)
    simp only [Int.natCast_zero, Int.zero_mul, Int.zero_add, Int.one_mul, Int.add_zero] at h0 hlt
    obtain ⟨w1, w2, w3⟩ := act_wait s r0 r3 heat
    have eh := heat_wait (k := r5) hc1 (show 0 ≤ heat by omega) h2
    have eo : 0 ≤ outW r0 r1 r5 heat 0 0 ∧ outW r0 r1 r5 heat 0 0 < r2 * r0 ∧ outW r0 r1 r5 heat 0 0 ≤ heat := by
      have hb : r0 ≤ r2 * r0 := by
        have := Int.mul_le_mul_of_nonneg_right hf (show 0 ≤ r0 by omega)
        omega
      unfold outW lostW
      rw [eh]
      split <;> (rw [w64_id (by omega) (by omega)]; omega)
    obtain ⟨d1, d2, d3, d4⟩ := tdiv_bd eo.1 hc1
    have ed : degW r0 (outW r0 r1 r5 heat 0 0) = (outW r0 r1 r5 heat 0 0).tdiv r0 := w64_id (by omega) (by omega)
    have hdf : (outW r0 r1 r5 heat 0 0).tdiv r0 < r2 := by
      have : (outW r0 r1 r5 heat 0 0).tdiv r0 * r0 < r2 * r0 := by omega
      exact Int.lt_of_mul_lt_mul_right this (by omega)
    have he : se wzS wzI wzI r0 r1 r2 r3 r4 r5 k s heat = 31 := by
      show pE1 r0 r1 r2 r3 r4 r5 heat 0 0 s sWait = 31
      unfold pE1 eW e1W e2W err1W err2W
      rw [w1, w2, w3, hs, ed]
      have a1 : decide (1000000000 < outW r0 r1 r5 heat 0 0) = false := by simp only [decide_eq_false_iff_not]; omega
      have a2 : decide ((outW r0 r1 r5 heat 0 0).tdiv r0 < r2) = true := by simpa using hdf
      rw [a1, a2]
      rfl
    exact ⟨s, heat, t, l, by unfold srGo; rw [he]; rfl⟩
  | m + 1, k, s, heat, t, l, hs, hf, h0, hlt, h2, h3 => by
    obtain ⟨⟨hc1, hc2⟩, ⟨hl1, hl2⟩, _⟩ := rules0 h1
    have hm : 0 ≤ (m : Int) * r1 := Int.mul_nonneg (by omega) hl1
    have e : ((m + 1 : Nat) : Int) * r1 = m * r1 + r1 := by push_cast; rw [Int.add_mul, Int.one_mul]
    have e2 : (((m + 1 : Nat) : Int) + 1) * r1 = m * r1 + r1 + r1 := by push_cast; rw [Int.add_mul, Int.add_mul, Int.one_mul]
    have e3 : ((m : Int) + 1) * r1 = m * r1 + r1 := by rw [Int.add_mul, Int.one_mul]
    rw [e] at h0
    rw [e2] at hlt
    obtain ⟨a1, a2, a3, a4⟩ := wait_ok h1 k (s := s) (show r2 * r0 + r1 ≤ heat by omega) h2 h3
    obtain ⟨v1, v2, v3, v4⟩ := step_vals a1
    have v1 : ss1 wzS wzI wzI r0 r1 r2 r3 r4 r5 k s heat = s := v1.trans (act_wait s r0 r3 heat).1
    have v2 : sh1 wzS wzI wzI r0 r1 r2 r3 r4 r5 k s heat = heat - r1 := v2.trans a2
    obtain ⟨s', g', t', l', x⟩ := waits_end h1 m (k + 1) s (heat - r1) (w64 (t + st1 wzS wzI wzI r0 r1 r2 r3 r4 r5 k s heat)) (w64 (l + sl1 wzS wzI wzI r0 r1 r2 r3 r4 r5 k s heat)) hs hf (by omega) (by rw [e3]; omega) (by omega) a4
    refine ⟨s', g', t', l', ?_⟩
    have y : srGo wzS wzI wzI r0 r1 r2 r3 r4 r5 (m + 1 + 1) k s heat t l = srGo wzS wzI wzI r0 r1 r2 r3 r4 r5 (m + 1) (k + 1) s (heat - r1) (w64 (t + st1 wzS wzI wzI r0 r1 r2 r3 r4 r5 k s heat)) (w64 (l + sl1 wzS wzI wzI r0 r1 r2 r3 r4 r5 k s heat)) := by
      conv => lhs; unfold srGo
      rw [a1]
      simp only [bne_self_eq_false]
      rw [v1, v2]
    rw [y, x, show k + 1 + m = k + (m + 1) by omega]
end
end Go.Ev

namespace Go.Ev
open Go Go.Proofs
set_option maxRecDepth 100000

/-- what 'make' lays is told by columns -/
def specRows : Spec := fun _ _ => .fail 777
theorem specRows_ok : SpecOk Tryz.prog 999999 specRows := fun args h v h' hr => by cases hr
noncomputable def tbHo : List (FuncId × Spec) := (999999, specRows) :: (13, specAwake) :: (15, toldcSp) :: (14, suSp) :: (63, srSp) :: tb_tq
theorem tbHo_ok : TabOk Tryz.prog (tabOf tbHo) := tab_cons (tab_cons (tab_cons (tab_cons (tab_cons tb_tq_ok sr_ok) su_ok) toldc_ok) specAwake_ok) specRows_ok
noncomputable def reH : Code → St → Tree (X × St) := recT Tryz.prog (tabOf tbHo)
noncomputable def fnH : Func := Tryz.f9
noncomputable def cO : Code := loopF Tryz.f9
noncomputable def pI : List Bool := pathOf cO 0
noncomputable def cI : Code := nthLoop cO pI
def cu (x : Int) : C := .lit (.int .u8 x)
section
variable (n : Nat) (z0 : Nat → ByteArray) (z1 z2 z3 : Nat → Int) (r0 r1 r2 r3 r4 r5 : Int) (s : ByteArray) (heat : Int) (u0 u1 u2 : Int)
def chosenC : List C := [.sl false 0 0 4 0 n, cu u0, cu u1, cu u2]
def hoArgs : List A := [.agg (rulesC r0 r1 r2 r3 r4 r5), .agg [cs s, ci heat], .agg (chosenC n u0 u1 u2)]
def hoB : St := { baseB 314 (hoArgs n r0 r1 r2 r3 r4 r5 s heat u0 u1 u2) (hpL1 n (st4 z0 z1 z2 z3)) with keep := true }
def hoN (env : List (Nat × A)) (news : List Blk) : St := stN 314 (envL env) (bsS [⟨some 0, n, st4 z0 z1 z2 z3⟩] glS) (globsG 1 glS) news true
def hoBl : List Blk := [⟨false, 23, .flat (rulesC r0 r1 r2 r3 r4 r5)⟩, rcv 25 s heat, ⟨false, 132, .flat (chosenC n u0 u1 u2)⟩]
def shareA : A := .agg [ci 0, ci 255, ci (IntKind.i64.wrap u0), ci (IntKind.i64.wrap u1), ci (IntKind.i64.wrap u2)]
variable (lo hi at' e1 : Int)
def hoEnv (f j : Int) : List (Nat × A) := [(3, pt 3), (4, pt 4), (5, pt 5), (7, pt 6), (8, int at'), (9, int e1), (10, int f), (98, shareA u0 u1 u2), (99, int j)]
def hoNews : List Blk := hoBl n r0 r1 r2 r3 r4 r5 s heat u0 u1 u2 ++ [itv lo hi]
/-- at the head of the outer loop -/
def hoH (f j : Int) : St := hoN n z0 z1 z2 z3 (hoEnv u0 u1 u2 at' e1 f j) (hoNews n r0 r1 r2 r3 r4 r5 s heat u0 u1 u2 lo hi)
end
def hoSl : List Nat := [3, 4, 5, 7, 8, 9, 10, 98, 99]
noncomputable def hoO (n : Nat) (z0 : Nat → ByteArray) (z1 z2 z3 : Nat → Int) (r0 r1 r2 r3 r4 r5 : Int) (s : ByteArray) (heat : Int) (u0 u1 u2 : Int) : Tree ((X × St) ⊕ (List Bool × St)) := evO reH (bodyOf fnH) hoSl [6] (hoB n z0 z1 z2 z3 r0 r1 r2 r3 r4 r5 s heat u0 u1 u2)
end Go.Ev

namespace Go.Ev
open Go Go.Proofs
set_option maxRecDepth 100000

abbrev SkO := Sk ((X × St) ⊕ (List Bool × St))
section
variable (n : Nat) (z0 : Nat → ByteArray) (z1 z2 z3 : Nat → Int) (r0 r1 r2 r3 r4 r5 : Int) (s : ByteArray) (heat : Int) (u0 u1 u2 : Int)
def hoP : R4 := suP (sureE n z0 z1 z2 z3 r0 r1 r2 r3 r4 r5 s heat) (suGo z0 z1 z2 z3 r0 r1 r2 r3 r4 r5 n 0 s heat s heat)
def hoR (b : Bool) : St := hoN n z0 z1 z2 z3 [(6, boo b)] []
def hoL (b : Bool) : SkO := .leaf (.inl (.ret, hoR n z0 z1 z2 z3 b))
noncomputable def hoS0 (p : R4) : SkO := .leaf (.inr (pathF Tryz.f9, hoH n z0 z1 z2 z3 r0 r1 r2 r3 r4 r5 s heat u0 u1 u2 p.1 p.2.1 p.2.2.1 p.2.2.2 0 0))
noncomputable def hoA (p : R4) : SkO := .node (p.2.2.2 != 0) (.node (decide (p.2.2.1 < 0)) (.tt (hoL n z0 z1 z2 z3 false)) (.node (decide (p.2.2.1 ≥ (n : Int))) (hoL n z0 z1 z2 z3 false) (hoS0 n z0 z1 z2 z3 r0 r1 r2 r3 r4 r5 s heat u0 u1 u2 p))) (.ff (hoS0 n z0 z1 z2 z3 r0 r1 r2 r3 r4 r5 s heat u0 u1 u2 p))
noncomputable def hoPre : SkO := .node (qrulesErr r0 r1 r2 r3 r4 r5 != 0) (.tt (.tt (.tt (.tt (hoL n z0 z1 z2 z3 true))))) (.node (qrecvErr s heat != 0) (.tt (.tt (.tt (hoL n z0 z1 z2 z3 true)))) (.need (okN n) (.need (Nat.ble n 9223372036854775807)
  (.node (!shortB n z0) (.tt (.tt (hoL n z0 z1 z2 z3 true))) (.node (decide ((n : Int) > 8)) (.tt (hoL n z0 z1 z2 z3 true)) (.need (okN n) (.need (Nat.ble n 9223372036854775807) (.node (qplanE n (qtC z0 z1 z2 z3 r0) != 0) (hoL n z0 z1 z2 z3 true)
    (.need (okN n) (.need (Nat.ble n 1000000) (.node (Nat.beq n 0) (hoA n z0 z1 z2 z3 r0 r1 r2 r3 r4 r5 s heat u0 u1 u2 (hoP 0 (fun _ => ⟨#[]⟩) (fun _ => 0) (fun _ => 0) (fun _ => 0) r0 r1 r2 r3 r4 r5 s heat))
      (.need (okN n) (.need (Nat.ble n 1000000) (hoA n z0 z1 z2 z3 r0 r1 r2 r3 r4 r5 s heat u0 u1 u2 (hoP n z0 z1 z2 z3 r0 r1 r2 r3 r4 r5 s heat)))))))))))))))
theorem ho_pre : hoO n z0 z1 z2 z3 r0 r1 r2 r3 r4 r5 s heat u0 u1 u2 = into (hoO n z0 z1 z2 z3 r0 r1 r2 r3 r4 r5 s heat u0 u1 u2) (hoPre n z0 z1 z2 z3 r0 r1 r2 r3 r4 r5 s heat u0 u1 u2) := by kernel_rfl
theorem ho_pre_fits : fits (hoO n z0 z1 z2 z3 r0 r1 r2 r3 r4 r5 s heat u0 u1 u2) (hoPre n z0 z1 z2 z3 r0 r1 r2 r3 r4 r5 s heat u0 u1 u2) = true := by kernel_rfl

/-! ### A round of the outer loop, up to the inner loop -/
variable (lo hi at' e1 f j c : Int)
def hoEnvC (L : Int) : List (Nat × A) := [(12, int c), (14, int L)] ++ hoEnv u0 u1 u2 at' e1 f j
/-- at the head of the inner loop, before its first round -/
def hoI0 : St := hoN n z0 z1 z2 z3 ([(13, nilA), (103, slT 0 4 n), (104, int n), (105, int 0)] ++ hoEnvC u0 u1 u2 at' e1 f j c 0) (hoNews n r0 r1 r2 r3 r4 r5 s heat u0 u1 u2 lo hi)
end
def hoSlI : List Nat := [3, 4, 5, 7, 8, 9, 10, 12, 13, 14, 98, 99, 103, 104, 105]
noncomputable def hoRound (n : Nat) (z0 : Nat → ByteArray) (z1 z2 z3 : Nat → Int) (r0 r1 r2 r3 r4 r5 : Int) (s : ByteArray) (heat : Int) (u0 u1 u2 : Int) (lo hi at' e1 f j : Int) : Tree ((X × St) ⊕ (List Bool × St)) := evO2I reH cO hoSlI (hoB n z0 z1 z2 z3 r0 r1 r2 r3 r4 r5 s heat u0 u1 u2) (hoH n z0 z1 z2 z3 r0 r1 r2 r3 r4 r5 s heat u0 u1 u2 lo hi at' e1 f j)
where evO2I (rec : Code → St → Tree (X × St)) (c : Code) (slots : List Nat) (sB st : St) : Tree ((X × St) ⊕ (List Bool × St)) := (evB rec c st).bind (canO slots [3, 4, 9, 10] sB)
end Go.Ev

namespace Go.Ev
open Go Go.Proofs
set_option maxRecDepth 100000

/-- which part of an interval is taken -/
def partF (c : Int) (k : Nat) : Int := match c != 0 with
  | true => match c != 255 with
    | true => (w64 (c + w64 (31 * (k : Int)))).tmod 256
    | false => c
  | false => c
def lightV (z1 z2 : Nat → Int) (k : Nat) (p : Int) : Int := w64 (z1 k + w64 ((w64 (w64 (z2 k - z1 k) * p)).tdiv 255))
def lightF (z1 z2 : Nat → Int) (c : Int) (k : Nat) : Int := lightV z1 z2 k (partF c k)
/-- the lights so far -/
def sumW (z1 z2 : Nat → Int) (c : Int) : Nat → Int
  | 0 => 0
  | k + 1 => w64 (sumW z1 z2 c k + lightF z1 z2 c k)
def stepC (z0 : Nat → ByteArray) (zl z3 : Nat → Int) : List Col := [.str z0, .int .i64 zl, .int .i64 z3]
section
variable (n : Nat) (z0 : Nat → ByteArray) (z1 z2 z3 : Nat → Int) (r0 r1 r2 r3 r4 r5 : Int) (s : ByteArray) (heat : Int) (u0 u1 u2 : Int)
variable (lo hi at' e1 f j c : Int)
def hoIS (l : A) (i L : Int) (news : List Blk) : St := hoN n z0 z1 z2 z3 ([(13, l), (103, slT 0 4 n), (104, int n), (105, int i)] ++ hoEnvC u0 u1 u2 at' e1 f j c L) (hoNews n r0 r1 r2 r3 r4 r5 s heat u0 u1 u2 lo hi ++ news)
def hoI : Nat → St
  | 0 => hoIS n z0 z1 z2 z3 r0 r1 r2 r3 r4 r5 s heat u0 u1 u2 lo hi at' e1 f j c nilA 0 0 []
  | k + 1 => hoIS n z0 z1 z2 z3 r0 r1 r2 r3 r4 r5 s heat u0 u1 u2 lo hi at' e1 f j c (slO 7 3 (k + 1)) ((k + 1 : Nat) : Int) (sumW z1 z2 c (k + 1)) [⟨false, 137, .rows (k + 1) (stepC z0 (lightF z1 z2 c) z3)⟩]
def hoXS (l : A) (L : Int) (news : List Blk) : St := hoN n z0 z1 z2 z3 ([(13, l)] ++ hoEnvC u0 u1 u2 at' e1 f j c L) (hoNews n r0 r1 r2 r3 r4 r5 s heat u0 u1 u2 lo hi ++ news)
def hoX : Nat → St
  | 0 => hoXS n z0 z1 z2 z3 r0 r1 r2 r3 r4 r5 s heat u0 u1 u2 lo hi at' e1 f j c nilA 0 []
  | k + 1 => hoXS n z0 z1 z2 z3 r0 r1 r2 r3 r4 r5 s heat u0 u1 u2 lo hi at' e1 f j c (slO 7 3 (k + 1)) (sumW z1 z2 c (k + 1)) [⟨false, 137, .rows (k + 1) (stepC z0 (lightF z1 z2 c) z3)⟩]
noncomputable def hoIT (k : Nat) : Tree (X × St) := (reH cI (hoI n z0 z1 z2 z3 r0 r1 r2 r3 r4 r5 s heat u0 u1 u2 lo hi at' e1 f j c k)).bind (canonT hoSlI [3, 4, 5, 7, 8, 9, 10, 12, 13, 14, 98, 99] (hoB n z0 z1 z2 z3 r0 r1 r2 r3 r4 r5 s heat u0 u1 u2))
/-! ### its rounds -/
noncomputable def hoStep0 (p : Int) : Sk (X × St) := .leaf (.normal, hoIS n z0 z1 z2 z3 r0 r1 r2 r3 r4 r5 s heat u0 u1 u2 lo hi at' e1 f j c (slO 7 3 1) (IntKind.i64.wrap (((0 : Nat) : Int) + 1)) (w64 (0 + lightV z1 z2 0 p)) [⟨false, 137, .flat [cs (z0 0), ci (lightV z1 z2 0 p), ci (z3 0)]⟩])
noncomputable def hoStep1 (k : Nat) (p : Int) : Sk (X × St) := .need (Nat.ble (k + 1) (k + 1) && Nat.blt ((k + 1 + 1) * ((Tryz.prog.info? 137).map (·.bytes)).getD 0) 140737488355328 && Nat.ble (k + 1 + 1) 9223372036854775807)
  (.leaf (.normal, hoIS n z0 z1 z2 z3 r0 r1 r2 r3 r4 r5 s heat u0 u1 u2 lo hi at' e1 f j c (slO 7 3 (k + 1 + 1)) (IntKind.i64.wrap (((k + 1 : Nat) : Int) + 1)) (w64 (sumW z1 z2 c (k + 1) + lightV z1 z2 (0 + Int.toNat ((k + 1 : Nat) : Int)) p))
    [⟨false, 137, .rows (k + 1 + 1) [.str (putF z0 (k + 1) (z0 (0 + Int.toNat ((k + 1 : Nat) : Int)))), .int .i64 (putF (lightF z1 z2 c) (k + 1) (lightV z1 z2 (0 + Int.toNat ((k + 1 : Nat) : Int)) p)), .int .i64 (putF z3 (k + 1) (z3 (0 + Int.toNat ((k + 1 : Nat) : Int))))]⟩]))
noncomputable def hoISk : Nat → Sk (X × St)
  | 0 => .node (decide ((0 : Int) < (n : Int))) (.need (decide ((0 : Int) ≤ 0) && decide ((0 : Int) < (n : Int))) (.need (Nat.blt (0 + Int.toNat 0) n) (.need (Nat.blt (0 + Int.toNat 0) n) (.need (Nat.blt (0 + Int.toNat 0) n) (.need (Nat.blt (0 + Int.toNat 0) n)
      (.node (c != 0) (.node (c != 255) (hoStep0 n z0 z1 z2 z3 r0 r1 r2 r3 r4 r5 s heat u0 u1 u2 lo hi at' e1 f j c ((w64 (c + w64 (31 * ((0 : Nat) : Int)))).tmod 256)) (hoStep0 n z0 z1 z2 z3 r0 r1 r2 r3 r4 r5 s heat u0 u1 u2 lo hi at' e1 f j c c)) (.ff (hoStep0 n z0 z1 z2 z3 r0 r1 r2 r3 r4 r5 s heat u0 u1 u2 lo hi at' e1 f j c c))))))))
      (.leaf (.exit 2, hoX n z0 z1 z2 z3 r0 r1 r2 r3 r4 r5 s heat u0 u1 u2 lo hi at' e1 f j c 0))
  | k + 1 => .node (decide (((k + 1 : Nat) : Int) < (n : Int))) (.need (decide ((0 : Int) ≤ ((k + 1 : Nat) : Int)) && decide (((k + 1 : Nat) : Int) < (n : Int))) (.need (Nat.blt (0 + Int.toNat ((k + 1 : Nat) : Int)) n) (.need (Nat.blt (0 + Int.toNat ((k + 1 : Nat) : Int)) n) (.need (Nat.blt (0 + Int.toNat ((k + 1 : Nat) : Int)) n) (.need (Nat.blt (0 + Int.toNat ((k + 1 : Nat) : Int)) n)
      (.node (c != 0) (.node (c != 255) (.nn (.nn (hoStep1 n z0 z1 z2 z3 r0 r1 r2 r3 r4 r5 s heat u0 u1 u2 lo hi at' e1 f j c k ((w64 (c + w64 (31 * ((k + 1 : Nat) : Int)))).tmod 256)))) (.nn (hoStep1 n z0 z1 z2 z3 r0 r1 r2 r3 r4 r5 s heat u0 u1 u2 lo hi at' e1 f j c k c))) (.ff (.nn (hoStep1 n z0 z1 z2 z3 r0 r1 r2 r3 r4 r5 s heat u0 u1 u2 lo hi at' e1 f j c k c)))))))))
      (.leaf (.exit 2, hoX n z0 z1 z2 z3 r0 r1 r2 r3 r4 r5 s heat u0 u1 u2 lo hi at' e1 f j c (k + 1)))
theorem hoI_into (k : Nat) : hoIT n z0 z1 z2 z3 r0 r1 r2 r3 r4 r5 s heat u0 u1 u2 lo hi at' e1 f j c k = into (hoIT n z0 z1 z2 z3 r0 r1 r2 r3 r4 r5 s heat u0 u1 u2 lo hi at' e1 f j c k) (hoISk n z0 z1 z2 z3 r0 r1 r2 r3 r4 r5 s heat u0 u1 u2 lo hi at' e1 f j c k) := by
  cases k with
  | zero => kernel_rfl
  | succ k => kernel_rfl
theorem hoI_fits (k : Nat) : fits (hoIT n z0 z1 z2 z3 r0 r1 r2 r3 r4 r5 s heat u0 u1 u2 lo hi at' e1 f j c k) (hoISk n z0 z1 z2 z3 r0 r1 r2 r3 r4 r5 s heat u0 u1 u2 lo hi at' e1 f j c k) = true := by
  cases k with
  | zero => kernel_rfl
  | succ k => kernel_rfl
theorem part_yes {c : Int} (k : Nat) (h1 : (c != 0) = true) (h2 : (c != 255) = true) : partF c k = (w64 (c + w64 (31 * (k : Int)))).tmod 256 := by unfold partF; rw [h1, h2]
theorem part_no {c : Int} (k : Nat) (h1 : (c != 0) = false ∨ (c != 255) = false) : partF c k = c := by
  unfold partF
  rcases h1 with h1 | h1
  · rw [h1]
  · rw [h1]; cases c != 0 <;> rfl
theorem hoStep0_ok (hn : n ≤ 1000000) (fin : Nat → X × St) (hf : fin 1 = fin 0) {p : Int} (hp : p = partF c 0) : SkLeads (Rnd (hoI n z0 z1 z2 z3 r0 r1 r2 r3 r4 r5 s heat u0 u1 u2 lo hi at' e1 f j c) fin 0) (hoStep0 n z0 z1 z2 z3 r0 r1 r2 r3 r4 r5 s heat u0 u1 u2 lo hi at' e1 f j c p) := by
  subst hp
  refine sk_leaf (rnd_next ?_ hf)
  rw [wrap_succ (k := 0) (by omega)]
  exact le_news (show 7 + 1 ≤ lim by decide) ⟨⟨rfl, fun _ _ _ h => h⟩, ⟨rfl, fun _ _ _ h => h⟩, ⟨rfl, fun _ _ _ h => h⟩, ⟨rfl, fun _ _ _ h => h⟩, ⟨rfl, blk_body rfl (fun cs e => by cases e) fun E arr hh => rows_one rfl (fun j c col h1 h2 => by match j, h1, h2 with | 0, h1, h2 => injection h1 with h1; injection h2 with h2; subst h1; subst h2; rfl | 1, h1, h2 => injection h1 with h1; injection h2 with h2; subst h1; subst h2; rfl | 2, h1, h2 => injection h1 with h1; injection h2 with h2; subst h1; subst h2; rfl) hh⟩, trivial⟩
theorem hoStep1_ok {k : Nat} (hk : k + 1 < n) (hn : n ≤ 1000000) (fin : Nat → X × St) (hf : fin (k + 1 + 1) = fin (k + 1)) {p : Int} (hp : p = partF c (k + 1)) : SkLeads (Rnd (hoI n z0 z1 z2 z3 r0 r1 r2 r3 r4 r5 s heat u0 u1 u2 lo hi at' e1 f j c) fin (k + 1)) (hoStep1 n z0 z1 z2 z3 r0 r1 r2 r3 r4 r5 s heat u0 u1 u2 lo hi at' e1 f j c k p) := by
  have d0 : ((Tryz.prog.info? 137).map (·.bytes)).getD 0 = 32 := by kernel_rfl
  have d3 : Nat.blt ((k + 1 + 1) * ((Tryz.prog.info? 137).map (·.bytes)).getD 0) 140737488355328 = true := by rw [d0, Nat.blt_eq]; omega
  have d4 : Nat.ble (k + 1 + 1) 9223372036854775807 = true := by rw [Nat.ble_eq]; omega
  unfold hoStep1
  refine sk_need (by rw [ble_self, d3, d4]; rfl) (sk_leaf (rnd_next ?_ hf))
  rw [idx_nat, wrap_succ (by omega), hp, show lightV z1 z2 (k + 1) (partF c (k + 1)) = lightF z1 z2 c (k + 1) from rfl, putF_self, putF_self, putF_self]
  exact St.Le.refl _
theorem hoI_loop (hn : n ≤ 1000000) : ComesF Tryz.prog (.loop cI) (hoB n z0 z1 z2 z3 r0 r1 r2 r3 r4 r5 s heat u0 u1 u2) (hoI n z0 z1 z2 z3 r0 r1 r2 r3 r4 r5 s heat u0 u1 u2 lo hi at' e1 f j c 0) fun q => q = (.exit 2, hoX n z0 z1 z2 z3 r0 r1 r2 r3 r4 r5 s heat u0 u1 u2 lo hi at' e1 f j c n) := by
  refine loop_count (recT_ok tbHo_ok) rfl hoSlI [3, 4, 5, 7, 8, 9, 10, 12, 13, 14, 98, 99] (hoI n z0 z1 z2 z3 r0 r1 r2 r3 r4 r5 s heat u0 u1 u2 lo hi at' e1 f j c) (fun _ => (.exit 2, hoX n z0 z1 z2 z3 r0 r1 r2 r3 r4 r5 s heat u0 u1 u2 lo hi at' e1 f j c n)) n (hoIT n z0 z1 z2 z3 r0 r1 r2 r3 r4 r5 s heat u0 u1 u2 lo hi at' e1 f j c) (hoISk n z0 z1 z2 z3 r0 r1 r2 r3 r4 r5 s heat u0 u1 u2 lo hi at' e1 f j c) (fun _ => rfl) (hoI_into n z0 z1 z2 z3 r0 r1 r2 r3 r4 r5 s heat u0 u1 u2 lo hi at' e1 f j c) (hoI_fits n z0 z1 z2 z3 r0 r1 r2 r3 r4 r5 s heat u0 u1 u2 lo hi at' e1 f j c) (fun k hk => ?_) ?_
  · obtain ⟨a1, a2, a3⟩ := rnd_lt hk
    cases k with
    | zero =>
      refine sk_yes a1 (sk_need a2 (sk_need a3 (sk_need a3 (sk_need a3 (sk_need a3 (sk_either (fun h1 => sk_either (fun h2 => ?_) fun h2 => ?_) fun h1 => sk_ff ?_))))))
      · exact hoStep0_ok n z0 z1 z2 z3 r0 r1 r2 r3 r4 r5 s heat u0 u1 u2 lo hi at' e1 f j c hn _ rfl (part_yes 0 h1 h2).symm
      · exact hoStep0_ok n z0 z1 z2 z3 r0 r1 r2 r3 r4 r5 s heat u0 u1 u2 lo hi at' e1 f j c hn _ rfl (part_no 0 (.inr h2)).symm
      · exact hoStep0_ok n z0 z1 z2 z3 r0 r1 r2 r3 r4 r5 s heat u0 u1 u2 lo hi at' e1 f j c hn _ rfl (part_no 0 (.inl h1)).symm
    | succ k =>
      refine sk_yes a1 (sk_need a2 (sk_need a3 (sk_need a3 (sk_need a3 (sk_need a3 (sk_either (fun h1 => sk_either (fun h2 => sk_nn (sk_nn ?_)) fun h2 => sk_nn ?_) fun h1 => sk_ff (sk_nn ?_)))))))
      · exact hoStep1_ok n z0 z1 z2 z3 r0 r1 r2 r3 r4 r5 s heat u0 u1 u2 lo hi at' e1 f j c hk hn _ rfl (part_yes _ h1 h2).symm
      · exact hoStep1_ok n z0 z1 z2 z3 r0 r1 r2 r3 r4 r5 s heat u0 u1 u2 lo hi at' e1 f j c hk hn _ rfl (part_no _ (.inr h2)).symm
      · exact hoStep1_ok n z0 z1 z2 z3 r0 r1 r2 r3 r4 r5 s heat u0 u1 u2 lo hi at' e1 f j c hk hn _ rfl (part_no _ (.inl h1)).symm
  · cases n with
    | zero => exact sk_no (rnd_end 0) (sk_leaf rfl)
    | succ k => exact sk_no (rnd_end (k + 1)) (sk_leaf rfl)
end
end Go.Ev

namespace Go.Ev
open Go Go.Proofs
set_option maxRecDepth 100000

abbrev R6 := ByteArray × Int × Int × Int × Int × Int

def hoSlR : List Nat := hoSl ++ [6]
noncomputable def hoQ (z0 : Nat → ByteArray) (z1 z2 z3 : Nat → Int) (r0 r1 r2 r3 r4 r5 : Int) (s : ByteArray) (heat : Int) (u0 u1 u2 : Int) (lo hi at' e1 f j c : Int) (n : Nat) : Tree ((X × St) ⊕ (List Bool × St)) := evO2 reH true cO pI hoSl hoSlR (hoB n z0 z1 z2 z3 r0 r1 r2 r3 r4 r5 s heat u0 u1 u2) (.exit 2, hoX n z0 z1 z2 z3 r0 r1 r2 r3 r4 r5 s heat u0 u1 u2 lo hi at' e1 f j c n)
noncomputable def hoNx (z0 : Nat → ByteArray) (z1 z2 z3 : Nat → Int) (r0 r1 r2 r3 r4 r5 : Int) (s : ByteArray) (heat : Int) (u0 u1 u2 : Int) (lo hi at' e1 f j c : Int) (n : Nat) (g : Int) : SkO := .leaf (.inl (.normal, hoH n z0 z1 z2 z3 r0 r1 r2 r3 r4 r5 s heat u0 u1 u2 lo hi at' e1 g (IntKind.i64.wrap (j + 1))))
noncomputable def hoRq (z0 : Nat → ByteArray) (z1 z2 z3 : Nat → Int) (r0 r1 r2 r3 r4 r5 : Int) (s : ByteArray) (heat : Int) (u0 u1 u2 : Int) (lo hi at' e1 f j c : Int) (n : Nat) : SkO := .leaf (.inl (.ret, hoN n z0 z1 z2 z3 ((6, boo false) :: hoEnv u0 u1 u2 at' e1 f j) (hoNews n r0 r1 r2 r3 r4 r5 s heat u0 u1 u2 lo hi)))
noncomputable def hoQA (z0 : Nat → ByteArray) (z1 z2 z3 : Nat → Int) (r0 r1 r2 r3 r4 r5 : Int) (s : ByteArray) (heat : Int) (u0 u1 u2 : Int) (lo hi at' e1 f j c : Int) (n : Nat) (p : R6) (L : Int) : SkO := .node (e1 == 0)
  (.node (p.2.2.2.2.2 != 0) (.tt (.tt (.tt (.tt (hoRq z0 z1 z2 z3 r0 r1 r2 r3 r4 r5 s heat u0 u1 u2 lo hi at' e1 f j c n))))) (.node (decide (p.2.1 < lo)) (.tt (.tt (.tt (hoRq z0 z1 z2 z3 r0 r1 r2 r3 r4 r5 s heat u0 u1 u2 lo hi at' e1 f j c n)))) (.node (decide (p.2.1 > hi)) (.tt (.tt (hoRq z0 z1 z2 z3 r0 r1 r2 r3 r4 r5 s heat u0 u1 u2 lo hi at' e1 f j c n)))
    (.node (p.2.1 != w64 (w64 (w64 (heat + L) - p.2.2.1) - p.2.2.2.1)) (.tt (hoRq z0 z1 z2 z3 r0 r1 r2 r3 r4 r5 s heat u0 u1 u2 lo hi at' e1 f j c n)) (.node (decide (p.2.2.2.1 < 0)) (hoRq z0 z1 z2 z3 r0 r1 r2 r3 r4 r5 s heat u0 u1 u2 lo hi at' e1 f j c n) (hoNx z0 z1 z2 z3 r0 r1 r2 r3 r4 r5 s heat u0 u1 u2 lo hi at' e1 f j c n f))))))
  (.node (p.2.2.2.2.2 == 0) (hoNx z0 z1 z2 z3 r0 r1 r2 r3 r4 r5 s heat u0 u1 u2 lo hi at' e1 f j c n f) (.node (decide (p.2.2.2.2.1 < at')) (hoRq z0 z1 z2 z3 r0 r1 r2 r3 r4 r5 s heat u0 u1 u2 lo hi at' e1 f j c n) (.node (p.2.2.2.2.1 == at') (.node (c == 0) (.tt (hoNx z0 z1 z2 z3 r0 r1 r2 r3 r4 r5 s heat u0 u1 u2 lo hi at' e1 f j c n (IntKind.i64.wrap (f + 1)))) (.node (c == 255) (hoNx z0 z1 z2 z3 r0 r1 r2 r3 r4 r5 s heat u0 u1 u2 lo hi at' e1 f j c n (IntKind.i64.wrap (f + 1))) (hoNx z0 z1 z2 z3 r0 r1 r2 r3 r4 r5 s heat u0 u1 u2 lo hi at' e1 f j c n f))) (.ff (hoNx z0 z1 z2 z3 r0 r1 r2 r3 r4 r5 s heat u0 u1 u2 lo hi at' e1 f j c n f)))))
/-- what a run by chosen lights hands back -/
def hoRun (z0 : Nat → ByteArray) (zl z3 : Nat → Int) (r0 r1 r2 r3 r4 r5 : Int) (s : ByteArray) (heat : Int) (n : Nat) : R6 := rvS (srunE n z0 zl z3 r0 r1 r2 r3 r4 r5 s heat) (srGo z0 zl z3 r0 r1 r2 r3 r4 r5 n 0 s heat 0 0)
noncomputable def hoQSk (z0 : Nat → ByteArray) (z1 z2 z3 : Nat → Int) (r0 r1 r2 r3 r4 r5 : Int) (s : ByteArray) (heat : Int) (u0 u1 u2 : Int) (lo hi at' e1 f j c : Int) : Nat → SkO
  | 0 => .tt (hoQA z0 z1 z2 z3 r0 r1 r2 r3 r4 r5 s heat u0 u1 u2 lo hi at' e1 f j c 0 (hoRun (fun _ => ⟨#[]⟩) (fun _ => 0) (fun _ => 0) r0 r1 r2 r3 r4 r5 s heat 0) 0)
  | k + 1 => .need (okN (k + 1)) (.need (Nat.ble (k + 1) 1000000) (.ff (.need (okN (k + 1)) (.need (Nat.ble (k + 1) 1000000) (hoQA z0 z1 z2 z3 r0 r1 r2 r3 r4 r5 s heat u0 u1 u2 lo hi at' e1 f j c (k + 1) (hoRun z0 (lightF z1 z2 c) z3 r0 r1 r2 r3 r4 r5 s heat (k + 1)) (sumW z1 z2 c (k + 1)))))))
theorem hoQ_into (z0 : Nat → ByteArray) (z1 z2 z3 : Nat → Int) (r0 r1 r2 r3 r4 r5 : Int) (s : ByteArray) (heat : Int) (u0 u1 u2 : Int) (lo hi at' e1 f j c : Int) (n : Nat) : hoQ z0 z1 z2 z3 r0 r1 r2 r3 r4 r5 s heat u0 u1 u2 lo hi at' e1 f j c n = into (hoQ z0 z1 z2 z3 r0 r1 r2 r3 r4 r5 s heat u0 u1 u2 lo hi at' e1 f j c n) (hoQSk z0 z1 z2 z3 r0 r1 r2 r3 r4 r5 s heat u0 u1 u2 lo hi at' e1 f j c n) := by
  cases n with
  | zero => kernel_rfl
  | succ k => kernel_rfl
theorem hoQ_fits (z0 : Nat → ByteArray) (z1 z2 z3 : Nat → Int) (r0 r1 r2 r3 r4 r5 : Int) (s : ByteArray) (heat : Int) (u0 u1 u2 : Int) (lo hi at' e1 f j c : Int) (n : Nat) : fits (hoQ z0 z1 z2 z3 r0 r1 r2 r3 r4 r5 s heat u0 u1 u2 lo hi at' e1 f j c n) (hoQSk z0 z1 z2 z3 r0 r1 r2 r3 r4 r5 s heat u0 u1 u2 lo hi at' e1 f j c n) = true := by
  cases n with
  | zero => kernel_rfl
  | succ k => kernel_rfl
end Go.Ev

namespace Go.Ev
open Go Go.Proofs
set_option maxRecDepth 100000

/-! ### the chosen lights -/
section
variable {z0 : Nat → ByteArray} {z1 z2 z3 : Nat → Int} {r0 r1 r2 r3 r4 r5 : Int}
theorem part_bd {c : Int} (h0 : 0 ≤ c) (h1 : c ≤ 255) {k : Nat} (hk : k < 8) : 0 ≤ partF c k ∧ partF c k ≤ 255 := by
  unfold partF
  split
  · split
    · rw [w64_id (n := 31 * (k : Int)) (by omega) (by omega), w64_id (by omega) (by omega)]
      have a := Int.tmod_nonneg (a := c + 31 * (k : Int)) 256 (by omega)
      have b := Int.tmod_lt_of_pos (c + 31 * (k : Int)) (show (0 : Int) < 256 by omega)
      omega
    · exact ⟨h0, h1⟩
  · exact ⟨h0, h1⟩
theorem light_num {k : Nat} {p : Int} (h1 : 0 ≤ z1 k) (h2 : z1 k ≤ z2 k) (h3 : z2 k ≤ 1000000) (p0 : 0 ≤ p) (p1 : p ≤ 255) : lightV z1 z2 k p = z1 k + ((z2 k - z1 k) * p).tdiv 255 ∧ 0 ≤ ((z2 k - z1 k) * p).tdiv 255 ∧ ((z2 k - z1 k) * p).tdiv 255 ≤ z2 k - z1 k := by
  have a0 : 0 ≤ (z2 k - z1 k) * p := Int.mul_nonneg (by omega) p0
  have a1 : (z2 k - z1 k) * p ≤ (z2 k - z1 k) * 255 := Int.mul_le_mul_of_nonneg_left p1 (by omega)
  obtain ⟨b1, b2, b3, b4⟩ := tdiv_bd a0 (show (1 : Int) ≤ 255 by omega)
  have b5 : ((z2 k - z1 k) * p).tdiv 255 ≤ z2 k - z1 k := by omega
  refine ⟨?_, b1, b5⟩
  unfold lightV
  rw [w64_id (n := z2 k - z1 k) (by omega) (by omega), w64_id (n := (z2 k - z1 k) * p) (by omega) (by omega), w64_id (n := ((z2 k - z1 k) * p).tdiv 255) (by omega) (by omega), w64_id (by omega) (by omega)]
theorem mid_of {n : Nat} (hn : n ≤ 8) (ht : ∀ j, j < n → toldErr r0 (z1 j) (z2 j) (z3 j) (z0 j) = 0) {c : Int} (h0 : 0 ≤ c) (h1 : c ≤ 255) : Mid z0 z1 z2 z3 (lightF z1 z2 c) r0 n where
  told := ht
  lo := fun j hj => by
    obtain ⟨_, a2, a3, a4, _⟩ := told0h (ht j hj)
    obtain ⟨p0, p1⟩ := part_bd h0 h1 (show j < 8 by omega)
    obtain ⟨b1, b2, b3⟩ := light_num (z1 := z1) (z2 := z2) a2 a3 a4 p0 p1
    unfold lightF
    omega
  hi := fun j hj => by
    obtain ⟨_, a2, a3, a4, _⟩ := told0h (ht j hj)
    obtain ⟨p0, p1⟩ := part_bd h0 h1 (show j < 8 by omega)
    obtain ⟨b1, b2, b3⟩ := light_num (z1 := z1) (z2 := z2) a2 a3 a4 p0 p1
    unfold lightF
    omega
theorem light_lo {n : Nat} (ht : ∀ j, j < n → toldErr r0 (z1 j) (z2 j) (z3 j) (z0 j) = 0) {j : Nat} (hj : j < n) : lightF z1 z2 0 j = z1 j := by
  obtain ⟨_, a2, a3, a4, _⟩ := told0h (ht j hj)
  obtain ⟨b1, b2, b3⟩ := light_num (z1 := z1) (z2 := z2) a2 a3 a4 (show (0 : Int) ≤ 0 by omega) (by omega)
  unfold lightF
  rw [part_no j (.inl rfl), b1, Int.mul_zero, Int.zero_tdiv]
  omega
theorem light_hi {n : Nat} (ht : ∀ j, j < n → toldErr r0 (z1 j) (z2 j) (z3 j) (z0 j) = 0) {j : Nat} (hj : j < n) : lightF z1 z2 255 j = z2 j := by
  obtain ⟨_, a2, a3, a4, _⟩ := told0h (ht j hj)
  obtain ⟨b1, b2, b3⟩ := light_num (z1 := z1) (z2 := z2) a2 a3 a4 (show (0 : Int) ≤ 255 by omega) (by omega)
  unfold lightF
  rw [part_no j (.inr rfl), b1, Int.mul_tdiv_cancel _ (by omega)]
  omega
/-- a run looks at the first n lights alone -/
theorem srGo_congr {za zb : Nat → Int} : ∀ {m k : Nat} {s : ByteArray} {g t l : Int}, (∀ j, k ≤ j → j < k + m → za j = zb j) → srGo z0 za z3 r0 r1 r2 r3 r4 r5 m k s g t l = srGo z0 zb z3 r0 r1 r2 r3 r4 r5 m k s g t l
  | 0, _, _, _, _, _, _ => rfl
  | m + 1, k, s, g, t, l, h => by
    have e := h k (Nat.le_refl k) (by omega)
    have e1 : se z0 za z3 r0 r1 r2 r3 r4 r5 k s g = se z0 zb z3 r0 r1 r2 r3 r4 r5 k s g := by unfold se; rw [e]
    have e2 : ss1 z0 za z3 r0 r1 r2 r3 r4 r5 k s g = ss1 z0 zb z3 r0 r1 r2 r3 r4 r5 k s g := by unfold ss1; rw [e1]
    have e3 : sh1 z0 za z3 r0 r1 r2 r3 r4 r5 k s g = sh1 z0 zb z3 r0 r1 r2 r3 r4 r5 k s g := by unfold sh1; rw [e1, e]
    have e4 : st1 z0 za z3 r0 r1 r2 r3 r4 r5 k s g = st1 z0 zb z3 r0 r1 r2 r3 r4 r5 k s g := by unfold st1; rw [e1]
    have e5 : sl1 z0 za z3 r0 r1 r2 r3 r4 r5 k s g = sl1 z0 zb z3 r0 r1 r2 r3 r4 r5 k s g := by unfold sl1; rw [e1, e]
    unfold srGo
    rw [e1, e2, e3, e4, e5]
    cases se z0 zb z3 r0 r1 r2 r3 r4 r5 k s g != 0 with
    | true => rfl
    | false => exact srGo_congr fun j h1 h2 => h j (by omega) (by omega)
/-- the errors of a run's arguments, where all is in order -/
theorem srunE_zero {n : Nat} {zl : Nat → Int} {s : ByteArray} {heat : Int} (h1 : rulesErr r0 r1 r2 r3 r4 r5 = 0) (h2 : recvErr s heat = 0) (hn : n ≤ 256) (h3 : ∀ j, j < n → stepErr r0 (zl j) (z3 j) (z0 j) = 0) : srunE n z0 zl z3 r0 r1 r2 r3 r4 r5 s heat = 0 := by
  have h4 : ∀ m k, (∀ j, k ≤ j → j < k + m → stepErr r0 (zl j) (z3 j) (z0 j) = 0) → fnz (mapSC0 z0 zl z3 r0 r1 r2 r3 r4 r5) m k = none := fun m => by
    induction m with
    | zero => intro k _; rfl
    | succ m ih =>
      intro k h
      unfold fnz
      rw [show mapSC0 z0 zl z3 r0 r1 r2 r3 r4 r5 k = 0 from h k (Nat.le_refl k) (by omega)]
      exact ih (k + 1) fun j a b => h j (by omega) (by omega)
  unfold srunE
  rw [h1, h2, h4 n 0 fun j _ hj => h3 j (by omega), show decide ((n : Int) > 256) = false by simp only [decide_eq_false_iff_not]; omega]
  rfl
theorem sureE_zero {n : Nat} {s : ByteArray} {heat : Int} (h1 : rulesErr r0 r1 r2 r3 r4 r5 = 0) (h2 : recvErr s heat = 0) (hn : n ≤ 256) (h3 : ∀ j, j < n → toldErr r0 (z1 j) (z2 j) (z3 j) (z0 j) = 0) : sureE n z0 z1 z2 z3 r0 r1 r2 r3 r4 r5 s heat = 0 := by
  have h4 : ∀ m k, (∀ j, k ≤ j → j < k + m → toldErr r0 (z1 j) (z2 j) (z3 j) (z0 j) = 0) → fnz (mapTC0 z0 z1 z2 z3 r0 r1 r2 r3 r4 r5) m k = none := fun m => by
    induction m with
    | zero => intro k _; rfl
    | succ m ih =>
      intro k h
      unfold fnz
      rw [show mapTC0 z0 z1 z2 z3 r0 r1 r2 r3 r4 r5 k = 0 from h k (Nat.le_refl k) (by omega)]
      exact ih (k + 1) fun j a b => h j (by omega) (by omega)
  unfold sureE
  rw [h1, h2, h4 n 0 fun j _ hj => h3 j (by omega), show decide ((n : Int) > 256) = false by simp only [decide_eq_false_iff_not]; omega]
  rfl
/-- the sum of the lights, as it is built up -/
theorem sum_num {n : Nat} (hn : n ≤ 8) (ht : ∀ j, j < n → toldErr r0 (z1 j) (z2 j) (z3 j) (z0 j) = 0) {c : Int} (h0 : 0 ≤ c) (h1 : c ≤ 255) : ∀ k, k ≤ n → 0 ≤ sumW z1 z2 c k ∧ sumW z1 z2 c k ≤ 1000000 * k ∧ sumL (lightF z1 z2 c) n 0 = sumW z1 z2 c k + sumL (lightF z1 z2 c) (n - k) k
  | 0, _ => by simp [sumW]
  | k + 1, hk => by
    obtain ⟨a1, a2, a3⟩ := sum_num hn ht h0 h1 k (by omega)
    obtain ⟨_, _, _, b1, b2⟩ := (mid_of hn ht h0 h1).ends (show k < n by omega)
    have e : w64 (sumW z1 z2 c k + lightF z1 z2 c k) = sumW z1 z2 c k + lightF z1 z2 c k := w64_id (by omega) (by omega)
    have e2 : sumL (lightF z1 z2 c) (n - k) k = lightF z1 z2 c k + sumL (lightF z1 z2 c) (n - (k + 1)) (k + 1) := by rw [show n - k = (n - (k + 1)) + 1 by omega]; rfl
    refine ⟨?_, ?_, ?_⟩
    · show 0 ≤ w64 _
      rw [e]; omega
    · show w64 _ ≤ _
      rw [e]; push_cast; omega
    · show _ = w64 _ + _
      rw [e, a3, e2]; omega
/-- what a run hands back, set against what Sure told -/
structure HoldOk (lo hi at' e1 heat L : Int) (R : R6) : Prop where
  ok : e1 = 0 → R.2.2.2.2.2 = 0 ∧ lo ≤ R.2.1 ∧ R.2.1 ≤ hi ∧ R.2.1 = w64 (w64 (w64 (heat + L) - R.2.2.1) - R.2.2.2.1) ∧ 0 ≤ R.2.2.2.1
  bad : e1 ≠ 0 → R.2.2.2.2.2 ≠ 0 → at' ≤ R.2.2.2.2.1
/-- the checks of the law's arguments -/
structure HoArgs (n : Nat) (z0 : Nat → ByteArray) (z1 z2 z3 : Nat → Int) (r0 r1 r2 r3 r4 r5 : Int) (s : ByteArray) (heat : Int) : Prop where
  rules : rulesErr r0 r1 r2 r3 r4 r5 = 0
  recv : recvErr s heat = 0
  n8 : n ≤ 8
  told : ∀ j, j < n → toldErr r0 (z1 j) (z2 j) (z3 j) (z0 j) = 0
variable {n : Nat} {s : ByteArray} {heat : Int}
theorem hoP_eq (h : HoArgs n z0 z1 z2 z3 r0 r1 r2 r3 r4 r5 s heat) : hoP n z0 z1 z2 z3 r0 r1 r2 r3 r4 r5 s heat = suQ (suGo z0 z1 z2 z3 r0 r1 r2 r3 r4 r5 n 0 s heat s heat) := by
  unfold hoP suP
  rw [sureE_zero h.rules h.recv (by have := h.n8; omega) h.told]
  rfl
theorem hoRun_eq (h : HoArgs n z0 z1 z2 z3 r0 r1 r2 r3 r4 r5 s heat) {zl : Nat → Int} (hM : Mid z0 z1 z2 z3 zl r0 n) : hoRun z0 zl z3 r0 r1 r2 r3 r4 r5 s heat n = rvQ (srGo z0 zl z3 r0 r1 r2 r3 r4 r5 n 0 s heat 0 0) := by
  unfold hoRun rvS
  rw [srunE_zero h.rules h.recv (by have := h.n8; omega) fun j hj => (hM.ends hj).2.2.1]
  rfl
theorem hold_facts (h : HoArgs n z0 z1 z2 z3 r0 r1 r2 r3 r4 r5 s heat) {c : Int} (h0 : 0 ≤ c) (h1 : c ≤ 255) : HoldOk (hoP n z0 z1 z2 z3 r0 r1 r2 r3 r4 r5 s heat).1 (hoP n z0 z1 z2 z3 r0 r1 r2 r3 r4 r5 s heat).2.1 (hoP n z0 z1 z2 z3 r0 r1 r2 r3 r4 r5 s heat).2.2.1 (hoP n z0 z1 z2 z3 r0 r1 r2 r3 r4 r5 s heat).2.2.2 heat (sumW z1 z2 c n) (hoRun z0 (lightF z1 z2 c) z3 r0 r1 r2 r3 r4 r5 s heat n) := by
  have hM := mid_of (z0 := z0) (z3 := z3) (r0 := r0) h.n8 h.told h0 h1
  have hn := h.n8
  obtain ⟨s1, s2, s3⟩ := sum_num (z0 := z0) (z3 := z3) (r0 := r0) h.n8 h.told h0 h1 n (Nat.le_refl n)
  obtain ⟨_, hh1, hh2⟩ := recv0 h.recv
  rw [hoP_eq h, hoRun_eq h hM]
  rcases sure_runs h.rules hM n 0 s heat heat heat 0 0 (by omega) h.recv h.recv (Int.le_refl _) (Int.le_refl _) (by omega) (by omega) (by omega) (by omega) (by omega) with
    ⟨s', a, b, g', t', l', x1, x2, x3, x4, x5, x6, x7, x8, x9, x10, x11⟩ | ⟨sa, a, sb, b, i, e, x1, _, x3, x4⟩
  · rw [x1, x2]
    refine ⟨fun _ => ⟨rfl, x3, x4, ?_, x6⟩, fun hne => absurd rfl hne⟩
    show g' = w64 (w64 (w64 (heat + sumW z1 z2 c n) - t') - l')
    have e3 : sumL (lightF z1 z2 c) n 0 = sumW z1 z2 c n := by rw [s3, Nat.sub_self]; simp [sumL]
    rw [w64_id (n := heat + _) (by omega) (by omega), w64_id (n := heat + _ - t') (by omega) (by omega), w64_id (by omega) (by omega)]
    omega
  · have he : e ≠ 0 := by
      have := suGo_ne z0 z1 z2 z3 r0 r1 r2 r3 r4 r5 n 0 s heat s heat x1
      simpa using this
    rw [x1]
    refine ⟨fun h0 => absurd h0 he, fun _ hR => ?_⟩
    generalize hx : srGo z0 (lightF z1 z2 c) z3 r0 r1 r2 r3 r4 r5 n 0 s heat 0 0 = x at hR x4
    obtain ⟨s', g', t', l', o⟩ := x
    cases o with
    | none => exact absurd rfl hR
    | some ie =>
      obtain ⟨i', e'⟩ := ie
      have := x4 s' g' t' l' i' e' rfl
      show (i : Int) ≤ (i' : Int)
      omega
/-- where steps are not sure, the least or the greatest lights fail at the told step -/
theorem hold_ends (h : HoArgs n z0 z1 z2 z3 r0 r1 r2 r3 r4 r5 s heat) (he : (hoP n z0 z1 z2 z3 r0 r1 r2 r3 r4 r5 s heat).2.2.2 ≠ 0) :
    (0 ≤ (hoP n z0 z1 z2 z3 r0 r1 r2 r3 r4 r5 s heat).2.2.1 ∧ (hoP n z0 z1 z2 z3 r0 r1 r2 r3 r4 r5 s heat).2.2.1 < n) ∧
    ∃ c, (c = 0 ∨ c = 255) ∧ (hoRun z0 (lightF z1 z2 c) z3 r0 r1 r2 r3 r4 r5 s heat n).2.2.2.2.2 ≠ 0 ∧ (hoRun z0 (lightF z1 z2 c) z3 r0 r1 r2 r3 r4 r5 s heat n).2.2.2.2.1 = (hoP n z0 z1 z2 z3 r0 r1 r2 r3 r4 r5 s heat).2.2.1 := by
  have hM0 := mid_of (z0 := z0) (z3 := z3) (r0 := r0) h.n8 h.told (show (0 : Int) ≤ 0 by omega) (by omega)
  have hM1 := mid_of (z0 := z0) (z3 := z3) (r0 := r0) h.n8 h.told (show (0 : Int) ≤ 255 by omega) (by omega)
  have hn := h.n8
  rw [hoP_eq h] at he ⊢
  rcases sure_runs h.rules hM0 n 0 s heat heat heat 0 0 (by omega) h.recv h.recv (Int.le_refl _) (Int.le_refl _) (by omega) (by omega) (by omega) (by omega) (by omega) with
    ⟨s', a, b, g', t', l', x1, x2, _⟩ | ⟨sa, a, sb, b, i, e, x1, _, x3, _⟩
  · rw [x1] at he
    exact absurd rfl he
  · rw [x1]
    refine ⟨⟨show (0 : Int) ≤ (i : Int) by omega, show (i : Int) < (n : Int) by omega⟩, ?_⟩
    have ne : ∀ {zl : Nat → Int} {s' : ByteArray} {g' t' l' : Int} {e' : Int}, srGo z0 zl z3 r0 r1 r2 r3 r4 r5 n 0 s heat 0 0 = (s', g', t', l', some (i, e')) → e' ≠ 0 := fun {zl s' g' t' l' e'} hx => by
      have key : ∀ m k (s : ByteArray) (g t l : Int), srGo z0 zl z3 r0 r1 r2 r3 r4 r5 m k s g t l = (s', g', t', l', some (i, e')) → e' ≠ 0 := fun m => by
        induction m with
        | zero => intro k s g t l h; unfold srGo at h; simp at h
        | succ m ih =>
          intro k s g t l h
          unfold srGo at h
          split at h
          · rename_i hz
            simp only [Prod.mk.injEq, Option.some.injEq] at h
            obtain ⟨_, _, _, _, _, rfl⟩ := h
            simpa using hz
          · exact ih _ _ _ _ _ h
      exact key n 0 s heat 0 0 hx
    rcases sure_fails n 0 s heat heat x1 with y | y
    · obtain ⟨s', g', t', l', e', y⟩ := y 0 0
      refine ⟨0, .inl rfl, ?_⟩
      rw [hoRun_eq h hM0, srGo_congr (zb := z1) fun j _ hj => light_lo h.told (by omega), y]
      exact ⟨ne y, rfl⟩
    · obtain ⟨s', g', t', l', e', y⟩ := y 0 0
      refine ⟨255, .inr rfl, ?_⟩
      rw [hoRun_eq h hM1, srGo_congr (zb := z2) fun j _ hj => light_hi h.told (by omega), y]
      exact ⟨ne y, rfl⟩
end
end Go.Ev

namespace Go.Ev
open Go Go.Proofs
set_option maxRecDepth 100000

section
variable {n : Nat} {z0 : Nat → ByteArray} {z1 z2 z3 : Nat → Int} {r0 r1 r2 r3 r4 r5 : Int} {s : ByteArray} {heat : Int} {u0 u1 u2 : Int} {lo hi at' e1 f j c : Int}
/-- a run that fails at the told step -/
def FailsAt (at' : Int) (R : R6) : Prop := R.2.2.2.2.2 ≠ 0 ∧ R.2.2.2.2.1 = at'
/-- where a round leads -/
def RoundTo (n : Nat) (z0 : Nat → ByteArray) (z1 z2 z3 : Nat → Int) (r0 r1 r2 r3 r4 r5 : Int) (s : ByteArray) (heat : Int) (u0 u1 u2 lo hi at' e1 f j c : Int) (R : R6) (q : X × St) : Prop := match q.1 with
  | .normal => ∃ g, q.2 = hoH n z0 z1 z2 z3 r0 r1 r2 r3 r4 r5 s heat u0 u1 u2 lo hi at' e1 g (IntKind.i64.wrap (j + 1)) ∧ (g = f ∨ g = IntKind.i64.wrap (f + 1)) ∧ (e1 ≠ 0 → (c = 0 ∨ c = 255) → FailsAt at' R → g = IntKind.i64.wrap (f + 1))
  | _ => False
theorem hoQA_ok {R : R6} {L : Int} (h : HoldOk lo hi at' e1 heat L R) : SkLeads (CutF Tryz.prog reH cO (hoB n z0 z1 z2 z3 r0 r1 r2 r3 r4 r5 s heat u0 u1 u2) (RoundTo n z0 z1 z2 z3 r0 r1 r2 r3 r4 r5 s heat u0 u1 u2 lo hi at' e1 f j c R) 0) (hoQA z0 z1 z2 z3 r0 r1 r2 r3 r4 r5 s heat u0 u1 u2 lo hi at' e1 f j c n R L) := by
  refine sk_either (fun h0 => ?_) fun h0 => ?_
  · have h0 : e1 = 0 := by simpa using h0
    obtain ⟨a1, a2, a3, a4, a5⟩ := h.ok h0
    refine sk_no (by simpa using a1) (sk_no (by simpa using a2) (sk_no (by simpa using a3) (sk_no (by rw [← a4]; simp) (sk_no (by simpa using a5) (sk_leaf ⟨f, rfl, .inl rfl, fun hn => absurd h0 hn⟩)))))
  · have h0 : e1 ≠ 0 := by simpa using h0
    refine sk_either (fun h1 => ?_) fun h1 => ?_
    · have h1 : R.2.2.2.2.2 = 0 := by simpa using h1
      exact sk_leaf ⟨f, rfl, .inl rfl, fun _ _ hf => absurd h1 hf.1⟩
    · have h1 : R.2.2.2.2.2 ≠ 0 := by simpa using h1
      have a := h.bad h0 h1
      refine sk_no (by simpa using a) (sk_either (fun h2 => ?_) fun h2 => ?_)
      · refine sk_either (fun h3 => sk_tt (sk_leaf ⟨_, rfl, .inr rfl, fun _ _ _ => rfl⟩)) fun h3 => ?_
        refine sk_either (fun h4 => sk_leaf ⟨_, rfl, .inr rfl, fun _ _ _ => rfl⟩) fun h4 => ?_
        refine sk_leaf ⟨f, rfl, .inl rfl, fun _ hc => ?_⟩
        rcases hc with rfl | rfl
        · cases h3
        · cases h4
      · have h2 : R.2.2.2.2.1 ≠ at' := by simpa using h2
        exact sk_ff (sk_leaf ⟨f, rfl, .inl rfl, fun _ _ hf => absurd hf.2 h2⟩)
end
theorem reH_ok : RecOk Tryz.prog reH := recT_ok tbHo_ok
/-! ### a round -/
section
variable (z0 : Nat → ByteArray) (z1 z2 z3 : Nat → Int) (r0 r1 r2 r3 r4 r5 : Int) (s : ByteArray) (heat : Int) (u0 u1 u2 : Int) (lo hi at' e1 f : Int) (n : Nat)
def shareN : Nat → Int
  | 0 => 0
  | 1 => 255
  | 2 => IntKind.i64.wrap u0
  | 3 => IntKind.i64.wrap u1
  | _ => IntKind.i64.wrap u2
def hoE : St := hoN n z0 z1 z2 z3 [(3, pt 3), (4, pt 4), (9, int e1), (10, int f)] [⟨false, 23, .flat (rulesC r0 r1 r2 r3 r4 r5)⟩, rcv 25 s heat]
noncomputable def hoRoundSk : Nat → SkO
  | 5 => .ff (.leaf (.inl (.exit 0, hoE z0 z1 z2 z3 r0 r1 r2 r3 r4 r5 s heat e1 f n)))
  | j => .tt (.leaf (.inr (pI, hoI n z0 z1 z2 z3 r0 r1 r2 r3 r4 r5 s heat u0 u1 u2 lo hi at' e1 f (j : Int) (shareN u0 u1 u2 j) 0)))
theorem hoRoundSk_in {j : Nat} (hj : j < 5) : hoRoundSk z0 z1 z2 z3 r0 r1 r2 r3 r4 r5 s heat u0 u1 u2 lo hi at' e1 f n j = .tt (.leaf (.inr (pI, hoI n z0 z1 z2 z3 r0 r1 r2 r3 r4 r5 s heat u0 u1 u2 lo hi at' e1 f (j : Int) (shareN u0 u1 u2 j) 0))) := by
  match j, hj with
  | 0, _ => rfl
  | 1, _ => rfl
  | 2, _ => rfl
  | 3, _ => rfl
  | 4, _ => rfl
theorem hoRound_into {j : Nat} (hj : j ≤ 5) : hoRound n z0 z1 z2 z3 r0 r1 r2 r3 r4 r5 s heat u0 u1 u2 lo hi at' e1 f (j : Int) = into (hoRound n z0 z1 z2 z3 r0 r1 r2 r3 r4 r5 s heat u0 u1 u2 lo hi at' e1 f (j : Int)) (hoRoundSk z0 z1 z2 z3 r0 r1 r2 r3 r4 r5 s heat u0 u1 u2 lo hi at' e1 f n j) ∧
    fits (hoRound n z0 z1 z2 z3 r0 r1 r2 r3 r4 r5 s heat u0 u1 u2 lo hi at' e1 f (j : Int)) (hoRoundSk z0 z1 z2 z3 r0 r1 r2 r3 r4 r5 s heat u0 u1 u2 lo hi at' e1 f n j) = true := by
  match j, hj with
  | 0, _ => exact ⟨by kernel_rfl, by kernel_rfl⟩
  | 1, _ => exact ⟨by kernel_rfl, by kernel_rfl⟩
  | 2, _ => exact ⟨by kernel_rfl, by kernel_rfl⟩
  | 3, _ => exact ⟨by kernel_rfl, by kernel_rfl⟩
  | 4, _ => exact ⟨by kernel_rfl, by kernel_rfl⟩
  | 5, _ => exact ⟨by kernel_rfl, by kernel_rfl⟩
end
section
variable {n : Nat} {z0 : Nat → ByteArray} {z1 z2 z3 : Nat → Int} {r0 r1 r2 r3 r4 r5 : Int} {s : ByteArray} {heat : Int} {u0 u1 u2 : Int} {lo hi at' e1 f : Int}
theorem hoQ_eq (n : Nat) (z0 : Nat → ByteArray) (z1 z2 z3 : Nat → Int) (r0 r1 r2 r3 r4 r5 : Int) (s : ByteArray) (heat : Int) (u0 u1 u2 : Int) (lo hi at' e1 f j c : Int) : (evR reH true cO pI (.exit 2) (hoX n z0 z1 z2 z3 r0 r1 r2 r3 r4 r5 s heat u0 u1 u2 lo hi at' e1 f j c n)).bind (canO hoSl hoSlR (hoB n z0 z1 z2 z3 r0 r1 r2 r3 r4 r5 s heat u0 u1 u2)) = hoQ z0 z1 z2 z3 r0 r1 r2 r3 r4 r5 s heat u0 u1 u2 lo hi at' e1 f j c n := by delta hoQ evO2; rfl
theorem hoRound_eq (n : Nat) (z0 : Nat → ByteArray) (z1 z2 z3 : Nat → Int) (r0 r1 r2 r3 r4 r5 : Int) (s : ByteArray) (heat : Int) (u0 u1 u2 : Int) (lo hi at' e1 f j : Int) : (evB reH cO (hoH n z0 z1 z2 z3 r0 r1 r2 r3 r4 r5 s heat u0 u1 u2 lo hi at' e1 f j)).bind (canO hoSlI [3, 4, 9, 10] (hoB n z0 z1 z2 z3 r0 r1 r2 r3 r4 r5 s heat u0 u1 u2)) = hoRound n z0 z1 z2 z3 r0 r1 r2 r3 r4 r5 s heat u0 u1 u2 lo hi at' e1 f j := by delta hoRound hoRound.evO2I; rfl
/-- behind the inner loop -/
theorem hoQ_ok (hn : n ≤ 1000000) {j c : Int} (h : HoldOk lo hi at' e1 heat (sumW z1 z2 c n) (hoRun z0 (lightF z1 z2 c) z3 r0 r1 r2 r3 r4 r5 s heat n)) :
    (hoQ z0 z1 z2 z3 r0 r1 r2 r3 r4 r5 s heat u0 u1 u2 lo hi at' e1 f j c n).All (CutF Tryz.prog reH cO (hoB n z0 z1 z2 z3 r0 r1 r2 r3 r4 r5 s heat u0 u1 u2) (RoundTo n z0 z1 z2 z3 r0 r1 r2 r3 r4 r5 s heat u0 u1 u2 lo hi at' e1 f j c (hoRun z0 (lightF z1 z2 c) z3 r0 r1 r2 r3 r4 r5 s heat n)) 0) := by
  have key : SkLeads (CutF Tryz.prog reH cO (hoB n z0 z1 z2 z3 r0 r1 r2 r3 r4 r5 s heat u0 u1 u2) (RoundTo n z0 z1 z2 z3 r0 r1 r2 r3 r4 r5 s heat u0 u1 u2 lo hi at' e1 f j c (hoRun z0 (lightF z1 z2 c) z3 r0 r1 r2 r3 r4 r5 s heat n)) 0) (hoQSk z0 z1 z2 z3 r0 r1 r2 r3 r4 r5 s heat u0 u1 u2 lo hi at' e1 f j c n) := by
    have hle : Nat.ble n 1000000 = true := by rw [Nat.ble_eq]; exact hn
    cases n with
    | zero => exact sk_tt (hoQA_ok h)
    | succ k => exact sk_need (okN_ok _) (sk_need hle (sk_ff (sk_need (okN_ok _) (sk_need hle (hoQA_ok h)))))
  exact all_into (hoQ_into _ _ _ _ _ _ _ _ _ _ _ _ _ _ _ _ _ _ _ _ _ _ n) (hoQ_fits _ _ _ _ _ _ _ _ _ _ _ _ _ _ _ _ _ _ _ _ _ _ n) key.all
theorem hoRound_ok (hn : n ≤ 1000000) {j : Nat} (hj : j < 5) (h : HoldOk lo hi at' e1 heat (sumW z1 z2 (shareN u0 u1 u2 j) n) (hoRun z0 (lightF z1 z2 (shareN u0 u1 u2 j)) z3 r0 r1 r2 r3 r4 r5 s heat n)) :
    ComesF Tryz.prog cO (hoB n z0 z1 z2 z3 r0 r1 r2 r3 r4 r5 s heat u0 u1 u2) (hoH n z0 z1 z2 z3 r0 r1 r2 r3 r4 r5 s heat u0 u1 u2 lo hi at' e1 f (j : Int)) (RoundTo n z0 z1 z2 z3 r0 r1 r2 r3 r4 r5 s heat u0 u1 u2 lo hi at' e1 f (j : Int) (shareN u0 u1 u2 j) (hoRun z0 (lightF z1 z2 (shareN u0 u1 u2 j)) z3 r0 r1 r2 r3 r4 r5 s heat n)) := by
  refine comesF_cut (rec := reH) reH_ok rfl 1 hoSlI [3, 4, 9, 10] (Leads.all ?_)
  rw [hoRound_eq]
  refine ⟨?_⟩
  obtain ⟨h1, h2⟩ := hoRound_into z0 z1 z2 z3 r0 r1 r2 r3 r4 r5 s heat u0 u1 u2 lo hi at' e1 f n (show j ≤ 5 by omega)
  refine all_into h1 h2 (SkLeads.all ?_)
  rw [hoRoundSk_in _ _ _ _ _ _ _ _ _ _ _ _ _ _ _ _ _ _ _ _ _ hj]
  refine sk_tt (sk_leaf ?_)
  refine ⟨_, true, hoSl, hoSlR, hoI_loop n z0 z1 z2 z3 r0 r1 r2 r3 r4 r5 s heat u0 u1 u2 lo hi at' e1 f (j : Int) (shareN u0 u1 u2 j) hn, fun q hq => Leads.all ?_⟩
  subst hq
  rw [hoQ_eq]
  exact ⟨hoQ_ok hn h⟩
theorem hoEnd_ok : ComesF Tryz.prog cO (hoB n z0 z1 z2 z3 r0 r1 r2 r3 r4 r5 s heat u0 u1 u2) (hoH n z0 z1 z2 z3 r0 r1 r2 r3 r4 r5 s heat u0 u1 u2 lo hi at' e1 f 5) fun q => q = (.exit 0, hoE z0 z1 z2 z3 r0 r1 r2 r3 r4 r5 s heat e1 f n) := by
  refine comesF_cut (rec := reH) reH_ok rfl 0 hoSlI [3, 4, 9, 10] (Leads.all ?_)
  rw [hoRound_eq]
  refine ⟨?_⟩
  obtain ⟨h1, h2⟩ := hoRound_into z0 z1 z2 z3 r0 r1 r2 r3 r4 r5 s heat u0 u1 u2 lo hi at' e1 f n (Nat.le_refl 5)
  exact all_into h1 h2 rfl
theorem share_bd (h0 : 0 ≤ u0 ∧ u0 ≤ 255) (h1 : 0 ≤ u1 ∧ u1 ≤ 255) (h2 : 0 ≤ u2 ∧ u2 ≤ 255) (j : Nat) : 0 ≤ shareN u0 u1 u2 j ∧ shareN u0 u1 u2 j ≤ 255 := by
  match j with
  | 0 => exact ⟨show (0 : Int) ≤ 0 by decide, show (0 : Int) ≤ 255 by decide⟩
  | 1 => exact ⟨show (0 : Int) ≤ 255 by decide, show (255 : Int) ≤ 255 by decide⟩
  | 2 => show 0 ≤ IntKind.i64.wrap u0 ∧ IntKind.i64.wrap u0 ≤ 255; rw [wrap_id (by omega) (by omega)]; exact h0
  | 3 => show 0 ≤ IntKind.i64.wrap u1 ∧ IntKind.i64.wrap u1 ≤ 255; rw [wrap_id (by omega) (by omega)]; exact h1
  | j + 4 => show 0 ≤ IntKind.i64.wrap u2 ∧ IntKind.i64.wrap u2 ≤ 255; rw [wrap_id (by omega) (by omega)]; exact h2
theorem outer_ok (hA : HoArgs n z0 z1 z2 z3 r0 r1 r2 r3 r4 r5 s heat) (h0 : 0 ≤ u0 ∧ u0 ≤ 255) (h1 : 0 ≤ u1 ∧ u1 ≤ 255) (h2 : 0 ≤ u2 ∧ u2 ≤ 255) {p : R4} (hp : p = hoP n z0 z1 z2 z3 r0 r1 r2 r3 r4 r5 s heat) :
    ComesF Tryz.prog (.loop cO) (hoB n z0 z1 z2 z3 r0 r1 r2 r3 r4 r5 s heat u0 u1 u2) (hoH n z0 z1 z2 z3 r0 r1 r2 r3 r4 r5 s heat u0 u1 u2 p.1 p.2.1 p.2.2.1 p.2.2.2 0 0) fun q => ∃ f, q = (.exit 0, hoE z0 z1 z2 z3 r0 r1 r2 r3 r4 r5 s heat p.2.2.2 f n) ∧ (p.2.2.2 ≠ 0 → f ≠ 0) := by
  have hn : n ≤ 1000000 := by have := hA.n8; omega
  have hH := fun j => hold_facts hA (share_bd h0 h1 h2 j).1 (share_bd h0 h1 h2 j).2
  rw [← hp] at hH
  refine comesF_loop (ι := Nat × Int) (fun x => hoH n z0 z1 z2 z3 r0 r1 r2 r3 r4 r5 s heat u0 u1 u2 p.1 p.2.1 p.2.2.1 p.2.2.2 x.2 (x.1 : Int)) (fun x => 5 - x.1)
    (fun x => x.1 ≤ 5 ∧ 0 ≤ x.2 ∧ x.2 ≤ x.1 ∧ (p.2.2.2 ≠ 0 → ∀ c, (c = 0 ∧ 1 ≤ x.1 ∨ c = 255 ∧ 2 ≤ x.1) → FailsAt p.2.2.1 (hoRun z0 (lightF z1 z2 c) z3 r0 r1 r2 r3 r4 r5 s heat n) → x.2 ≠ 0)) _ (fun x hx => ?_) (0, 0) ⟨by omega, by omega, by omega, fun _ c hc => by omega⟩
  obtain ⟨j, f⟩ := x
  obtain ⟨hj, hf0, hf1, hinv⟩ := hx
  simp only at hj hf0 hf1 hinv
  rcases Nat.lt_or_eq_of_le hj with hj | hj
  · refine (hoRound_ok hn hj (hH j)).mono fun q hq => ?_
    obtain ⟨x1, st⟩ := q
    cases x1 with
    | normal =>
      obtain ⟨g, hg, hgf, hgi⟩ := hq
      have hw : IntKind.i64.wrap (f + 1) = f + 1 := wrap_id (by omega) (by omega)
      rw [hw] at hgf hgi
      have hg : st = hoH n z0 z1 z2 z3 r0 r1 r2 r3 r4 r5 s heat u0 u1 u2 p.1 p.2.1 p.2.2.1 p.2.2.2 g (IntKind.i64.wrap ((j : Int) + 1)) := hg
      rw [wrap_succ (by omega)] at hg
      refine ⟨(j + 1, g), ?_, ⟨hj, ?_, ?_, fun he c hc hF => ?_⟩, by simp only []; omega⟩
      · simp only []
        rw [hg]
        exact St.Le.refl _
      · simp only []; omega
      · simp only []; push_cast; omega
      · simp only [] at hc ⊢
        by_cases hcj : c = shareN u0 u1 u2 j ∧ j < 2
        · have := hgi he (by omega) (by rw [← hcj.1]; exact hF)
          omega
        · have h3 : f ≠ 0 := hinv he c (by
            rcases hc with ⟨rfl, hc⟩ | ⟨rfl, hc⟩
            · refine .inl ⟨rfl, ?_⟩
              rcases Nat.eq_zero_or_pos j with e | e
              · subst e; exact absurd ⟨rfl, by omega⟩ hcj
              · exact e
            · refine .inr ⟨rfl, ?_⟩
              rcases Nat.lt_or_ge j 2 with e | e
              · have : j = 1 := by omega
                subst this
                exact absurd ⟨rfl, by omega⟩ hcj
              · exact e) hF
          omega
    | exit i => exact hq.elim
    | ret => exact hq.elim
  · subst hj
    refine hoEnd_ok.mono fun q hq => ?_
    subst hq
    refine ⟨f, rfl, fun he => ?_⟩
    obtain ⟨_, c, hc, hF1, hF2⟩ := hold_ends hA (by rw [← hp]; exact he)
    exact hinv he c (by omega) ⟨hF1, by rw [hF2, ← hp]⟩
end
end Go.Ev

namespace Go.Ev
open Go Go.Proofs
set_option maxRecDepth 100000

def hoSlW : List Nat := [3, 4, 23, 25, 269, 270]
noncomputable def pW : List Bool := pathOf (bodyOf Tryz.f9) 1
noncomputable def cW : Code := nthLoop (bodyOf Tryz.f9) pW
noncomputable def hoT (z0 : Nat → ByteArray) (z1 z2 z3 : Nat → Int) (r0 r1 r2 r3 r4 r5 : Int) (s : ByteArray) (heat : Int) (u0 u1 u2 : Int) (e1 f : Int) (n : Nat) : Tree ((X × St) ⊕ (List Bool × St)) := evO2 reH true (bodyOf fnH) (pathF Tryz.f9) hoSlW [6] (hoB n z0 z1 z2 z3 r0 r1 r2 r3 r4 r5 s heat u0 u1 u2) (.exit 0, hoE z0 z1 z2 z3 r0 r1 r2 r3 r4 r5 s heat e1 f n)
def holdE (r0 r1 r2 r3 r4 r5 : Int) (s : ByteArray) (heat : Int) : Int := hE r0 r1 r2 r3 r4 r5 heat s
def holdN (r0 r1 r2 r3 r4 r5 : Int) (s : ByteArray) (heat : Int) : Int := match hE r0 r1 r2 r3 r4 r5 heat s != 0 with | true => 0 | false => w64 ((spareW r0 r2 heat).tdiv r1)
noncomputable def hoX1 (z0 : Nat → ByteArray) (z1 z2 z3 : Nat → Int) (r0 r1 r2 r3 r4 r5 : Int) (s : ByteArray) (heat : Int) (n : Nat) : SkO := .node (decide (holdN r0 r1 r2 r3 r4 r5 s heat ≥ 0)) (hoL n z0 z1 z2 z3 true) (hoL n z0 z1 z2 z3 false)
noncomputable def hoChk (z0 : Nat → ByteArray) (z1 z2 z3 : Nat → Int) (r0 r1 r2 r3 r4 r5 : Int) (s : ByteArray) (heat : Int) (n : Nat) : SkO := .node (holdE r0 r1 r2 r3 r4 r5 s heat == 0) (.tt (.tt (.tt (hoX1 z0 z1 z2 z3 r0 r1 r2 r3 r4 r5 s heat n)))) (.node (holdE r0 r1 r2 r3 r4 r5 s heat == 22) (.tt (.tt (hoX1 z0 z1 z2 z3 r0 r1 r2 r3 r4 r5 s heat n))) (.node (holdE r0 r1 r2 r3 r4 r5 s heat == 31) (.tt (hoX1 z0 z1 z2 z3 r0 r1 r2 r3 r4 r5 s heat n)) (.node (holdE r0 r1 r2 r3 r4 r5 s heat == 7) (hoX1 z0 z1 z2 z3 r0 r1 r2 r3 r4 r5 s heat n) (.ff (hoL n z0 z1 z2 z3 false)))))
/-- the waits laid so far -/
def wF (k : Nat) : Nat → ByteArray := fun j => match Nat.blt j k with | true => sWait | false => ⟨#[]⟩
def waitC (z : Nat → ByteArray) : List Col := [.str z, .int .i64 wzI, .int .i64 wzI]
def hoWE (h : Int) (N : Nat) : List (Nat × A) := [(3, pt 3), (4, pt 4), (23, int h), (25, slO 5 3 N)]
def hoWB (r0 r1 r2 r3 r4 r5 : Int) (s : ByteArray) (heat : Int) (N : Nat) (z : Nat → ByteArray) : List Blk := [⟨false, 23, .flat (rulesC r0 r1 r2 r3 r4 r5)⟩, rcv 25 s heat, ⟨false, 139, .rows N (waitC z)⟩]
def hoWS (z0 : Nat → ByteArray) (z1 z2 z3 : Nat → Int) (r0 r1 r2 r3 r4 r5 : Int) (s : ByteArray) (heat : Int) (n : Nat) (h : Int) (N : Nat) (z : Nat → ByteArray) (i : Int) : St := hoN n z0 z1 z2 z3 ([(269, int (N : Int)), (270, int i)] ++ hoWE h N) (hoWB r0 r1 r2 r3 r4 r5 s heat N z)
def hoW (z0 : Nat → ByteArray) (z1 z2 z3 : Nat → Int) (r0 r1 r2 r3 r4 r5 : Int) (s : ByteArray) (heat : Int) (n : Nat) (h : Int) (N k : Nat) : St := hoWS z0 z1 z2 z3 r0 r1 r2 r3 r4 r5 s heat n h N (wF k) (k : Int)
def hoWX (z0 : Nat → ByteArray) (z1 z2 z3 : Nat → Int) (r0 r1 r2 r3 r4 r5 : Int) (s : ByteArray) (heat : Int) (n : Nat) (h : Int) (N k : Nat) : St := hoN n z0 z1 z2 z3 (hoWE h N) (hoWB r0 r1 r2 r3 r4 r5 s heat N (wF k))
def mkOk (m : Int) : Bool := decide (m = m) && decide (0 ≤ m) && Nat.ble (m.toNat * 32) 140737488355328 && Nat.ble m.toNat 9223372036854775807
noncomputable def hoTail (z0 : Nat → ByteArray) (z1 z2 z3 : Nat → Int) (r0 r1 r2 r3 r4 r5 : Int) (s : ByteArray) (heat : Int) (n : Nat) : SkO := .node (holdE r0 r1 r2 r3 r4 r5 s heat != 0) (.tt (.tt (hoChk z0 z1 z2 z3 r0 r1 r2 r3 r4 r5 s heat n))) (.node (decide (holdN r0 r1 r2 r3 r4 r5 s heat > 60)) (.tt (hoChk z0 z1 z2 z3 r0 r1 r2 r3 r4 r5 s heat n)) (.need (!(r0 == 0)) (.node (decide (IntKind.i64.wrap (heat.tdiv r0) > r4)) (hoChk z0 z1 z2 z3 r0 r1 r2 r3 r4 r5 s heat n)
  (.need (mkOk (IntKind.i64.wrap (holdN r0 r1 r2 r3 r4 r5 s heat + 1))) (.leaf (.inr (pW, hoW z0 z1 z2 z3 r0 r1 r2 r3 r4 r5 s heat n (holdN r0 r1 r2 r3 r4 r5 s heat) (IntKind.i64.wrap (holdN r0 r1 r2 r3 r4 r5 s heat + 1)).toNat 0)))))))
noncomputable def hoTSk (z0 : Nat → ByteArray) (z1 z2 z3 : Nat → Int) (r0 r1 r2 r3 r4 r5 : Int) (s : ByteArray) (heat : Int) (e1 f : Int) (n : Nat) : SkO := .node (e1 != 0) (.node (f == 0) (hoL n z0 z1 z2 z3 false) (hoTail z0 z1 z2 z3 r0 r1 r2 r3 r4 r5 s heat n)) (.ff (hoTail z0 z1 z2 z3 r0 r1 r2 r3 r4 r5 s heat n))
/-- a round of the waits -/
noncomputable def hoWT (z0 : Nat → ByteArray) (z1 z2 z3 : Nat → Int) (r0 r1 r2 r3 r4 r5 : Int) (s : ByteArray) (heat : Int) (u0 u1 u2 : Int) (n : Nat) (h : Int) (N k : Nat) : Tree (X × St) := (reH cW (hoW z0 z1 z2 z3 r0 r1 r2 r3 r4 r5 s heat n h N k)).bind (canonT hoSlW [3, 4, 23, 25] (hoB n z0 z1 z2 z3 r0 r1 r2 r3 r4 r5 s heat u0 u1 u2))
noncomputable def hoWSk (z0 : Nat → ByteArray) (z1 z2 z3 : Nat → Int) (r0 r1 r2 r3 r4 r5 : Int) (s : ByteArray) (heat : Int) (n : Nat) (h : Int) (N k : Nat) : Sk (X × St) := .node (decide ((k : Int) < (N : Int))) (.need (decide (0 ≤ (k : Int)) && decide ((k : Int) < (N : Int))) (.need (Nat.blt (0 + Int.toNat (k : Int)) N) (.leaf (.normal, hoWS z0 z1 z2 z3 r0 r1 r2 r3 r4 r5 s heat n h N (putF (wF k) (0 + Int.toNat (k : Int)) sWait) (IntKind.i64.wrap ((k : Int) + 1))))))
  (.leaf (.exit 4, hoWX z0 z1 z2 z3 r0 r1 r2 r3 r4 r5 s heat n h N k))
noncomputable def hoU (z0 : Nat → ByteArray) (z1 z2 z3 : Nat → Int) (r0 r1 r2 r3 r4 r5 : Int) (s : ByteArray) (heat : Int) (u0 u1 u2 : Int) (n : Nat) (h : Int) (N : Nat) : Tree ((X × St) ⊕ (List Bool × St)) := evO2 reH true (bodyOf fnH) pW [6] [6] (hoB n z0 z1 z2 z3 r0 r1 r2 r3 r4 r5 s heat u0 u1 u2) (.exit 4, hoWX z0 z1 z2 z3 r0 r1 r2 r3 r4 r5 s heat n h N N)
noncomputable def hoUSk (z0 : Nat → ByteArray) (z1 z2 z3 : Nat → Int) (r0 r1 r2 r3 r4 r5 : Int) (s : ByteArray) (heat : Int) (n : Nat) (h : Int) (N : Nat) : SkO := .need (decide ((0 : Int) ≤ 0) && decide (0 ≤ h) && decide (h ≤ (N : Int))) (.need (Nat.ble (0 + h.toNat) N && Nat.ble (h.toNat * 32) 140737488355328 && Nat.ble h.toNat 9223372036854775807) (.need (okN h.toNat) (.need (Nat.ble h.toNat 1000000) (.need (okN N) (.need (Nat.ble N 1000000)
  (.node ((hoRun (wF N) wzI wzI r0 r1 r2 r3 r4 r5 s heat h.toNat).2.2.2.2.2 == 0) (.node ((hoRun (wF N) wzI wzI r0 r1 r2 r3 r4 r5 s heat N).2.2.2.2.2 == 31) (.node ((hoRun (wF N) wzI wzI r0 r1 r2 r3 r4 r5 s heat N).2.2.2.2.1 == h) (hoL n z0 z1 z2 z3 true) (hoL n z0 z1 z2 z3 false)) (.ff (hoL n z0 z1 z2 z3 false))) (.ff (.ff (hoL n z0 z1 z2 z3 false)))))))))
section
variable (z0 : Nat → ByteArray) (z1 z2 z3 : Nat → Int) (r0 r1 r2 r3 r4 r5 : Int) (s : ByteArray) (heat : Int) (u0 u1 u2 : Int) (n : Nat) (e1 f h : Int) (N k : Nat)
theorem hoT_into : hoT z0 z1 z2 z3 r0 r1 r2 r3 r4 r5 s heat u0 u1 u2 e1 f n = into (hoT z0 z1 z2 z3 r0 r1 r2 r3 r4 r5 s heat u0 u1 u2 e1 f n) (hoTSk z0 z1 z2 z3 r0 r1 r2 r3 r4 r5 s heat e1 f n) := by kernel_rfl
theorem hoT_fits : fits (hoT z0 z1 z2 z3 r0 r1 r2 r3 r4 r5 s heat u0 u1 u2 e1 f n) (hoTSk z0 z1 z2 z3 r0 r1 r2 r3 r4 r5 s heat e1 f n) = true := by kernel_rfl
theorem hoW_into : hoWT z0 z1 z2 z3 r0 r1 r2 r3 r4 r5 s heat u0 u1 u2 n h N k = into (hoWT z0 z1 z2 z3 r0 r1 r2 r3 r4 r5 s heat u0 u1 u2 n h N k) (hoWSk z0 z1 z2 z3 r0 r1 r2 r3 r4 r5 s heat n h N k) := by kernel_rfl
theorem hoW_fits : fits (hoWT z0 z1 z2 z3 r0 r1 r2 r3 r4 r5 s heat u0 u1 u2 n h N k) (hoWSk z0 z1 z2 z3 r0 r1 r2 r3 r4 r5 s heat n h N k) = true := by kernel_rfl
theorem hoU_into : hoU z0 z1 z2 z3 r0 r1 r2 r3 r4 r5 s heat u0 u1 u2 n h N = into (hoU z0 z1 z2 z3 r0 r1 r2 r3 r4 r5 s heat u0 u1 u2 n h N) (hoUSk z0 z1 z2 z3 r0 r1 r2 r3 r4 r5 s heat n h N) := by kernel_rfl
theorem hoU_fits : fits (hoU z0 z1 z2 z3 r0 r1 r2 r3 r4 r5 s heat u0 u1 u2 n h N) (hoUSk z0 z1 z2 z3 r0 r1 r2 r3 r4 r5 s heat n h N) = true := by kernel_rfl
end
end Go.Ev

namespace Go.Ev
open Go Go.Proofs
set_option maxRecDepth 100000

/-! ### the hold and the waits, in plain numbers -/
section
variable {z0 : Nat → ByteArray} {z1 z2 z3 : Nat → Int} {r0 r1 r2 r3 r4 r5 : Int} {s : ByteArray} {heat : Int}
theorem srGo_congr0 {za zb : Nat → ByteArray} : ∀ {m k : Nat} {s : ByteArray} {g t l : Int}, (∀ j, k ≤ j → j < k + m → za j = zb j) → srGo za z1 z3 r0 r1 r2 r3 r4 r5 m k s g t l = srGo zb z1 z3 r0 r1 r2 r3 r4 r5 m k s g t l
  | 0, _, _, _, _, _, _ => rfl
  | m + 1, k, s, g, t, l, h => by
    have e := h k (Nat.le_refl k) (by omega)
    have e1 : se za z1 z3 r0 r1 r2 r3 r4 r5 k s g = se zb z1 z3 r0 r1 r2 r3 r4 r5 k s g := by unfold se; rw [e]
    have e2 : ss1 za z1 z3 r0 r1 r2 r3 r4 r5 k s g = ss1 zb z1 z3 r0 r1 r2 r3 r4 r5 k s g := by unfold ss1; rw [e1, e]
    have e3 : sh1 za z1 z3 r0 r1 r2 r3 r4 r5 k s g = sh1 zb z1 z3 r0 r1 r2 r3 r4 r5 k s g := by unfold sh1; rw [e1]
    have e4 : st1 za z1 z3 r0 r1 r2 r3 r4 r5 k s g = st1 zb z1 z3 r0 r1 r2 r3 r4 r5 k s g := by unfold st1; rw [e1]
    have e5 : sl1 za z1 z3 r0 r1 r2 r3 r4 r5 k s g = sl1 zb z1 z3 r0 r1 r2 r3 r4 r5 k s g := by unfold sl1; rw [e1]
    unfold srGo
    rw [e1, e2, e3, e4, e5]
    cases se zb z1 z3 r0 r1 r2 r3 r4 r5 k s g != 0 with
    | true => rfl
    | false => exact srGo_congr0 fun j h1 h2 => h j (by omega) (by omega)
theorem wF_lt {N j : Nat} (h : j < N) : wF N j = sWait := by
  unfold wF
  rw [show Nat.blt j N = true by rw [Nat.blt_eq]; exact h]
theorem wF_next (k : Nat) : putF (wF k) k sWait = wF (k + 1) := by
  funext j
  unfold putF wF
  cases hb : Nat.beq j k with
  | true =>
    have := Nat.eq_of_beq_eq_true hb
    rw [show Nat.blt j (k + 1) = true by rw [Nat.blt_eq]; omega]
  | false =>
    have hne : j ≠ k := fun e => by subst e; simp at hb
    have : Nat.blt j (k + 1) = Nat.blt j k := by rw [Bool.eq_iff_iff, Nat.blt_eq, Nat.blt_eq]; omega
    rw [this]
theorem waitRun {N m : Nat} (hm : m ≤ N) (hm2 : m ≤ 256) (h1 : rulesErr r0 r1 r2 r3 r4 r5 = 0) (h2 : recvErr s heat = 0) : hoRun (wF N) wzI wzI r0 r1 r2 r3 r4 r5 s heat m = rvQ (srGo wzS wzI wzI r0 r1 r2 r3 r4 r5 m 0 s heat 0 0) := by
  obtain ⟨⟨hc1, hc2⟩, _⟩ := rules0 h1
  unfold hoRun rvS
  rw [srunE_zero h1 h2 hm2 fun j hj => by
    show stepErr r0 0 0 (wF N j) = 0
    rw [wF_lt (by omega)]
    exact step_of (by kernel_rfl) (by omega) (by omega) (by omega) (by omega)]
  rw [srGo_congr0 (zb := wzS) fun j _ hj => wF_lt (by omega)]
  rfl
/-- the hold's number and error -/
theorem hold_num (h1 : rulesErr r0 r1 r2 r3 r4 r5 = 0) (h2 : recvErr s heat = 0) : 0 ≤ holdN r0 r1 r2 r3 r4 r5 s heat ∧ (holdE r0 r1 r2 r3 r4 r5 s heat = 0 ∨ holdE r0 r1 r2 r3 r4 r5 s heat = 22 ∨ holdE r0 r1 r2 r3 r4 r5 s heat = 31 ∨ holdE r0 r1 r2 r3 r4 r5 s heat = 7) ∧
    (holdE r0 r1 r2 r3 r4 r5 s heat = 0 → neW s = true ∧ 1 ≤ r1 ∧ 1 ≤ r2 ∧ r2 * r0 + holdN r0 r1 r2 r3 r4 r5 s heat * r1 ≤ heat ∧ heat < r2 * r0 + (holdN r0 r1 r2 r3 r4 r5 s heat + 1) * r1) := by
  obtain ⟨⟨hc1, hc2⟩, ⟨hl1, hl2⟩, ⟨hf1, hf2⟩, _⟩ := rules0 h1
  obtain ⟨hs, g1, g2⟩ := recv0 h2
  have p0 : 0 ≤ r2 * r0 := Int.mul_nonneg hf1 (by omega)
  have p1 : r2 * r0 ≤ 1000 * 1000 := by
    have := Int.mul_le_mul_of_nonneg_left hc2 hf1
    omega
  have es : spareW r0 r2 heat = heat - r2 * r0 := by
    unfold spareW
    rw [w64_id (n := r2 * r0) (by omega) (by omega), w64_id (by omega) (by omega)]
  have e0 : hE0 r0 r1 r2 r3 r4 r5 heat s = errIf (s.toList == sEmpty.toList) 22 := by
    unfold hE0
    rw [h1, h2]
    unfold firstZ
    simp only [bne_self_eq_false, firstZ]
    cases hx : errIf (s.toList == sEmpty.toList) 22 != 0 with
    | true => rfl
    | false => exact (ne0 hx).symm
  have eE : holdE r0 r1 r2 r3 r4 r5 s heat = (match s.toList == sEmpty.toList with | true => 22 | false => match decide (heat - r2 * r0 < 0) with | true => 31 | false => match r1 == 0 with | true => 7 | false => match r2 == 0 with | true => 7 | false => 0) := by
    unfold holdE hE
    rw [e0]
    unfold hE1
    rw [es]
    cases s.toList == sEmpty.toList with
    | true => rfl
    | false =>
      cases decide (heat - r2 * r0 < 0) with
      | true => rfl
      | false =>
        cases r1 == 0 with
        | true => rfl
        | false => cases r2 == 0 <;> rfl
  have hN : holdE r0 r1 r2 r3 r4 r5 s heat = 0 → holdN r0 r1 r2 r3 r4 r5 s heat = w64 ((heat - r2 * r0).tdiv r1) := fun h0 => by
    have h0 : hE r0 r1 r2 r3 r4 r5 heat s = 0 := h0
    unfold holdN
    rw [h0, es]
    rfl
  have hN' : holdE r0 r1 r2 r3 r4 r5 s heat ≠ 0 → holdN r0 r1 r2 r3 r4 r5 s heat = 0 := fun h0 => by
    have h0 : (hE r0 r1 r2 r3 r4 r5 heat s != 0) = true := by simpa [holdE] using h0
    unfold holdN
    rw [h0]
  have key : holdE r0 r1 r2 r3 r4 r5 s heat = 0 → (s.toList == sEmpty.toList) = false ∧ 0 ≤ heat - r2 * r0 ∧ r1 ≠ 0 ∧ r2 ≠ 0 := fun h0 => by
    rw [eE] at h0
    cases a1 : s.toList == sEmpty.toList with
    | true => rw [a1] at h0; simp at h0
    | false =>
      rw [a1] at h0
      cases a2 : decide (heat - r2 * r0 < 0) with
      | true => rw [a2] at h0; simp at h0
      | false =>
        rw [a2] at h0
        cases a3 : r1 == 0 with
        | true => rw [a3] at h0; simp at h0
        | false =>
          rw [a3] at h0
          cases a4 : r2 == 0 with
          | true => rw [a4] at h0; simp at h0
          | false =>
            simp only [decide_eq_false_iff_not] at a2
            exact ⟨rfl, by omega, by simpa using a3, by simpa using a4⟩
  refine ⟨?_, ?_, fun h0 => ?_⟩
  · by_cases h0 : holdE r0 r1 r2 r3 r4 r5 s heat = 0
    · obtain ⟨k1, k2, k3, k4⟩ := key h0
      obtain ⟨b1, b2, b3, b4⟩ := tdiv_bd k2 (show 1 ≤ r1 by omega)
      rw [hN h0, w64_id (by omega) (by omega)]
      exact b1
    · rw [hN' h0]
      exact Int.le_refl 0
  · rw [eE]
    cases s.toList == sEmpty.toList <;> cases decide (heat - r2 * r0 < 0) <;> cases r1 == 0 <;> cases r2 == 0 <;> simp
  · obtain ⟨k1, k2, k3, k4⟩ := key h0
    obtain ⟨b1, b2, b3, b4⟩ := tdiv_bd k2 (show 1 ≤ r1 by omega)
    have e : holdN r0 r1 r2 r3 r4 r5 s heat = (heat - r2 * r0).tdiv r1 := by rw [hN h0]; exact w64_id (by omega) (by omega)
    rw [e]
    refine ⟨?_, by omega, by omega, by omega, by omega⟩
    show (!(s.toList == sEmpty.toList)) = true
    rw [k1]; rfl
end
/-! ### the law's word -/
theorem leads_into {α : Type} {p : α → Prop} {T0 T : Tree α} {S : Sk α} (e : T0 = T) (h1 : T = into T S) (h2 : fits T S = true) (h3 : SkLeads p S) : Leads p T0 := by
  subst e
  exact ⟨all_into h1 h2 h3.all⟩
section
variable {z0 : Nat → ByteArray} {z1 z2 z3 : Nat → Int} {r0 r1 r2 r3 r4 r5 : Int} {s : ByteArray} {heat : Int} {u0 u1 u2 : Int} {n : Nat}
abbrev HoTo (n : Nat) (z0 : Nat → ByteArray) (z1 z2 z3 : Nat → Int) : X × St → Prop := Left2 Tryz.prog Tryz.f9 (hpL1 n (st4 z0 z1 z2 z3)) (boo true) (hpL1 n (st4 z0 z1 z2 z3))
abbrev HoCut (n : Nat) (z0 : Nat → ByteArray) (z1 z2 z3 : Nat → Int) (r0 r1 r2 r3 r4 r5 : Int) (s : ByteArray) (heat : Int) (u0 u1 u2 : Int) (k : Nat) : (X × St) ⊕ (List Bool × St) → Prop := CutF Tryz.prog reH (bodyOf Tryz.f9) (hoB n z0 z1 z2 z3 r0 r1 r2 r3 r4 r5 s heat u0 u1 u2) (HoTo n z0 z1 z2 z3) k
theorem ho_left (n : Nat) (z0 : Nat → ByteArray) (z1 z2 z3 : Nat → Int) : HoTo n z0 z1 z2 z3 (.ret, hoR n z0 z1 z2 z3 true) := left_of (b := true) (by kernel_rfl)
theorem hoL_ok {k : Nat} : SkLeads (HoCut n z0 z1 z2 z3 r0 r1 r2 r3 r4 r5 s heat u0 u1 u2 k) (hoL n z0 z1 z2 z3 true) := sk_leaf (by cases k <;> exact ho_left n z0 z1 z2 z3)
theorem hoChk_ok (h1 : rulesErr r0 r1 r2 r3 r4 r5 = 0) (h2 : recvErr s heat = 0) {k : Nat} : SkLeads (HoCut n z0 z1 z2 z3 r0 r1 r2 r3 r4 r5 s heat u0 u1 u2 k) (hoChk z0 z1 z2 z3 r0 r1 r2 r3 r4 r5 s heat n) := by
  obtain ⟨a1, a2, _⟩ := hold_num h1 h2
  have hx : SkLeads (HoCut n z0 z1 z2 z3 r0 r1 r2 r3 r4 r5 s heat u0 u1 u2 k) (hoX1 z0 z1 z2 z3 r0 r1 r2 r3 r4 r5 s heat n) := sk_yes (by simpa using a1) hoL_ok
  refine sk_either (fun _ => sk_tt (sk_tt (sk_tt hx))) fun b0 => sk_either (fun _ => sk_tt (sk_tt hx)) fun b1 => sk_either (fun _ => sk_tt hx) fun b2 => sk_yes ?_ hx
  rcases a2 with e | e | e | e <;> rw [e] at b0 b1 b2 ⊢ <;> first | rfl | exact absurd b0 (by decide) | exact absurd b1 (by decide) | exact absurd b2 (by decide)
theorem hoW_loop (h : Int) {N : Nat} (hN : N ≤ 1000000) : ComesF Tryz.prog (.loop cW) (hoB n z0 z1 z2 z3 r0 r1 r2 r3 r4 r5 s heat u0 u1 u2) (hoW z0 z1 z2 z3 r0 r1 r2 r3 r4 r5 s heat n h N 0) fun q => q = (.exit 4, hoWX z0 z1 z2 z3 r0 r1 r2 r3 r4 r5 s heat n h N N) := by
  refine loop_count reH_ok rfl hoSlW [3, 4, 23, 25] (hoW z0 z1 z2 z3 r0 r1 r2 r3 r4 r5 s heat n h N) (fun _ => (.exit 4, hoWX z0 z1 z2 z3 r0 r1 r2 r3 r4 r5 s heat n h N N)) N (hoWT z0 z1 z2 z3 r0 r1 r2 r3 r4 r5 s heat u0 u1 u2 n h N) (hoWSk z0 z1 z2 z3 r0 r1 r2 r3 r4 r5 s heat n h N) (fun _ => rfl) (hoW_into z0 z1 z2 z3 r0 r1 r2 r3 r4 r5 s heat u0 u1 u2 n h N) (hoW_fits z0 z1 z2 z3 r0 r1 r2 r3 r4 r5 s heat u0 u1 u2 n h N) (fun k hk => ?_) (sk_no (rnd_end N) (sk_leaf rfl))
  obtain ⟨a1, a2, a3⟩ := rnd_lt hk
  refine sk_yes a1 (sk_need a2 (sk_need a3 (sk_leaf (rnd_next ?_ rfl))))
  rw [idx_nat, wF_next, wrap_succ (by omega)]
  exact St.Le.refl _
theorem hoU_ok (h1 : rulesErr r0 r1 r2 r3 r4 r5 = 0) (h2 : recvErr s heat = 0) (h0 : holdE r0 r1 r2 r3 r4 r5 s heat = 0) (h60 : holdN r0 r1 r2 r3 r4 r5 s heat ≤ 60) (hd : heat.tdiv r0 ≤ r4) {N : Nat} (hN : N = (holdN r0 r1 r2 r3 r4 r5 s heat).toNat + 1) :
    SkLeads (HoCut n z0 z1 z2 z3 r0 r1 r2 r3 r4 r5 s heat u0 u1 u2 0) (hoUSk z0 z1 z2 z3 r0 r1 r2 r3 r4 r5 s heat n (holdN r0 r1 r2 r3 r4 r5 s heat) N) := by
  obtain ⟨a1, _, a3⟩ := hold_num h1 h2
  obtain ⟨b1, b2, b3, b4, b5⟩ := a3 h0
  generalize holdN r0 r1 r2 r3 r4 r5 s heat = h at *
  have hm : ((h.toNat : Nat) : Int) = h := Int.toNat_of_nonneg a1
  obtain ⟨_, g1, g2⟩ := recv0 h2
  have hle : ∀ {a b : Nat}, a ≤ b → Nat.ble a b = true := fun hab => by rw [Nat.ble_eq]; exact hab
  refine sk_need ?_ (sk_need ?_ (sk_need (okN_ok _) (sk_need (hle (by omega)) (sk_need (okN_ok _) (sk_need (hle (by omega)) ?_)))))
  · rw [show decide (0 ≤ h) = true by simpa using a1, show decide (h ≤ (N : Int)) = true by simp only [decide_eq_true_eq]; omega]
    rfl
  · rw [hle (show 0 + h.toNat ≤ N by omega), hle (show h.toNat * 32 ≤ 140737488355328 by omega), hle (show h.toNat ≤ 9223372036854775807 by omega)]
    rfl
  · rw [waitRun (show h.toNat ≤ N by omega) (by omega) h1 h2, waitRun (Nat.le_refl N) (by omega) h1 h2]
    obtain ⟨t', l', x⟩ := waits_ok h1 h.toNat 0 s heat 0 0 (by rw [hm]; exact b4) g2 hd
    obtain ⟨s2, g', t2, l2, y⟩ := waits_end h1 h.toNat 0 s heat 0 0 b1 b3 (by rw [hm]; exact b4) (by rw [hm]; exact b5) g2 hd
    rw [x, hN, y]
    refine sk_yes rfl (sk_yes rfl (sk_yes ?_ hoL_ok))
    show (((0 + h.toNat : Nat) : Int) == h) = true
    rw [Nat.zero_add, hm]
    simp
theorem hoU_eq (n : Nat) (z0 : Nat → ByteArray) (z1 z2 z3 : Nat → Int) (r0 r1 r2 r3 r4 r5 : Int) (s : ByteArray) (heat : Int) (u0 u1 u2 : Int) (h : Int) (N : Nat) : evO2 reH true (bodyOf Tryz.f9) pW [6] [6] (hoB n z0 z1 z2 z3 r0 r1 r2 r3 r4 r5 s heat u0 u1 u2) (.exit 4, hoWX z0 z1 z2 z3 r0 r1 r2 r3 r4 r5 s heat n h N N) = hoU z0 z1 z2 z3 r0 r1 r2 r3 r4 r5 s heat u0 u1 u2 n h N := by delta hoU fnH; rfl
theorem hoT_eq (n : Nat) (z0 : Nat → ByteArray) (z1 z2 z3 : Nat → Int) (r0 r1 r2 r3 r4 r5 : Int) (s : ByteArray) (heat : Int) (u0 u1 u2 : Int) (e1 f : Int) : evO2 reH true (bodyOf Tryz.f9) (pathF Tryz.f9) hoSlW [6] (hoB n z0 z1 z2 z3 r0 r1 r2 r3 r4 r5 s heat u0 u1 u2) (.exit 0, hoE z0 z1 z2 z3 r0 r1 r2 r3 r4 r5 s heat e1 f n) = hoT z0 z1 z2 z3 r0 r1 r2 r3 r4 r5 s heat u0 u1 u2 e1 f n := by delta hoT fnH; rfl
theorem hoTail_ok (h1 : rulesErr r0 r1 r2 r3 r4 r5 = 0) (h2 : recvErr s heat = 0) : SkLeads (HoCut n z0 z1 z2 z3 r0 r1 r2 r3 r4 r5 s heat u0 u1 u2 1) (hoTail z0 z1 z2 z3 r0 r1 r2 r3 r4 r5 s heat n) := by
  obtain ⟨a1, _, _⟩ := hold_num h1 h2
  obtain ⟨⟨hc1, hc2⟩, _⟩ := rules0 h1
  obtain ⟨_, g1, g2⟩ := recv0 h2
  refine sk_either (fun _ => sk_tt (sk_tt (hoChk_ok h1 h2))) fun b0 => sk_either (fun _ => sk_tt (hoChk_ok h1 h2)) fun b1 => sk_need (rules_c h1) (sk_either (fun _ => hoChk_ok h1 h2) fun b2 => ?_)
  have h0 : holdE r0 r1 r2 r3 r4 r5 s heat = 0 := ne0 b0
  have h60 : holdN r0 r1 r2 r3 r4 r5 s heat ≤ 60 := by simpa using b1
  obtain ⟨d1, d2, _, _⟩ := tdiv_bd g1 hc1
  have hd : heat.tdiv r0 ≤ r4 := by
    rw [wrap_id (by omega) (by omega)] at b2
    simpa using b2
  have hw : IntKind.i64.wrap (holdN r0 r1 r2 r3 r4 r5 s heat + 1) = holdN r0 r1 r2 r3 r4 r5 s heat + 1 := wrap_id (by omega) (by omega)
  have hN : (IntKind.i64.wrap (holdN r0 r1 r2 r3 r4 r5 s heat + 1)).toNat = (holdN r0 r1 r2 r3 r4 r5 s heat).toNat + 1 := by rw [hw]; omega
  refine sk_need ?_ (sk_leaf ?_)
  · unfold mkOk
    rw [hw, show decide (0 ≤ holdN r0 r1 r2 r3 r4 r5 s heat + 1) = true by simp only [decide_eq_true_eq]; omega]
    simp only [decide_true, Bool.true_and, Bool.and_eq_true, Nat.ble_eq]
    omega
  · generalize hM : (IntKind.i64.wrap (holdN r0 r1 r2 r3 r4 r5 s heat + 1)).toNat = N at hN
    refine ⟨_, true, [6], [6], hoW_loop (holdN r0 r1 r2 r3 r4 r5 s heat) (show N ≤ 1000000 by omega), fun q hq => Leads.all ?_⟩
    subst hq
    have hU := hoU_ok (n := n) (z0 := z0) (z1 := z1) (z2 := z2) (z3 := z3) (u0 := u0) (u1 := u1) (u2 := u2) h1 h2 h0 h60 hd hN
    exact leads_into (hoU_eq n z0 z1 z2 z3 r0 r1 r2 r3 r4 r5 s heat u0 u1 u2 (holdN r0 r1 r2 r3 r4 r5 s heat) N) (hoU_into z0 z1 z2 z3 r0 r1 r2 r3 r4 r5 s heat u0 u1 u2 n (holdN r0 r1 r2 r3 r4 r5 s heat) N) (hoU_fits z0 z1 z2 z3 r0 r1 r2 r3 r4 r5 s heat u0 u1 u2 n (holdN r0 r1 r2 r3 r4 r5 s heat) N) hU
theorem hoS0_ok (hA : HoArgs n z0 z1 z2 z3 r0 r1 r2 r3 r4 r5 s heat) (h0 : 0 ≤ u0 ∧ u0 ≤ 255) (h1 : 0 ≤ u1 ∧ u1 ≤ 255) (h2 : 0 ≤ u2 ∧ u2 ≤ 255) {p : R4} (hp : p = hoP n z0 z1 z2 z3 r0 r1 r2 r3 r4 r5 s heat) : SkLeads (HoCut n z0 z1 z2 z3 r0 r1 r2 r3 r4 r5 s heat u0 u1 u2 2) (hoS0 n z0 z1 z2 z3 r0 r1 r2 r3 r4 r5 s heat u0 u1 u2 p) := by
  refine sk_leaf ⟨_, true, hoSlW, [6], outer_ok hA h0 h1 h2 hp, fun q hq => Leads.all ?_⟩
  obtain ⟨f, hq, hf⟩ := hq
  subst hq
  have hS : SkLeads (HoCut n z0 z1 z2 z3 r0 r1 r2 r3 r4 r5 s heat u0 u1 u2 1) (hoTSk z0 z1 z2 z3 r0 r1 r2 r3 r4 r5 s heat p.2.2.2 f n) := sk_either (fun b => sk_no (by simpa using hf (by simpa using b)) (hoTail_ok hA.rules hA.recv)) fun _ => sk_ff (hoTail_ok hA.rules hA.recv)
  exact leads_into (hoT_eq n z0 z1 z2 z3 r0 r1 r2 r3 r4 r5 s heat u0 u1 u2 p.2.2.2 f) (hoT_into z0 z1 z2 z3 r0 r1 r2 r3 r4 r5 s heat u0 u1 u2 n p.2.2.2 f) (hoT_fits z0 z1 z2 z3 r0 r1 r2 r3 r4 r5 s heat u0 u1 u2 n p.2.2.2 f) hS
theorem hoA_ok (hA : HoArgs n z0 z1 z2 z3 r0 r1 r2 r3 r4 r5 s heat) (h0 : 0 ≤ u0 ∧ u0 ≤ 255) (h1 : 0 ≤ u1 ∧ u1 ≤ 255) (h2 : 0 ≤ u2 ∧ u2 ≤ 255) {p : R4} (hp : p = hoP n z0 z1 z2 z3 r0 r1 r2 r3 r4 r5 s heat) : SkLeads (HoCut n z0 z1 z2 z3 r0 r1 r2 r3 r4 r5 s heat u0 u1 u2 2) (hoA n z0 z1 z2 z3 r0 r1 r2 r3 r4 r5 s heat u0 u1 u2 p) := by
  refine sk_either (fun b => ?_) fun _ => sk_ff (hoS0_ok hA h0 h1 h2 hp)
  obtain ⟨⟨a1, a2⟩, _⟩ := hold_ends hA (by rw [← hp]; simpa using b)
  rw [← hp] at a1 a2
  exact sk_no (by simpa using a1) (sk_no (by simpa using a2) (hoS0_ok hA h0 h1 h2 hp))
theorem plan_told (h : qplanE n (qtC z0 z1 z2 z3 r0) = 0) : ∀ j, j < n → toldErr r0 (z1 j) (z2 j) (z3 j) (z0 j) = 0 := fun j hj => by
  unfold qplanE at h
  split at h
  · cases h
  · rw [told_qh]
    exact fnz_none h j (Nat.zero_le j) (by omega)
theorem ho_law (hn : n ≤ 9223372036854775807) (h0 : 0 ≤ u0 ∧ u0 ≤ 255) (h1 : 0 ≤ u1 ∧ u1 ≤ 255) (h2 : 0 ≤ u2 ∧ u2 ≤ 255) : SkLeads (HoCut n z0 z1 z2 z3 r0 r1 r2 r3 r4 r5 s heat u0 u1 u2 2) (hoPre n z0 z1 z2 z3 r0 r1 r2 r3 r4 r5 s heat u0 u1 u2) := by
  have hle2 : Nat.ble n 9223372036854775807 = true := by rw [Nat.ble_eq]; exact hn
  refine sk_either (fun _ => sk_tt (sk_tt (sk_tt (sk_tt hoL_ok)))) fun b1 => sk_either (fun _ => sk_tt (sk_tt (sk_tt hoL_ok))) fun b2 => sk_need (okN_ok n) (sk_need hle2 (sk_either (fun _ => sk_tt (sk_tt hoL_ok)) fun b3 => sk_either (fun _ => sk_tt hoL_ok) fun b4 =>
    sk_need (okN_ok n) (sk_need hle2 (sk_either (fun _ => hoL_ok) fun b5 => ?_))))
  have hn8 : n ≤ 8 := by
    simp only [decide_eq_false_iff_not] at b4
    omega
  have hle : Nat.ble n 1000000 = true := by rw [Nat.ble_eq]; omega
  have hA : HoArgs n z0 z1 z2 z3 r0 r1 r2 r3 r4 r5 s heat := ⟨by rw [rules_q]; exact ne0 b1, by rw [recv_q]; exact ne0 b2, hn8, plan_told (ne0 b5)⟩
  refine sk_need (okN_ok n) (sk_need hle (sk_either (fun b6 => ?_) fun _ => sk_need (okN_ok n) (sk_need hle (hoA_ok hA h0 h1 h2 rfl))))
  refine hoA_ok hA h0 h1 h2 ?_
  obtain rfl := Nat.eq_of_beq_eq_true b6
  rfl
end
theorem holds_call (n : Nat) (z0 : Nat → ByteArray) (z1 z2 z3 : Nat → Int) (r0 r1 r2 r3 r4 r5 : Int) (s : ByteArray) (heat : Int) (u0 u1 u2 : Int) (hn : n ≤ 9223372036854775807) (h0 : 0 ≤ u0 ∧ u0 ≤ 255) (h1 : 0 ≤ u1 ∧ u1 ≤ 255) (h2 : 0 ≤ u2 ∧ u2 ≤ 255) :
    CallAt Tryz.prog 9 (hoArgs n r0 r1 r2 r3 r4 r5 s heat u0 u1 u2) (hpL1 n (st4 z0 z1 z2 z3)) (boo true) (hpL1 n (st4 z0 z1 z2 z3)) := by
  refine call_base (rec := reH) reH_ok (c := bodyOf Tryz.f9) (fn := Tryz.f9) Tryz.func9 (by kernel_rfl) (by kernel_rfl) (false, true) 2 hoSl [6] (sB := hoB n z0 z1 z2 z3 r0 r1 r2 r3 r4 r5 s heat u0 u1 u2) (by kernel_rfl) (t := hoO n z0 z1 z2 z3 r0 r1 r2 r3 r4 r5 s heat u0 u1 u2) (by delta hoO fnH; rfl) ?_
  exact all_into (ho_pre n z0 z1 z2 z3 r0 r1 r2 r3 r4 r5 s heat u0 u1 u2) (ho_pre_fits n z0 z1 z2 z3 r0 r1 r2 r3 r4 r5 s heat u0 u1 u2) (ho_law hn h0 h1 h2).all
end Go.Ev
