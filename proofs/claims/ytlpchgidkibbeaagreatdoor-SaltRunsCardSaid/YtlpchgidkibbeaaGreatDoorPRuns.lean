/- The plain law of runs: what the program's run comes to is what the reference's does. Conditions: none, or the checks. -/
import Derived.Test.YtlpchgidkibbeaaGreatDoorQRunS
namespace Go.Ev
open Go Go.Proofs

theorem eW0 {ns : ByteArray} {b1 b2 : Bool} {c l f h k heat light flow : Int} (h0 : eW ns b1 b2 c l f h k heat light flow = 0) : outW c l k heat light flow ≤ 1000000000 := by
  unfold eW at h0
  cases h1 : e1W ns b1 b2 flow != 0 with
  | true =>
    rw [h1] at h0
    have : e1W ns b1 b2 flow ≠ 0 := by simpa using h1
    exact absurd h0 this
  | false =>
    rw [h1] at h0
    have h0 : err2W (neW ns) c l f h k heat light flow = 0 := h0
    unfold err2W at h0
    obtain ⟨h2, _⟩ := first0 h0
    have := errIf0 (by decide) h2
    simp only [decide_eq_false_iff_not] at this
    omega
theorem out_nonneg {c l f r h k heat light flow : Int} {s act : ByteArray} (h1 : rulesErr c l f r h k = 0) (h2 : recvErr s heat = 0) (h3 : stepErr c light flow act = 0) : 0 ≤ outW c l k heat light flow := by
  obtain ⟨⟨hc1, hc2⟩, ⟨hl1, hl2⟩, hf, hr, hh, ⟨hk1, hk2⟩, _⟩ := rules0 h1
  obtain ⟨hs, hh1, hh2⟩ := recv0 h2
  obtain ⟨ha, ⟨hi1, hi2⟩, hw1, hw2⟩ := step0 h3
  have a1 : 0 ≤ flow * heat := Int.mul_nonneg hw1 hh1
  have a2 : flow * heat ≤ 1000 * 1000000000 := by
    have b1 : flow * heat ≤ flow * 1000000000 := Int.mul_le_mul_of_nonneg_left hh2 hw1
    omega
  have b1 : 0 ≤ flow * k := Int.mul_nonneg hw1 hk1
  have b2 : flow * k ≤ 1000 * 1000 := by
    have b1 : flow * k ≤ flow * 1000 := Int.mul_le_mul_of_nonneg_left hk2 hw1
    omega
  obtain ⟨d1, d2, _, _⟩ := tdiv_bd a1 hc1
  have e1 : w64 (flow * heat) = flow * heat := w64_id (by omega) (by omega)
  have e2 : w64 ((flow * heat).tdiv c) = (flow * heat).tdiv c := w64_id (by omega) (by omega)
  have e3 : w64 (flow * k) = flow * k := w64_id (by omega) (by omega)
  have et : takenW c k heat flow = (flow * heat).tdiv c - flow * k := by
    unfold takenW
    rw [e1, e2, e3]
    exact w64_id (by omega) (by omega)
  have eh : heat1W c k heat light flow = heat - ((flow * heat).tdiv c - flow * k) + light := by
    unfold heat1W
    rw [et, w64_id (n := heat - ((flow * heat).tdiv c - flow * k)) (by omega) (by omega)]
    exact w64_id (by omega) (by omega)
  unfold outW lostW
  rw [eh]
  split
  · rw [w64_id (by omega) (by omega)]; omega
  · rw [w64_id (by omega) (by omega)]; omega
theorem actNs_known {s act : ByteArray} (hs : known s = true) (ha : isAct act = true) : known (actNs s act) = true := by
  rcases known_cases hs with rfl | rfl | rfl <;> rcases act_cases ha with rfl | rfl | rfl | rfl | rfl <;> kernel_rfl
theorem recv_of {s : ByteArray} {n : Int} (h1 : known s = true) (h2 : 0 ≤ n) (h3 : n ≤ 1000000000) : recvErr s n = 0 := by
  unfold recvErr wW
  have a : decide (n < 0) = false := by simp only [decide_eq_false_iff_not]; omega
  have b : decide (1000000000 < n) = false := by simp only [decide_eq_false_iff_not]; omega
  rw [h1, a, b]
  rfl

section
variable {z0 : Nat → ByteArray} {z1 z2 : Nat → Int} {r0 r1 r2 r3 r4 r5 : Int}
theorem go_q (h1 : rulesErr r0 r1 r2 r3 r4 r5 = 0) : ∀ (m k : Nat) (s : ByteArray) (heat t l : Int), (∀ j, k ≤ j → j < k + m → stepErr r0 (z1 j) (z2 j) (z0 j) = 0) → recvErr s heat = 0 → srGo z0 z1 z2 r0 r1 r2 r3 r4 r5 m k s heat t l = qrGo z0 z1 z2 r0 r1 r2 r3 r4 r5 m k s heat t l
  | 0, _, _, _, _, _, _, _ => rfl
  | m + 1, k, s, heat, t, l, hst, h2 => by
    have h3 := hst k (Nat.le_refl k) (by omega)
    obtain ⟨q1, q2⟩ := stepped_q (heat := heat) (light := z1 k) (flow := z2 k) (s := s) (act := z0 k) h1 h2 h3
    have he : se z0 z1 z2 r0 r1 r2 r3 r4 r5 k s heat = qe z0 z1 z2 r0 r1 r2 r3 r4 r5 k s heat := q1
    unfold srGo qrGo
    rw [he]
    cases hz : qe z0 z1 z2 r0 r1 r2 r3 r4 r5 k s heat != 0 with
    | true => rfl
    | false =>
      have h0 : qe z0 z1 z2 r0 r1 r2 r3 r4 r5 k s heat = 0 := ne0 hz
      obtain ⟨e1, e2⟩ := q2 h0
      have s1 : ss1 z0 z1 z2 r0 r1 r2 r3 r4 r5 k s heat = actNs s (z0 k) := by unfold ss1 sif; rw [he, h0]; rfl
      have s2 : sh1 z0 z1 z2 r0 r1 r2 r3 r4 r5 k s heat = outW r0 r1 r5 heat (z1 k) (z2 k) := by unfold sh1 zif; rw [he, h0]; rfl
      have g1 : ss1 z0 z1 z2 r0 r1 r2 r3 r4 r5 k s heat = qs1 z0 z1 z2 r0 r1 r2 r3 r4 r5 k s heat := by unfold ss1 qs1; rw [he, e1]
      have g2 : sh1 z0 z1 z2 r0 r1 r2 r3 r4 r5 k s heat = qh1 z0 z1 z2 r0 r1 r2 r3 r4 r5 k s heat := by
        unfold sh1 qh1; rw [he]; simp only [outW, heat1W, outT, qH, heatT, ← e2]
      have g3 : st1 z0 z1 z2 r0 r1 r2 r3 r4 r5 k s heat = qt1 z0 z1 z2 r0 r1 r2 r3 r4 r5 k s heat := by unfold st1 qt1; rw [he, e2]
      have g4 : sl1 z0 z1 z2 r0 r1 r2 r3 r4 r5 k s heat = ql1 z0 z1 z2 r0 r1 r2 r3 r4 r5 k s heat := by
        unfold sl1 ql1; rw [he]; simp only [heat1W, qH, heatT, ← e2]
      have hv : recvErr (ss1 z0 z1 z2 r0 r1 r2 r3 r4 r5 k s heat) (sh1 z0 z1 z2 r0 r1 r2 r3 r4 r5 k s heat) = 0 := by
        rw [s1, s2]
        exact recv_of (actNs_known (recv0 h2).1 (step0 h3).1) (out_nonneg h1 h2 h3) (eW0 (show eW _ _ _ _ _ _ _ _ _ _ _ = 0 from he.trans h0))
      have ih := go_q h1 m (k + 1) _ _ (w64 (t + st1 z0 z1 z2 r0 r1 r2 r3 r4 r5 k s heat)) (w64 (l + sl1 z0 z1 z2 r0 r1 r2 r3 r4 r5 k s heat)) (fun j hj1 hj2 => hst j (by omega) (by omega)) hv
      simp only []
      rw [ih, g1, g2, g3, g4]
/-- the errors of a run's arguments -/
theorem run_E (n : Nat) (s : ByteArray) (heat : Int) : srunE n z0 z1 z2 r0 r1 r2 r3 r4 r5 s heat = (match firstZ [qrulesErr r0 r1 r2 r3 r4 r5, qrecvErr s heat] != 0 with
    | true => firstZ [qrulesErr r0 r1 r2 r3 r4 r5, qrecvErr s heat]
    | false => qplanE n (qpC z0 z1 z2 r0)) := by
  have hC : mapSC0 z0 z1 z2 r0 r1 r2 r3 r4 r5 = qpC z0 z1 z2 r0 := by
    funext k
    show stepErr r0 (z1 k) (z2 k) (z0 k) = qstepErr r0 (z1 k) (z2 k) (z0 k)
    rw [step_q]
  have hF : ∀ x, firstZ [x] = x := fun x => by
    unfold firstZ
    cases hx : x != 0 with
    | true => rfl
    | false => rw [ne0 hx]; rfl
  unfold srunE qplanE
  rw [hC, rules_q, recv_q]
  generalize qrulesErr r0 r1 r2 r3 r4 r5 = a
  generalize qrecvErr s heat = b
  generalize (fnz (qpC z0 z1 z2 r0) n 0).getD 0 = d
  have e1 : firstZ [a, b] = (match a != 0 with | true => a | false => b) := by
    unfold firstZ
    rw [hF]
    cases a != 0 <;> rfl
  have e2 : firstZ [a, b, errIf (decide ((n : Int) > 256)) 5, d] = (match a != 0 with | true => a | false => match b != 0 with | true => b | false => match errIf (decide ((n : Int) > 256)) 5 != 0 with | true => errIf (decide ((n : Int) > 256)) 5 | false => d) := by
    unfold firstZ firstZ firstZ
    rw [hF]
    cases a != 0 <;> cases b != 0 <;> cases errIf (decide ((n : Int) > 256)) 5 != 0 <;> rfl
  rw [e1, e2]
  cases ha : a != 0 with
  | true => simp only [ha]
  | false =>
    simp only []
    cases hb : b != 0 with
    | true => simp only []
    | false => cases decide ((n : Int) > 256) <;> rfl
end
end Go.Ev
