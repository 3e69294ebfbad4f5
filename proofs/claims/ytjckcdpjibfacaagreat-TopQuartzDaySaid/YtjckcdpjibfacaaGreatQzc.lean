/- TopQuartzDay: its second loop as a whole; its third one. Conditions: a valid sky, a valid cone. -/
import Derived.Test.YtjckcdpjibfacaaGreatQz9
namespace Go.Ev
open Go Go.Proofs
set_option maxRecDepth 100000
theorem tiny_in3 {x y z : Int} (h : Bd 40 x y z) : Ev.in3 x y z = true := h.in3 (by decide)
theorem need4_ok {ψ : (X × St) ⊕ (List Bool × St) → Prop} {c : Bool} {S : SkO} (hc : c = true) (h : SkLeads ψ S) : SkLeads ψ (need4O c S) := sk_need hc (sk_need hc (sk_need hc (sk_need hc h)))
section
variable {fl : Bool} {nm : ByteArray} {m : Nat} {g0 g1 g2 g3 : Nat → Int} {x y z num den : Int} (hk : QzK fl nm m g0 g1 g2 g3 x y z num den) (t0 wd : Int) (wn : Nat) (F : Nat → Nat)
include hk
theorem pair_loop : ComesF Tryz.prog (.loop qzC2) (qzB nm m g0 g1 g2 g3 x y z num den) (qzH2 fl fqT nm m g0 g1 g2 g3 x y z num den t0 wd wn F ((0 : Nat) : Int)) fun q => ∃ i, q = (.exit 2, qzH2 fl fqT nm m g0 g1 g2 g3 x y z num den t0 wd wn F i) := by
 have hs := hk.sky
 have hfew := hs.few
 refine comesF_loop (fun i : Nat => qzH2 fl fqT nm m g0 g1 g2 g3 x y z num den t0 wd wn F (i : Int)) (fun i => m + 2 - i) (fun i => i ≤ m + 1) _ (fun k hkm => ?_) 0 (Nat.zero_le _)
 have hkm : k ≤ m + 1 := hkm
 have e1 : k1Z k = ((k + 1 : Nat) : Int) := wrap_succ (by omega)
 have e2 : k1N k = k + 1 := by unfold k1N; rw [e1]; exact idx_nat _
 have e3 : ixN k = k := idx_nat k
 refine comesF_cutS (reQ_ok fl) rfl 1 qzV3 qzV2 (T := qzA2 fl fqT nm m g0 g1 g2 g3 x y z num den t0 wd wn F k) (by delta qzA2; rfl) (qzA2_into fl fqT nm m g0 g1 g2 g3 x y z num den t0 wd wn F k) (qzA2_fits fl fqT nm m g0 g1 g2 g3 x y z num den t0 wd wn F k) ?_
 unfold qzS2
 rw [e1, e2, e3]
 refine sk_either (fun h => ?_) fun _ => sk_done ⟨_, rfl⟩
 have h : k + 1 < m + 2 := by simp only [decide_eq_true_eq] at h; omega
 obtain ⟨_, d2, _⟩ := rnd_lt (show k < m + 2 by omega)
 have hA := hk.tiny k (by omega)
 have hB := hk.tiny (k + 1) h
 have rA := hs.ray k (by omega)
 have rB := hs.ray (k + 1) h
 have hop := opp_eq rA.2 rB.2 (hA.mono (by decide)) (hB.mono (by decide))
 refine sk_need d2 (need4_ok (by rw [Nat.blt_eq]; omega) (sk_need ?_ (need4_ok (by rw [Nat.blt_eq]; exact h) (sk_need ?_ (sk_either (fun _ => sk_done ⟨k + 1, St.Le.refl _, by omega, by omega⟩) fun ho => ?_)))))
 ·unfold k1B
  rw [e1]
  simp only [Bool.and_eq_true, decide_eq_true_eq]; omega
 ·show (in3 (g1 k) (g2 k) (g3 k) && in3 (g1 (k + 1)) (g2 (k + 1)) (g3 (k + 1))) = true
  rw [tiny_in3 hA, tiny_in3 hB]
  rfl
 ·rw [← hop] at ho
  have hl := seg_loop hk t0 wd wn F h ho (k : Int) (p := pairQ fqT g0 g1 g2 g3 x y z num den k) (by show g0 (k1N k) = _; rw [e2]) (by show insW x y z num den (g1 (ixN k)) (g2 (ixN k)) (g3 (ixN k)) = _; rw [e3]) (by show insW x y z num den (g1 (k1N k)) (g2 (k1N k)) (g3 (k1N k)) = _; rw [e2]) (by show mcW x y z num den (g1 (ixN k)) (g2 (ixN k)) (g3 (ixN k)) (g1 (k1N k)) (g2 (k1N k)) (g3 (k1N k)) = _; rw [e2, e3])
  refine sk_need (hk.icK rA) (sk_need (hk.icK rB) (sk_need (mc_iff hk.cone rA rB (hA.mono (by decide)) (hB.mono (by decide)) ho).1 (sk_ff (sk_ff (sk_ff (sk_stop _ true [] qzV2 hl fun q hq => ?_))))))
  obtain ⟨t, rfl⟩ := hq
  refine leads_leaf (show _ = qzA3 fl fqT nm m g0 g1 g2 g3 x y z num den (.exit 4, qzH3 fl fqT nm m g0 g1 g2 g3 x y z num den t0 wd wn F (k : Int) (pairQ fqT g0 g1 g2 g3 x y z num den k) t) by delta qzA3; rfl) (qzA3_is fl fqT nm m g0 g1 g2 g3 x y z num den t0 wd wn F (k : Int) (pairQ fqT g0 g1 g2 g3 x y z num den k) t) (cutF_dn ⟨k + 1, ?_, by omega, by omega⟩)
  have e4 : IntKind.i64.wrap ((k : Int) + 1) = ((k + 1 : Nat) : Int) := e1
  rw [e4]
  exact St.Le.refl _
end
theorem cc_facts {a b c : Int} (h : Ray a b c) (hc : 0 < c) : ccK [a, b, c, 0, 0, 1] [] = true ∧ ccS a b c 0 0 1 = 1 ∧ 1 ≤ ccN a b c 0 0 1 ∧ ccN a b c 0 0 1 ≤ ccD a b c 0 0 1 := by
 have hu : Ray 0 0 1 := ⟨⟨by decide, by decide, by decide⟩, by decide⟩
 have hr : raysErr a b c 0 0 1 = 0 := raysErr_zero.2 ⟨h, hu⟩
 obtain ⟨d1, n1⟩ := dot_eq h.1 hu.1 (by decide)
 obtain ⟨d2, n2⟩ := dot_eq h.1 h.1 (by decide)
 have d1 : dotW a b c 0 0 1 = c := by rw [d1]; omega
 have d3 : dotW 0 0 1 0 0 1 = 1 := by decide
 have hcb := h.1.2.2
 have hcc := mul_bd hcb hcb
 have pc : 0 < c * c := Int.mul_pos hc hc
 have pa := sq_nonneg a
 have pb := sq_nonneg b
 have eN : coN a b c 0 0 1 = c * c := by unfold coN; rw [d1, w64_id (by omega)]
 have eD : coD a b c 0 0 1 = a * a + b * b + c * c := by unfold coD; rw [d2, d3, Int.mul_one, w64_id (by omega)]
 refine ⟨by show (raysErr a b c 0 0 1 == 0) = true; rw [hr]; rfl, ?_, ?_⟩
 ·unfold ccS signW
  rw [d1, decide_eq_true hc]
 ·unfold ccN ccD rtW
  rw [eN, eD]
  generalize hN : c * c = N at *
  generalize hD : a * a + b * b + N = D at *
  obtain ⟨p, hp⟩ := Int.gcd_dvd_left (a := N) (b := D)
  obtain ⟨q, hq⟩ := Int.gcd_dvd_right (a := N) (b := D)
  have hg : 0 < Int.gcd N D := by
   rcases Nat.eq_zero_or_pos (Int.gcd N D) with h | h
   ·have := (Int.gcd_eq_zero_iff.1 h).1; omega
   ·exact h
  have hN9 : N.natAbs ≤ 9223372036854775807 := by omega
  have hD9 : D.natAbs ≤ 9223372036854775807 := by omega
  have hle : N ≤ D := by omega
  generalize Int.gcd N D = g at *
  have key : ∀ a c : Int, a = (g : Int) * c → a.natAbs ≤ 9223372036854775807 → w64 (a.tdiv g) = c := fun a c h hb => by
   subst h
   have hc : c.natAbs ≤ ((g : Int) * c).natAbs := by
    rw [Int.natAbs_mul]
    exact Nat.le_mul_of_pos_left _ (by omega)
   rw [Int.mul_tdiv_cancel_left _ (by omega)]
   exact w64_id (by omega)
  rw [key N p hp hN9, key D q hq hD9]
  constructor
  ·rcases Int.lt_or_le 0 p with h1 | h1
   ·omega
   ·have := Int.mul_nonpos_of_nonneg_of_nonpos (show (0 : Int) ≤ g by omega) h1
    omega
  ·refine Int.le_of_mul_le_mul_left (a := (g : Int)) ?_ (by omega)
   rw [← hp, ← hq]; exact hle
section
variable {fl : Bool} {nm : ByteArray} {m : Nat} {g0 g1 g2 g3 : Nat → Int} {x y z num den : Int} (hk : QzK fl nm m g0 g1 g2 g3 x y z num den) {wn : Nat} (hwn : g0 0 + (wn : Int) = g0 (m + 1) + 1)
include hk hwn
theorem tick_loop : ComesF Tryz.prog (.loop (nthLoop qzC path6)) (qzB nm m g0 g1 g2 g3 x y z num den) (qzH6 fl fqT nm m g0 g1 g2 g3 (g0 0) (wn : Int) wn (fun _ => 0) ((0 : Nat) : Int)) fun q => q = (.exit 6, qzH6 fl fqT nm m g0 g1 g2 g3 (g0 0) (wn : Int) wn (qF (upB (m + 2) g0 g1 g2 g3) (g0 0) wn) (wn : Int)) := by
 have hs := hk.sky
 have hfew := hs.few
 have c1 := hs.tick 0 (by omega)
 have c2 := hs.tick (m + 1) (by omega)
 have hsh := hk.short
 refine loop_count (reQ_ok fl) rfl qzV6 qzV6 (fun k => qzH6 fl fqT nm m g0 g1 g2 g3 (g0 0) (wn : Int) wn (qF (upB (m + 2) g0 g1 g2 g3) (g0 0) k) (k : Int)) (fun _ => (.exit 6, qzH6 fl fqT nm m g0 g1 g2 g3 (g0 0) (wn : Int) wn (qF (upB (m + 2) g0 g1 g2 g3) (g0 0) wn) (wn : Int))) wn
  (fun k => qzT6 fl fqT nm m g0 g1 g2 g3 x y z num den (g0 0) (wn : Int) wn (qF (upB (m + 2) g0 g1 g2 g3) (g0 0) k) k) (fun k => qzS6 fl fqT nm m g0 g1 g2 g3 (g0 0) (wn : Int) wn (qF (upB (m + 2) g0 g1 g2 g3) (g0 0) k) k) (fun k => by delta qzT6; rfl) (fun k => qzT6_into fl fqT nm m g0 g1 g2 g3 x y z num den (g0 0) (wn : Int) wn _ k) (fun k => qzT6_fits fl fqT nm m g0 g1 g2 g3 x y z num den (g0 0) (wn : Int) wn _ k) (fun k hkn => ?_) ?_
 ·obtain ⟨e1, e2, e3⟩ := rnd_lt hkn
  have hx : ixN k = k := idx_nat k
  have ht : tkZ (g0 0) k = g0 0 + (k : Int) := wrap_id (by omega) (by omega)
  have t0 : g0 0 ≤ g0 0 + (k : Int) := by omega
  have t1 : g0 0 + (k : Int) ≤ g0 (m + 1) := by omega
  obtain ⟨k1, k2⟩ := hk.gd
  have hup : rsQ fqT m g0 g1 g2 g3 (g0 0 + (k : Int)) = upB (m + 2) g0 g1 g2 g3 (g0 0 + (k : Int)) := by
   show rsB (vX (m + 2) g0 g1 g2 g3 (g0 0 + (k : Int))) (vY (m + 2) g0 g1 g2 g3 (g0 0 + (k : Int))) (vZ (m + 2) g0 g1 g2 g3 (g0 0 + (k : Int))) = _
   rw [rsB_eq]
   rfl
  have hw : IntKind.i64.wrap ((k : Int) + 1) = ((k + 1 : Nat) : Int) := wrap_succ (by omega)
  unfold qzS6
  rw [ht]
  have hV : SkLeads (Rnd (fun k => qzH6 fl fqT nm m g0 g1 g2 g3 (g0 0) (wn : Int) wn (qF (upB (m + 2) g0 g1 g2 g3) (g0 0) k) (k : Int)) (fun _ => (.exit 6, qzH6 fl fqT nm m g0 g1 g2 g3 (g0 0) (wn : Int) wn (qF (upB (m + 2) g0 g1 g2 g3) (g0 0) wn) (wn : Int))) k) (qzV fl fqT nm m g0 g1 g2 g3 (g0 0) (wn : Int) wn (qF (upB (m + 2) g0 g1 g2 g3) (g0 0) k) k (g0 0 + (k : Int))) := by
   unfold qzV
   rw [hup]
   refine sk_either (fun hu => ?_) fun hu => ?_
   ·have hz : 0 < vZ (m + 2) g0 g1 g2 g3 (g0 0 + (k : Int)) := by
     unfold upB at hu
     simp only [Bool.not_eq_true', decide_eq_false_iff_not] at hu
     omega
    rcases vq_cases hs hk.tiny t0 (by rw [show m + 2 - 1 = m + 1 by omega]; exact t1) with ⟨_, _, z0, _⟩ | ⟨n1, n2, _⟩
    ·omega
    ·have hq : ∃ a b c, sq1 fqT m g0 g1 g2 g3 (g0 0 + (k : Int)) = a ∧ sq2 fqT m g0 g1 g2 g3 (g0 0 + (k : Int)) = b ∧ sq3 fqT m g0 g1 g2 g3 (g0 0 + (k : Int)) = c ∧ Ray a b c ∧ 0 < c := by
      refine ⟨_, _, _, rfl, rfl, rfl, ?_⟩
      unfold sq1 sq2 sq3 qsW
      cases hr : qrayErr (vq1 fqT m g0 g1 g2 g3 (g0 0 + (k : Int))) (vq2 fqT m g0 g1 g2 g3 (g0 0 + (k : Int))) (vq3 fqT m g0 g1 g2 g3 (g0 0 + (k : Int))) != 0 with
      | true =>
       have hu : Ray 0 0 1 ∧ (0 : Int) < 1 := ⟨⟨⟨by decide, by decide, by decide⟩, by decide⟩, by decide⟩
       exact hu
      | false =>
       have hr : qrayErr (vq1 fqT m g0 g1 g2 g3 (g0 0 + (k : Int))) (vq2 fqT m g0 g1 g2 g3 (g0 0 + (k : Int))) (vq3 fqT m g0 g1 g2 g3 (g0 0 + (k : Int))) = 0 := by simpa using hr
       rw [← ray_eq, ray_zero] at hr
       exact ⟨hr, hz⟩
     obtain ⟨a, b, c, s1, s2, s3, hR, hc⟩ := hq
     obtain ⟨f1, f2, f3, f4⟩ := cc_facts hR hc
     unfold qzU6
     rw [s1, s2, s3]
     refine sk_need k1 (sk_need (okN_ok _) (sk_need ?_ (sk_ff (sk_no ?_ (sk_no ?_ (sk_need e2 (sk_need e3 (sk_nn (sk_need f1 (sk_ff (sk_no ?_ (sk_no ?_ (sk_no ?_ (sk_leaf (rnd_next ?_ rfl)))))))))))))))
     ·show (atOk skyE nm (m + 2) g0 g1 g2 g3 (g0 0 + (k : Int)) && (noneE (vX (m + 2) g0 g1 g2 g3 (g0 0 + (k : Int))) (vY (m + 2) g0 g1 g2 g3 (g0 0 + (k : Int))) (vZ (m + 2) g0 g1 g2 g3 (g0 0 + (k : Int))) == 0)) = true
      rw [hk.at t0 t1, noneE_zero n1]
      rfl
     ·show decide (vZ (m + 2) g0 g1 g2 g3 (g0 0 + (k : Int)) < 1) = false
      simp only [decide_eq_false_iff_not]; omega
     ·show (qdirErr (vX (m + 2) g0 g1 g2 g3 (g0 0 + (k : Int))) (vY (m + 2) g0 g1 g2 g3 (g0 0 + (k : Int))) (vZ (m + 2) g0 g1 g2 g3 (g0 0 + (k : Int))) != 0) = false
      rw [← dir_eq, dir_zero.2 ⟨n2.mono (by decide), n1⟩]
      rfl
     ·show (ccS a b c 0 0 1 != 1) = false
      rw [f2]; rfl
     ·show decide (ccN a b c 0 0 1 < 1) = false
      simp only [decide_eq_false_iff_not]; omega
     ·show decide (ccD a b c 0 0 1 < ccN a b c 0 0 1) = false
      simp only [decide_eq_false_iff_not]; omega
     ·rw [hw, hx]
      have hq1 : qF (upB (m + 2) g0 g1 g2 g3) (g0 0) (k + 1) = putF (qF (upB (m + 2) g0 g1 g2 g3) (g0 0) k) k q25 := by
       rw [show qF (upB (m + 2) g0 g1 g2 g3) (g0 0) (k + 1) = match upB (m + 2) g0 g1 g2 g3 (g0 0 + (k : Int)) with | true => putF (qF (upB (m + 2) g0 g1 g2 g3) (g0 0) k) k q25 | false => qF (upB (m + 2) g0 g1 g2 g3) (g0 0) k from rfl, hu]
      rw [← hq1]
      exact St.Le.refl _
   ·unfold qzN6
    refine sk_leaf (rnd_next ?_ rfl)
    rw [hw]
    have hq1 : qF (upB (m + 2) g0 g1 g2 g3) (g0 0) (k + 1) = qF (upB (m + 2) g0 g1 g2 g3) (g0 0) k := by
     rw [show qF (upB (m + 2) g0 g1 g2 g3) (g0 0) (k + 1) = match upB (m + 2) g0 g1 g2 g3 (g0 0 + (k : Int)) with | true => putF (qF (upB (m + 2) g0 g1 g2 g3) (g0 0) k) k q25 | false => qF (upB (m + 2) g0 g1 g2 g3) (g0 0) k from rfl, hu]
    rw [← hq1]
    exact St.Le.refl _
  refine sk_yes e1 (sk_need k1 (sk_need (okN_ok _) (sk_need (hk.at t0 t1) (sk_either (fun hne => sk_no ?_ hV) fun _ => sk_ff hV))))
  have hne : (noneE (vX (m + 2) g0 g1 g2 g3 (g0 0 + (k : Int))) (vY (m + 2) g0 g1 g2 g3 (g0 0 + (k : Int))) (vZ (m + 2) g0 g1 g2 g3 (g0 0 + (k : Int))) != 0) = true := hne
  show (noneE (vX (m + 2) g0 g1 g2 g3 (g0 0 + (k : Int))) (vY (m + 2) g0 g1 g2 g3 (g0 0 + (k : Int))) (vZ (m + 2) g0 g1 g2 g3 (g0 0 + (k : Int))) != 7) = false
  rcases noneE_or (vX (m + 2) g0 g1 g2 g3 (g0 0 + (k : Int))) (vY (m + 2) g0 g1 g2 g3 (g0 0 + (k : Int))) (vZ (m + 2) g0 g1 g2 g3 (g0 0 + (k : Int))) with h | h
  ·rw [h] at hne; cases hne
  ·rw [h]; rfl
 ·unfold qzS6
  exact sk_no (rnd_end wn) (sk_leaf rfl)
end
end Go.Ev
namespace Go.Ev
open Go Go.Proofs
set_option maxRecDepth 100000
theorem sumL_mono {f : Nat → Int} {M : Nat} (h : ∀ j, j < M → 0 ≤ f j) : ∀ {i : Nat}, i ≤ M → 0 ≤ sumL f i ∧ sumL f i ≤ sumL f M := by
 have h0 : ∀ i, i ≤ M → 0 ≤ sumL f i := by
  intro i
  induction i with
  | zero => intro _; exact Int.le_refl _
  | succ i ih =>
   intro hi
   have a := ih (by omega)
   have b := h i (by omega)
   unfold sumL
   omega
 intro i hi
 refine ⟨h0 i hi, ?_⟩
 have key : ∀ d, i + d ≤ M → sumL f i ≤ sumL f (i + d) := by
  intro d
  induction d with
  | zero => intro _; exact Int.le_refl _
  | succ d ih =>
   intro hd
   have a := ih (by omega)
   have b := h (i + d) (by omega)
   show sumL f i ≤ sumL f (i + d) + f (i + d)
   omega
 have := key (M - i) (by omega)
 rw [show i + (M - i) = M by omega] at this
 exact this
section
variable {fl : Bool} {nm : ByteArray} {m : Nat} {g0 g1 g2 g3 : Nat → Int} {x y z num den : Int} (hk : QzK fl nm m g0 g1 g2 g3 x y z num den) {wn : Nat} (hwn : g0 0 + (wn : Int) = g0 (m + 1) + 1)
include hk hwn
theorem QzK.cnt : cntT (m + 2) g0 = wn ∧ 2 ≤ wn ∧ wn ≤ 60 ∧ 0 ≤ g0 0 ∧ g0 0 ≤ 10000000 := by
 have hs := hk.sky
 have h1 := hk.short
 have c1 := hs.tick 0 (by omega)
 have h2 := hs.lt (show 0 < m + 1 by omega) (by omega)
 unfold cntT
 rw [show m + 2 - 1 = m + 1 by omega]
 omega
theorem QzK.spans {j : Nat} (hj : j < dsM (m + 2) g0 g1 g2 g3) : g0 0 ≤ dsF (m + 2) g0 g1 g2 g3 j ∧ dsF (m + 2) g0 g1 g2 g3 j < dsT (m + 2) g0 g1 g2 g3 j ∧ dsT (m + 2) g0 g1 g2 g3 j ≤ g0 0 + (wn : Int) ∧
  ∀ t, dsF (m + 2) g0 g1 g2 g3 j ≤ t → t < dsT (m + 2) g0 g1 g2 g3 j → upB (m + 2) g0 g1 g2 g3 t = true := by
 obtain ⟨h1, h2⟩ := spansK_has (upB (m + 2) g0 g1 g2 g3) (g0 0) (cntT (m + 2) g0)
 obtain ⟨a1, a2⟩ := h1 j hj
 have hc := (hk.cnt hwn).1
 have a2' : dsT (m + 2) g0 g1 g2 g3 j ≤ g0 0 + (cntT (m + 2) g0 : Int) := a2
 rw [hc] at a2'
 have a3 := ((h2 _).1 ⟨j, hj, Int.le_refl _, a1⟩).1
 exact ⟨a3, a1, a2', fun t b1 b2 => ((h2 t).1 ⟨j, hj, b1, b2⟩).2.2⟩
theorem QzK.light : totW levQ wn (qF (upB (m + 2) g0 g1 g2 g3) (g0 0) wn) = 4 * lenS (dsS (m + 2) g0 g1 g2 g3) ∧ lenS (dsS (m + 2) g0 g1 g2 g3) ≤ 60 := by
 obtain ⟨c1, c2, c3, _⟩ := hk.cnt hwn
 have h := day_light (upB (m + 2) g0 g1 g2 g3) (g0 0) wn wn (Nat.le_refl _)
 have hl := cntQ_le (qF (upB (m + 2) g0 g1 g2 g3) (g0 0) wn) wn
 unfold dsS
 rw [c1, ← h]
 refine ⟨?_, by omega⟩
 unfold totW
 rw [sum_cnt (by omega)]
theorem span_loop {a b s : Int} {j : Nat} (ha : g0 0 ≤ a) (hab : a < b) (hb : b ≤ g0 0 + (wn : Int)) (hup : ∀ t, a ≤ t → t < b → upB (m + 2) g0 g1 g2 g3 t = true) (hs0 : 0 ≤ s ∧ s ≤ 400) :
  ComesF Tryz.prog (.loop (nthLoop qzC8 path10)) (qzB nm m g0 g1 g2 g3 x y z num den) (qzH9 fqT m g0 g1 g2 g3 (g0 0) (wn : Int) wn (qF (upB (m + 2) g0 g1 g2 g3) (g0 0) wn) a b s a (j : Int)) fun q => q = (.exit 10, qzH9 fqT m g0 g1 g2 g3 (g0 0) (wn : Int) wn (qF (upB (m + 2) g0 g1 g2 g3) (g0 0) wn) a b (s + 4 * (b - a)) b (j : Int)) := by
 obtain ⟨c1, c2, c3, c4, c5⟩ := hk.cnt hwn
 have hd : ((b - a).toNat : Int) = b - a := by omega
 have key := loop_count (P := Tryz.prog) (reQ_ok true) (c := nthLoop qzC8 path10) (sB := qzB nm m g0 g1 g2 g3 x y z num den) rfl qzV9 qzV9 (fun i => qzH9 fqT m g0 g1 g2 g3 (g0 0) (wn : Int) wn (qF (upB (m + 2) g0 g1 g2 g3) (g0 0) wn) a b (s + 4 * (i : Int)) (a + (i : Int)) (j : Int)) (fun _ => (.exit 10, qzH9 fqT m g0 g1 g2 g3 (g0 0) (wn : Int) wn (qF (upB (m + 2) g0 g1 g2 g3) (g0 0) wn) a b (s + 4 * (b - a)) b (j : Int))) (b - a).toNat
  (fun i => qzT10 fqT nm m g0 g1 g2 g3 x y z num den (g0 0) (wn : Int) wn (qF (upB (m + 2) g0 g1 g2 g3) (g0 0) wn) a b (s + 4 * (i : Int)) (a + (i : Int)) (j : Int)) (fun i => qzS10 fqT m g0 g1 g2 g3 (g0 0) (wn : Int) wn (qF (upB (m + 2) g0 g1 g2 g3) (g0 0) wn) a b (s + 4 * (i : Int)) (a + (i : Int)) (j : Int)) (fun i => by delta qzT10; rfl) (fun i => qzT10_into fqT nm m g0 g1 g2 g3 x y z num den (g0 0) (wn : Int) wn _ a b _ _ (j : Int)) (fun i => qzT10_fits fqT nm m g0 g1 g2 g3 x y z num den (g0 0) (wn : Int) wn _ a b _ _ (j : Int)) (fun i hi => ?_) ?_
 ·have e1 : s + 4 * ((0 : Nat) : Int) = s := by omega
  have e2 : a + ((0 : Nat) : Int) = a := by omega
  rw [e1, e2] at key
  exact key
 ·have hiz : itZ (g0 0) (a + (i : Int)) = ((a + (i : Int) - g0 0).toNat : Nat) := by
   unfold itZ
   rw [wrap_id (by omega) (by omega)]
   omega
  unfold qzS10
  rw [hiz, idx_nat]
  refine sk_yes (by simp only [decide_eq_true_eq]; omega) (sk_need ?_ (sk_need ?_ (sk_no ?_ (sk_leaf (rnd_next ?_ rfl)))))
  ·simp only [Bool.and_eq_true, decide_eq_true_eq]; omega
  ·rw [Nat.blt_eq]; omega
  ·have e : g0 0 + ((a + (i : Int) - g0 0).toNat : Int) = a + (i : Int) := by omega
   have hq : (a + (i : Int) - g0 0).toNat < wn ∧ upB (m + 2) g0 g1 g2 g3 (g0 0 + ((a + (i : Int) - g0 0).toNat : Int)) = true := by
    refine ⟨by omega, ?_⟩
    rw [e]
    exact hup _ (by omega) (by omega)
   rw [qF_at, if_pos hq]
   exact ne25_q
  ·have w1 : IntKind.i64.wrap (s + 4 * (i : Int) + 4) = s + 4 * ((i + 1 : Nat) : Int) := by rw [wrap_id (by omega) (by omega)]; omega
   have w2 : IntKind.i64.wrap (a + (i : Int) + 1) = a + ((i + 1 : Nat) : Int) := by rw [wrap_id (by omega) (by omega)]; omega
   rw [w1, w2]
   exact St.Le.refl _
 ·unfold qzS10
  rw [hd]
  have e : a + (b - a) = b := by omega
  rw [e]
  exact sk_no (by simp) (sk_leaf rfl)
end
section
variable {nm : ByteArray} {m : Nat} {g0 g1 g2 g3 : Nat → Int} {x y z num den : Int} (hk : QzK true nm m g0 g1 g2 g3 x y z num den) {wn : Nat} (hwn : g0 0 + (wn : Int) = g0 (m + 1) + 1)
include hk hwn
theorem spans_loop : ComesF Tryz.prog (.loop qzC8) (qzB nm m g0 g1 g2 g3 x y z num den) (qzH8 true fqT m g0 g1 g2 g3 (g0 0) (wn : Int) wn (qF (upB (m + 2) g0 g1 g2 g3) (g0 0) wn) 0 0) fun q => ∃ j, q = (.exit 8, qzH8 true fqT m g0 g1 g2 g3 (g0 0) (wn : Int) wn (qF (upB (m + 2) g0 g1 g2 g3) (g0 0) wn) (4 * lenS (dsS (m + 2) g0 g1 g2 g3)) j) := by
 obtain ⟨c1, c2, c3, c4, c5⟩ := hk.cnt hwn
 obtain ⟨l1, l2⟩ := hk.light hwn
 have hM : dsM (m + 2) g0 g1 g2 g3 ≤ 60 := by
  have := spansK_m (upB (m + 2) g0 g1 g2 g3) (g0 0) (cntT (m + 2) g0)
  unfold dsM dsS; omega
 have hpos : ∀ j, j < dsM (m + 2) g0 g1 g2 g3 → 0 ≤ dsT (m + 2) g0 g1 g2 g3 j - dsF (m + 2) g0 g1 g2 g3 j := fun j hj => by
  obtain ⟨_, h, _⟩ := hk.spans hwn hj
  omega
 have hmono : ∀ {i : Nat}, i ≤ dsM (m + 2) g0 g1 g2 g3 → 0 ≤ sumL (fun j => dsT (m + 2) g0 g1 g2 g3 j - dsF (m + 2) g0 g1 g2 g3 j) i ∧ sumL (fun j => dsT (m + 2) g0 g1 g2 g3 j - dsF (m + 2) g0 g1 g2 g3 j) i ≤ sumL (fun j => dsT (m + 2) g0 g1 g2 g3 j - dsF (m + 2) g0 g1 g2 g3 j) (dsM (m + 2) g0 g1 g2 g3) := fun {i} hi => sumL_mono (f := fun j => dsT (m + 2) g0 g1 g2 g3 j - dsF (m + 2) g0 g1 g2 g3 j) hpos hi
 have hlen : lenS (dsS (m + 2) g0 g1 g2 g3) = sumL (fun j => dsT (m + 2) g0 g1 g2 g3 j - dsF (m + 2) g0 g1 g2 g3 j) (dsM (m + 2) g0 g1 g2 g3) := rfl
 refine comesF_loop (fun j : Nat => qzH8 true fqT m g0 g1 g2 g3 (g0 0) (wn : Int) wn (qF (upB (m + 2) g0 g1 g2 g3) (g0 0) wn) (4 * sumL (fun j => dsT (m + 2) g0 g1 g2 g3 j - dsF (m + 2) g0 g1 g2 g3 j) j) (j : Int)) (fun j => dsM (m + 2) g0 g1 g2 g3 - j) (fun j => j ≤ dsM (m + 2) g0 g1 g2 g3) _ (fun j hj => ?_) 0 (Nat.zero_le _)
 have hj : j ≤ dsM (m + 2) g0 g1 g2 g3 := hj
 obtain ⟨s0, s1⟩ := hmono hj
 rw [← hlen] at s1
 refine comesF_cutS (reQ_ok true) rfl 1 qzV9 qzV8 (T := qzA8 true fqT nm m g0 g1 g2 g3 x y z num den (g0 0) (wn : Int) wn (qF (upB (m + 2) g0 g1 g2 g3) (g0 0) wn) (4 * sumL (fun j => dsT (m + 2) g0 g1 g2 g3 j - dsF (m + 2) g0 g1 g2 g3 j) j) j) (by delta qzA8; rfl) (qzA8_into fqT nm m g0 g1 g2 g3 x y z num den (g0 0) (wn : Int) wn _ _ j) (qzA8_fits fqT nm m g0 g1 g2 g3 x y z num den (g0 0) (wn : Int) wn _ _ j) ?_
 have hx : ixN j = j := idx_nat j
 have eF : spF fqT m g0 g1 g2 g3 j = dsF (m + 2) g0 g1 g2 g3 j := by show dsF (m + 2) g0 g1 g2 g3 (ixN j) = _; rw [hx]
 have eT : spT fqT m g0 g1 g2 g3 j = dsT (m + 2) g0 g1 g2 g3 j := by show dsT (m + 2) g0 g1 g2 g3 (ixN j) = _; rw [hx]
 have eM : fqT.m (m + 2) g0 g1 g2 g3 = dsM (m + 2) g0 g1 g2 g3 := rfl
 unfold qzS8
 rw [eF, eT, eM, hx]
 refine sk_either (fun h => ?_) fun h => sk_done ⟨(j : Int), ?_⟩
 ·have hjM : j < dsM (m + 2) g0 g1 g2 g3 := by simp only [decide_eq_true_eq] at h; omega
  obtain ⟨_, e2, _⟩ := rnd_lt hjM
  obtain ⟨p1, p2, p3, p4⟩ := hk.spans hwn hjM
  have hb : Nat.blt j (dsM (m + 2) g0 g1 g2 g3) = true := by rw [Nat.blt_eq]; exact hjM
  have hw : IntKind.i64.wrap (g0 0 + (wn : Int)) = g0 0 + (wn : Int) := wrap_id (by omega) (by omega)
  rw [hw]
  refine sk_need e2 (sk_need hb (sk_need hb (sk_no ?_ (sk_no ?_ (sk_no ?_ (sk_stop _ true [] qzV8 (span_loop hk hwn (s := 4 * sumL (fun j => dsT (m + 2) g0 g1 g2 g3 j - dsF (m + 2) g0 g1 g2 g3 j) j) (j := j) p1 p2 p3 p4 (by omega)) fun q hq => ?_))))))
  ·simp only [decide_eq_false_iff_not]; omega
  ·simp only [decide_eq_false_iff_not]; omega
  ·simp only [decide_eq_false_iff_not]; omega
  ·subst hq
   refine leads_leaf (show _ = qzA9 fqT nm m g0 g1 g2 g3 x y z num den (g0 0) (wn : Int) wn (qF (upB (m + 2) g0 g1 g2 g3) (g0 0) wn) (dsF (m + 2) g0 g1 g2 g3 j) (dsT (m + 2) g0 g1 g2 g3 j) (4 * sumL (fun j => dsT (m + 2) g0 g1 g2 g3 j - dsF (m + 2) g0 g1 g2 g3 j) j + 4 * (dsT (m + 2) g0 g1 g2 g3 j - dsF (m + 2) g0 g1 g2 g3 j)) (dsT (m + 2) g0 g1 g2 g3 j) (j : Int) by delta qzA9; rfl) (qzA9_is fqT nm m g0 g1 g2 g3 x y z num den (g0 0) (wn : Int) wn _ _ _ _ _ (j : Int)) (cutF_dn ⟨j + 1, ?_, hjM, by omega⟩)
   have w1 : IntKind.i64.wrap ((j : Int) + 1) = ((j + 1 : Nat) : Int) := wrap_succ (by omega)
   have w2 : 4 * sumL (fun j => dsT (m + 2) g0 g1 g2 g3 j - dsF (m + 2) g0 g1 g2 g3 j) (j + 1) = 4 * sumL (fun j => dsT (m + 2) g0 g1 g2 g3 j - dsF (m + 2) g0 g1 g2 g3 j) j + 4 * (dsT (m + 2) g0 g1 g2 g3 j - dsF (m + 2) g0 g1 g2 g3 j) := by
    rw [show sumL (fun j => dsT (m + 2) g0 g1 g2 g3 j - dsF (m + 2) g0 g1 g2 g3 j) (j + 1) = sumL (fun j => dsT (m + 2) g0 g1 g2 g3 j - dsF (m + 2) g0 g1 g2 g3 j) j + (dsT (m + 2) g0 g1 g2 g3 j - dsF (m + 2) g0 g1 g2 g3 j) from rfl]
    omega
   rw [w1, w2]
   exact St.Le.refl _
 ·have hjM : j = dsM (m + 2) g0 g1 g2 g3 := by simp only [decide_eq_false_iff_not] at h; omega
  rw [hlen, ← hjM]
end
end Go.Ev
namespace Go.Ev
open Go Go.Proofs
set_option maxRecDepth 100000
theorem max_le {x y z : Int} (hr : Ray x y z) (hm : maxW x y z ≤ 40) : Bd 40 x y z := by
 refine (tin_of ?_).2
 unfold tinW
 rw [Bool.and_eq_true, beq_iff_eq, ← ray_eq, ray_zero, decide_eq_true_eq]
 exact ⟨hr, hm⟩
section
variable (nm : ByteArray) (m : Nat) (g0 g1 g2 g3 : Nat → Int) (x y z num den : Int)
theorem qz1_loop (hm : m + 2 ≤ 64) : ComesF Tryz.prog (.loop (nthLoop qzC path1)) (qzB nm m g0 g1 g2 g3 x y z num den) (qzH1 nm m g0 g1 g2 g3 x y z num den 0) fun q => (q = (.exit 0, qzX1 nm m g0 g1 g2 g3 x y z num den false (m + 2)) ∧ ∀ i, i < m + 2 → maxW (g1 i) (g2 i) (g3 i) ≤ 40) ∨ ∃ k, q = (.ret, qzX1 nm m g0 g1 g2 g3 x y z num den true k) := by
 refine comesF_loop (fun k : Nat => qzH1 nm m g0 g1 g2 g3 x y z num den k) (fun k => m + 2 - k) (fun k => k ≤ m + 2 ∧ ∀ i, i < k → maxW (g1 i) (g2 i) (g3 i) ≤ 40) _ (fun k hk => ?_) 0 ⟨Nat.zero_le _, fun i hi => by omega⟩
 obtain ⟨hk, hmx⟩ : k ≤ m + 2 ∧ ∀ i, i < k → maxW (g1 i) (g2 i) (g3 i) ≤ 40 := hk
 refine comesF_roundS (reQ_ok true) rfl [2, 3, 4, 5, 88, 89, 90] [2, 3, 4, 5] (T := qzT1 true fqT nm m g0 g1 g2 g3 x y z num den k) (by delta qzT1; rfl) (qz1_into true fqT nm m g0 g1 g2 g3 x y z num den k) (qz1_fits true fqT nm m g0 g1 g2 g3 x y z num den k) ?_
 have hmx' : ∀ {i : Nat}, decide (maxW (g1 (ixN k)) (g2 (ixN k)) (g3 (ixN k)) > 40) = false → i < k + 1 → maxW (g1 i) (g2 i) (g3 i) ≤ 40 := fun {i} h hi => by
  rw [show ixN k = k from idx_nat k] at h
  simp only [decide_eq_false_iff_not] at h
  rcases Nat.lt_or_eq_of_le (Nat.le_of_lt_succ hi) with h1 | h1
  ·exact hmx i h1
  ·subst h1; omega
 rcases Nat.lt_or_eq_of_le hk with hlt | heq
 ·obtain ⟨e1, e2, e3⟩ := rnd_lt hlt
  cases k with
  | zero =>
   unfold qzS1
   refine sk_yes e1 (sk_need e2 (sk_either (fun _ => sk_leaf (.inr ⟨0, rfl⟩)) fun h => sk_leaf ⟨1, ?_, ⟨by omega, fun i hi => hmx' h hi⟩, by omega⟩))
   rw [wrap_succ (by omega)]
   exact le_news (show 1 + 4 ≤ lim by decide) ⟨⟨rfl, fun _ _ _ h => h⟩, ⟨rfl, fun _ _ _ h => h⟩, ⟨rfl, fun _ _ _ h => h⟩, ⟨rfl, four_rows (by rw [show ixN 0 = 0 from idx_nat 0]) (by rw [show ixN 0 = 0 from idx_nat 0]) (by rw [show ixN 0 = 0 from idx_nat 0]) (by rw [show ixN 0 = 0 from idx_nat 0])⟩, trivial⟩
  | succ k =>
   unfold qzS1
   have d0 : ((Tryz.prog.info? 39).map (·.bytes)).getD 0 = 32 := by kernel_rfl
   refine sk_yes e1 (sk_need e2 (sk_need e3 (need3_ok e3 (sk_either (fun _ => sk_leaf (.inr ⟨k + 1, rfl⟩)) fun h => sk_need (apN_ok (by rw [d0]; decide) (by omega)) (sk_leaf ⟨k + 1 + 1, ?_, ⟨by omega, fun i hi => hmx' h hi⟩, by omega⟩)))))
   rw [wrap_succ (by omega), putK_eq, putK_eq, putK_eq, putK_eq]
   exact St.Le.refl _
 ·subst heq
  unfold qzS1
  exact sk_no (rnd_end (m + 2)) (sk_leaf (.inl ⟨rfl, hmx⟩))
theorem qz_left (v : Bool) : Left2 Tryz.prog Tryz.f3 (qzHp m g0 g1 g2 g3) (boo v) (qzHp m g0 g1 g2 g3) (.ret, qzN m g0 g1 g2 g3 [(4, boo v)] []) := left_of (b := true) (by kernel_rfl)
end
section
variable {nm : ByteArray} {m : Nat} {g0 g1 g2 g3 : Nat → Int} {x y z num den : Int} {fl : Bool} (hk : QzK fl nm m g0 g1 g2 g3 x y z num den) {wn : Nat} (hwn : g0 0 + (wn : Int) = g0 (m + 1) + 1)
include hk hwn
theorem spans_any : ComesF Tryz.prog (.loop qzC8) (qzB nm m g0 g1 g2 g3 x y z num den) (qzH8 fl fqT m g0 g1 g2 g3 (g0 0) (wn : Int) wn (qF (upB (m + 2) g0 g1 g2 g3) (g0 0) wn) 0 0) fun q => ∃ j, q = (.exit 8, qzH8 fl fqT m g0 g1 g2 g3 (g0 0) (wn : Int) wn (qF (upB (m + 2) g0 g1 g2 g3) (g0 0) wn) (4 * lenS (dsS (m + 2) g0 g1 g2 g3)) j) := by
 cases fl with
 | true => exact spans_loop hk hwn
 | false =>
  have h0 : dsM (m + 2) g0 g1 g2 g3 = 0 := Nat.eq_of_beq_eq_true hk.fl
  have hl : lenS (dsS (m + 2) g0 g1 g2 g3) = 0 := by
   have hlen : lenS (dsS (m + 2) g0 g1 g2 g3) = sumL (fun j => dsT (m + 2) g0 g1 g2 g3 j - dsF (m + 2) g0 g1 g2 g3 j) (dsM (m + 2) g0 g1 g2 g3) := rfl
   rw [hlen, h0]
   rfl
  rw [hl]
  refine comesF_loop (fun _ : Unit => qzH8 false fqT m g0 g1 g2 g3 (g0 0) (wn : Int) wn (qF (upB (m + 2) g0 g1 g2 g3) (g0 0) wn) 0 0) (fun _ => 0) (fun _ => True) _ (fun _ _ => ?_) () trivial
  refine comesF_cutS (reQ_ok false) rfl 1 qzV9 qzV8 (T := qzA8 false fqT nm m g0 g1 g2 g3 x y z num den (g0 0) (wn : Int) wn (qF (upB (m + 2) g0 g1 g2 g3) (g0 0) wn) 0 0) (by delta qzA8; rfl) (qzA8f_into fqT nm m g0 g1 g2 g3 x y z num den (g0 0) (wn : Int) wn _ 0) (qzA8f_fits fqT nm m g0 g1 g2 g3 x y z num den (g0 0) (wn : Int) wn _ 0) ?_
  exact sk_ff (sk_done ⟨0, rfl⟩)
end
theorem qz_valid {nm : ByteArray} {m : Nat} {g0 g1 g2 g3 : Nat → Int} (hE : skyE nm (m + 2) g0 g1 g2 g3 = 0) (x y z num den : Int) : CallAt Tryz.prog 3 [skyA nm (m + 2), .agg (conC x y z num den)] (qzHp m g0 g1 g2 g3) (boo true) (qzHp m g0 g1 g2 g3) := by
 have hs := (sky_ok hE).1
 have hm : m + 2 ≤ 64 := hs.few
 obtain ⟨fl, hfl⟩ : ∃ fl, spnK fl fqT m g0 g1 g2 g3 = true := by
  rcases Nat.eq_zero_or_pos (dsM (m + 2) g0 g1 g2 g3) with h | h
  ·exact ⟨false, by show Nat.beq (dsM (m + 2) g0 g1 g2 g3) 0 = true; rw [h]; rfl⟩
  ·exact ⟨true, by show Nat.blt 0 (dsM (m + 2) g0 g1 g2 g3) = true; rw [Nat.blt_eq]; exact h⟩
 obtain ⟨_, l2, l3, l4, l5, _⟩ := lN_eq (n := m + 2) (by omega) (by omega)
 refine call_baseS (reQ_ok fl) (c := qzC) (fn := Tryz.f3) Tryz.func3 (by kernel_rfl) (by kernel_rfl) (false, true) 4 [2, 3, 4, 5, 88, 89, 90] [4] (sB := qzB nm m g0 g1 g2 g3 x y z num den) (by kernel_rfl) (t := qzO fl fqT nm m g0 g1 g2 g3 x y z num den) (by delta qzO; rfl) (qzO_into fl fqT nm m g0 g1 g2 g3 x y z num den) (qzO_fits fl fqT nm m g0 g1 g2 g3 x y z num den) ?_
 have yes : ∀ {k : Nat}, SkLeads (CutF Tryz.prog (reQ fl fqT) qzC (qzB nm m g0 g1 g2 g3 x y z num den) (Left2 Tryz.prog Tryz.f3 (qzHp m g0 g1 g2 g3) (boo true) (qzHp m g0 g1 g2 g3)) k) (qzR m g0 g1 g2 g3) := fun {k} => sk_done (qz_left m g0 g1 g2 g3 true)
 have hP : SkLeads (CutF Tryz.prog (reQ fl fqT) qzC (qzB nm m g0 g1 g2 g3 x y z num den) (Left2 Tryz.prog Tryz.f3 (qzHp m g0 g1 g2 g3) (boo true) (qzHp m g0 g1 g2 g3)) 4) (qzP1 fqT nm m g0 g1 g2 g3 x y z num den) := by
  unfold qzP1
  refine sk_need (okN_ok _) (sk_either (fun _ => sk_tt (sk_tt (sk_tt yes))) fun _ => sk_either (fun _ => sk_tt (sk_tt yes)) fun hc => sk_either (fun _ => sk_tt yes) fun hx => sk_need l3 (sk_need l4 (sk_need l5 (sk_either (fun _ => yes) fun hw => ?_))))
  -- the cone
  have hc : qconeErr x y z num den = 0 := by simpa using hc
  have hcone : ConeOk x y z num den := by
   rw [← cone_eq] at hc
   unfold coneErr at hc
   rw [firstZ_zero] at hc
   simp only [List.mem_cons, List.not_mem_nil, or_false, forall_eq_or_imp, forall_eq, wW_zero, ray_zero] at hc
   refine ⟨hc.1, (max_le hc.1 ?_).mono (by decide), hc.2.2.1, hc.2.2.2, hc.2.1.1, hc.2.1.2⟩
   simp only [decide_eq_false_iff_not] at hx
   omega
  -- the ticks
  have t0 := hs.tick 0 (by omega)
  have t1 := hs.tick (m + 1) (by omega)
  have t2 := hs.lt (show 0 < m + 1 by omega) (by omega)
  have hz : g0 z0N = g0 0 := rfl
  have hl : g0 (lN (m + 2)) = g0 (m + 1) := by rw [l2]; rfl
  have hsub : IntKind.i64.wrap (g0 (m + 1) - g0 0) = g0 (m + 1) - g0 0 := wrap_id (by omega) (by omega)
  have hsh : g0 (m + 1) - g0 0 ≤ 59 := by
   unfold wdG at hw
   rw [hl, hz, hsub] at hw
   simp only [decide_eq_false_iff_not] at hw
   omega
  obtain ⟨wn, hwn⟩ : ∃ wn : Nat, g0 0 + (wn : Int) = g0 (m + 1) + 1 := ⟨(g0 (m + 1) + 1 - g0 0).toNat, by omega⟩
  have hwd : wdI m g0 = (wn : Int) := by
   unfold wdI
   rw [hl, hz, hsub, wrap_id (by omega) (by omega)]
   omega
  refine sk_stop _ true qzV2 [4] (qz1_loop nm m g0 g1 g2 g3 x y z num den hm) fun q hq => ?_
  rcases hq.symm with ⟨k, rfl⟩ | ⟨rfl, hmx⟩
  ·exact leads_leaf (show _ = qzQ1 fl fqT nm m g0 g1 g2 g3 x y z num den (.ret, qzX1 nm m g0 g1 g2 g3 x y z num den true k) by delta qzQ1; rfl) (qzQ1_ret fl fqT nm m g0 g1 g2 g3 x y z num den k) (cutF_dn (qz_left m g0 g1 g2 g3 true))
  have hk : QzK fl nm m g0 g1 g2 g3 x y z num den := ⟨hE, fun i hi => max_le (hs.ray i hi) (hmx i hi), hcone, hsh, hfl⟩
  obtain ⟨c1, c2, c3, c4, c5⟩ := hk.cnt hwn
  obtain ⟨k1, k2⟩ := hk.gd
  have hE1 : (fqT.E nm (m + 2) g0 g1 g2 g3 == 0) = true := by
   show (skyE nm (m + 2) g0 g1 g2 g3 == 0) = true
   rw [hE]; rfl
  refine leads_in (show _ = qzA1 fl fqT nm m g0 g1 g2 g3 x y z num den by delta qzA1 qzQ1; rfl) (qzA1_into fl fqT nm m g0 g1 g2 g3 x y z num den) (qzA1_fits fl fqT nm m g0 g1 g2 g3 x y z num den) ?_
  unfold qzP2
  rw [hwd, hz, Int.toNat_natCast]
  refine sk_need k1 (sk_need (okN_ok _) (sk_need hE1 (sk_need hfl (sk_ff (sk_need l5 (sk_nn (sk_need l3 (sk_need l4 (sk_need ?_ ?_)))))))))
  ·have a1 : Nat.ble (wn * 4) 140737488355328 = true := by rw [Nat.ble_eq]; omega
   have a2 : Nat.ble wn 9223372036854775807 = true := by rw [Nat.ble_eq]; omega
   have a3 : decide (0 ≤ (wn : Int)) = true := by simp only [decide_eq_true_eq]; omega
   unfold mkK
   rw [Int.toNat_natCast, a1, a2, a3, decide_eq_true (rfl : (wn : Int) = wn)]
   rfl
  refine sk_stop _ true qzV6 [4] (pair_loop hk (g0 0) (wn : Int) wn (fun _ => 0)) fun q hq => ?_
  obtain ⟨i, rfl⟩ := hq
  refine leads_in (show _ = qzA5 fl fqT nm m g0 g1 g2 g3 x y z num den (g0 0) (wn : Int) wn (fun _ => 0) i by delta qzA5; rfl) (S := .leaf (.inr (path6, qzH6 fl fqT nm m g0 g1 g2 g3 (g0 0) (wn : Int) wn (fun _ => 0) 0))) (by rw [qzA5_is]; rfl) (by rw [qzA5_is]; rfl) ?_
  refine sk_stop _ true qzV8 [4] (tick_loop hk hwn) fun q hq => ?_
  subst hq
  refine leads_in (show _ = qzA6 fl fqT nm m g0 g1 g2 g3 x y z num den (g0 0) (wn : Int) wn (qF (upB (m + 2) g0 g1 g2 g3) (g0 0) wn) (wn : Int) by delta qzA6; rfl) (qzA6_into fl fqT nm m g0 g1 g2 g3 x y z num den (g0 0) (wn : Int) wn _ _) (qzA6_fits fl fqT nm m g0 g1 g2 g3 x y z num den (g0 0) (wn : Int) wn _ _) ?_
  obtain ⟨f1, f2⟩ := tot_flip (n := wn) (z := qF (upB (m + 2) g0 g1 g2 g3) (g0 0) wn) (by omega) (qF_ok _ _ _ _)
  have ho : owK wn = true := by
   unfold owK
   rw [Bool.and_eq_true, Nat.blt_eq, Nat.ble_eq]
   omega
  have hmo : mapOk (wn : Int) 1 wn = true := by
   have a1 : Nat.blt 0 wn = true := by rw [Nat.blt_eq]; omega
   have a2 : Nat.ble wn 64 = true := by rw [Nat.ble_eq]; omega
   unfold mapOk
   rw [a1, a2, decide_eq_true (rfl : (wn : Int) = wn)]
   rfl
  have hmz : (mapOk (wn : Int) 1 wn && allN qOk (qF (upB (m + 2) g0 g1 g2 g3) (g0 0) wn) wn) = true := by rw [hmo, qF_ok]; rfl
  have hmf : (mapOk (wn : Int) 1 wn && allN qOk (flpQ fqT wn (qF (upB (m + 2) g0 g1 g2 g3) (g0 0) wn)) wn) = true := by
   rw [hmo]
   exact f1
  have htot : fqT.to wn (flpQ fqT wn (qF (upB (m + 2) g0 g1 g2 g3) (g0 0) wn)) = fqT.to wn (qF (upB (m + 2) g0 g1 g2 g3) (g0 0) wn) := f2
  unfold qzP6
  refine sk_need (okN_ok _) (sk_need ho (sk_need (okN_ok _) (sk_need hmz (sk_need (okN_ok _) (sk_need ho (sk_need (okN_ok _) (sk_need hmz (sk_need (okN_ok _) (sk_need hmf (sk_ff (sk_ff (sk_ff (sk_no ?_ ?_)))))))))))))
  ·rw [htot]
   simp
  refine sk_stop _ true [] [4] (spans_any hk hwn) fun q hq => ?_
  obtain ⟨j, rfl⟩ := hq
  refine leads_in (show _ = qzA10 fl fqT nm m g0 g1 g2 g3 x y z num den (g0 0) (wn : Int) wn (qF (upB (m + 2) g0 g1 g2 g3) (g0 0) wn) (4 * lenS (dsS (m + 2) g0 g1 g2 g3)) j by delta qzA10; rfl) (qzA10_into fl fqT nm m g0 g1 g2 g3 x y z num den (g0 0) (wn : Int) wn _ _ j) (qzA10_fits fl fqT nm m g0 g1 g2 g3 x y z num den (g0 0) (wn : Int) wn _ _ j) ?_
  unfold qzP10
  refine sk_yes ?_ (sk_done (qz_left m g0 g1 g2 g3 true))
  show (4 * lenS (dsS (m + 2) g0 g1 g2 g3) == totW levQ wn (qF (upB (m + 2) g0 g1 g2 g3) (g0 0) wn)) = true
  rw [(hk.light hwn).1]
  simp
 unfold qzOS
 exact sk_either (fun _ => sk_either (fun _ => sk_ff hP) fun _ => sk_either (fun _ => sk_tt (sk_tt (sk_tt (sk_tt yes)))) fun _ => hP) fun _ => sk_tt (sk_tt (sk_tt (sk_tt (sk_tt yes))))
end Go.Ev
