/- SunDays returns true at valid skies. Conditions: a valid sky, the spans of its daylight. -/
import Derived.Test.YtkalcencblhlgaaGreatDoorDyR
namespace Go.Ev
open Go Go.Proofs
set_option maxRecDepth 100000

theorem comesF_cutS {P : Program} {rec : Code → St → Tree (X × St)} (hrec : RecOk P rec) {c : Code} {sB st : St} {φ : X × St → Prop} (hlow : sB.hp.low = sB.hp.next) (k : Nat) (slots slotsR : List Nat) {T : Tree ((X × St) ⊕ (List Bool × St))} (e : (evB rec c st).bind (canO slots slotsR sB) = T) {S : SkO} (h1 : T = into T S) (h2 : fits T S = true)
    (h3 : SkLeads (CutF P rec c sB φ k) S) : ComesF P c sB st φ := by
  refine comesF_cut hrec hlow k slots slotsR ?_
  rw [e]
  exact all_into h1 h2 h3.all
theorem comesF_roundS {P : Program} {rec : Code → St → Tree (X × St)} (hrec : RecOk P rec) {c : Code} {sB st : St} {φ : X × St → Prop} (hlow : sB.hp.low = sB.hp.next) (slots slotsX : List Nat) {T : Tree (X × St)} (e : (rec c st).bind (canonT slots slotsX sB) = T) {S : SkX} (h1 : T = into T S) (h2 : fits T S = true)
    (h3 : SkLeads φ S) : ComesF P c sB st φ := by
  refine comesF_round hrec hlow slots slotsX ?_
  rw [e]
  exact all_into h1 h2 h3.all
/-! ### The loop over both ends -/
theorem en_leads {ψ : X × St → Prop} {x y z nn p1 p2 p3 : Int} {R N : SkX} (h : EndOk x y z nn p1 p2 p3) (hN : SkLeads ψ N) : SkLeads ψ (enA x y z nn p1 p2 p3 R N) := by
  have hC : SkLeads ψ (enC x y z nn p1 p2 p3 R N) := by
    unfold enC
    refine sk_either (fun h1 => ?_) fun _ => sk_ff hN
    obtain ⟨o1, o2, o3⟩ := h.ok (by simpa using h1)
    exact sk_nn (sk_need o1 (sk_nn (sk_need o2 (sk_no (by simpa using o3) (sk_either (fun _ => sk_ff hN) fun _ => sk_ff hN)))))
  have hB : SkLeads ψ (enB x y z nn p1 p2 p3 R N) := by
    unfold enB
    refine sk_either (fun h1 => sk_no ?_ hC) fun _ => sk_ff hC
    have := h.none (by simpa using h1)
    simpa using this
  unfold enA
  refine sk_tt (sk_either (fun h1 => sk_no ?_ hB) fun _ => sk_ff hB)
  have := h.low (by simpa using h1)
  simp only [decide_eq_false_iff_not]; omega
section
variable (fl : Bool) (nm : ByteArray) (m : Nat) (g0 g1 g2 g3 : Nat → Int) (b : Int)
theorem en_loop (x y z k t nn a1 a2 a3 b1 b2 b3 : Int) (ha : EndOk x y z nn a1 a2 a3) (hb : EndOk x y z nn b1 b2 b3) : ComesF Tryz.prog (.loop (nthLoop dyC3 pathE)) (dyB nm m g0 g1 g2 g3 b) (dyH6 fl fyT nm m g0 g1 g2 g3 b x y z k t nn a1 a2 a3 b1 b2 b3 0) fun q => q = (.exit 10, dyH6 fl fyT nm m g0 g1 g2 g3 b x y z k t nn a1 a2 a3 b1 b2 b3 2) := by
  refine comesF_loop (fun j : Nat => dyH6 fl fyT nm m g0 g1 g2 g3 b x y z k t nn a1 a2 a3 b1 b2 b3 (j : Int)) (fun j => 2 - j) (fun j => j ≤ 2) _ (fun j hj => ?_) 0 (Nat.zero_le _)
  match j, hj with
  | 0, _ =>
    refine comesF_roundS (reY_ok fl) rfl dyV6 dyV6 (T := dyT6 fl fyT nm m g0 g1 g2 g3 b x y z k t nn a1 a2 a3 b1 b2 b3 0) (by delta dyT6; rfl) (dyT6_into0 fl fyT nm m g0 g1 g2 g3 b x y z k t nn a1 a2 a3 b1 b2 b3) (dyT6_fits0 fl fyT nm m g0 g1 g2 g3 b x y z k t nn a1 a2 a3 b1 b2 b3) ?_
    exact en_leads ha (sk_leaf ⟨1, St.Le.refl _, by omega, by omega⟩)
  | 1, _ =>
    refine comesF_roundS (reY_ok fl) rfl dyV6 dyV6 (T := dyT6 fl fyT nm m g0 g1 g2 g3 b x y z k t nn a1 a2 a3 b1 b2 b3 1) (by delta dyT6; rfl) (dyT6_into1 fl fyT nm m g0 g1 g2 g3 b x y z k t nn a1 a2 a3 b1 b2 b3) (dyT6_fits1 fl fyT nm m g0 g1 g2 g3 b x y z k t nn a1 a2 a3 b1 b2 b3) ?_
    exact en_leads hb (sk_leaf ⟨2, St.Le.refl _, by omega, by omega⟩)
  | 2, _ =>
    refine comesF_roundS (reY_ok fl) rfl dyV6 dyV6 (T := dyT6 fl fyT nm m g0 g1 g2 g3 b x y z k t nn a1 a2 a3 b1 b2 b3 2) (by delta dyT6; rfl) (dyT6_into2 fl fyT nm m g0 g1 g2 g3 b x y z k t nn a1 a2 a3 b1 b2 b3) (dyT6_fits2 fl fyT nm m g0 g1 g2 g3 b x y z k t nn a1 a2 a3 b1 b2 b3) ?_
    exact sk_ff (sk_leaf rfl)
/-! ### The loop over spans -/
/-- is a tick in one of the first spans -/
def dayK (F T : Nat → Int) (t : Int) : Nat → Bool
  | 0 => false
  | i + 1 => match dayK F T t i with
    | true => true
    | false => match decide (t ≥ F i) with
      | true => decide (t < T i)
      | false => false
theorem dayK_iff (F T : Nat → Int) (t : Int) : ∀ i, dayK F T t i = true ↔ ∃ j, j < i ∧ F j ≤ t ∧ t < T j
  | 0 => ⟨fun h => (by cases h), fun ⟨j, h, _⟩ => by omega⟩
  | i + 1 => by
    have ih := dayK_iff F T t i
    unfold dayK
    cases h : dayK F T t i with
    | true =>
      obtain ⟨j, h1, h2⟩ := ih.1 h
      exact ⟨fun _ => ⟨j, by omega, h2⟩, fun _ => rfl⟩
    | false =>
      have hno : ¬ ∃ j, j < i ∧ F j ≤ t ∧ t < T j := fun e => by rw [ih.2 e] at h; cases h
      by_cases h1 : F i ≤ t
      · rw [decide_eq_true (show t ≥ F i from h1)]
        simp only [decide_eq_true_eq]
        refine ⟨fun h2 => ⟨i, by omega, h1, h2⟩, fun ⟨j, j1, j2, j3⟩ => ?_⟩
        by_cases e : j = i
        · subst e; exact j3
        · exact absurd ⟨j, by omega, j2, j3⟩ hno
      · rw [decide_eq_false (show ¬ t ≥ F i from h1)]
        refine ⟨fun h2 => (by cases h2), fun ⟨j, j1, j2, j3⟩ => ?_⟩
        by_cases e : j = i
        · subst e; exact absurd j2 h1
        · exact absurd ⟨j, by omega, j2, j3⟩ hno
def dayV (t : Int) : Bool := dayK (dsF (m + 2) g0 g1 g2 g3) (dsT (m + 2) g0 g1 g2 g3) t (dyCnt fl fyT m g0 g1 g2 g3)
theorem day_loop (hc : dyCnt fl fyT m g0 g1 g2 g3 ≤ 1000000) (q : Vy) (k t : Int) : ComesF Tryz.prog (.loop (nthLoop dyC3 pathD)) (dyB nm m g0 g1 g2 g3 b) (dyH5 fl fyT nm m g0 g1 g2 g3 b q k t false ((0 : Nat) : Int)) fun p => p = (.exit 8, dyH5 fl fyT nm m g0 g1 g2 g3 b q k t (dayV fl m g0 g1 g2 g3 t) ((dyCnt fl fyT m g0 g1 g2 g3 : Nat) : Int)) := by
  cases fl with
  | true =>
    refine loop_count (reY_ok true) rfl dyV4 dyV4 (fun i => dyH5 true fyT nm m g0 g1 g2 g3 b q k t (dayK (dsF (m + 2) g0 g1 g2 g3) (dsT (m + 2) g0 g1 g2 g3) t i) (i : Int)) (fun _ => (.exit 8, dyH5 true fyT nm m g0 g1 g2 g3 b q k t (dayV true m g0 g1 g2 g3 t) ((dyCnt true fyT m g0 g1 g2 g3 : Nat) : Int))) (dyCnt true fyT m g0 g1 g2 g3) (fun i => dyT5 true fyT nm m g0 g1 g2 g3 b q k t (dayK (dsF (m + 2) g0 g1 g2 g3) (dsT (m + 2) g0 g1 g2 g3) t i) i) (fun i => dyS5 fyT nm m g0 g1 g2 g3 b q k t (dayK (dsF (m + 2) g0 g1 g2 g3) (dsT (m + 2) g0 g1 g2 g3) t i) i) (fun i => by delta dyT5; rfl) (fun i => dyT5_into fyT nm m g0 g1 g2 g3 b q k t _ i) (fun i => dyT5_fits fyT nm m g0 g1 g2 g3 b q k t _ i) (fun i hi => ?_) ?_
    · obtain ⟨e1, e2, e3⟩ := rnd_lt hi
      have e2 : (decide (0 ≤ (i : Int)) && decide ((i : Int) < ((fyT.m (m + 2) g0 g1 g2 g3 : Nat) : Int))) = true := e2
      have e3 : Nat.blt (ixN i) (fyT.m (m + 2) g0 g1 g2 g3) = true := e3
      have hx : ixN i = i := idx_nat i
      have hw : IntKind.i64.wrap ((i : Int) + 1) = ((i + 1 : Nat) : Int) := wrap_succ (by omega)
      have hd : dayK (dsF (m + 2) g0 g1 g2 g3) (dsT (m + 2) g0 g1 g2 g3) t (i + 1) = match dayK (dsF (m + 2) g0 g1 g2 g3) (dsT (m + 2) g0 g1 g2 g3) t i with
          | true => true
          | false => match decide (t ≥ dsF (m + 2) g0 g1 g2 g3 i) with
            | true => decide (t < dsT (m + 2) g0 g1 g2 g3 i)
            | false => false := rfl
      unfold dyS5
      refine sk_yes e1 (sk_need e2 (sk_need e3 (sk_need e3 (sk_either (fun h => sk_leaf (rnd_next ?_ rfl)) fun h => sk_either (fun h1 => sk_leaf (rnd_next ?_ rfl)) fun h1 => sk_leaf (rnd_next ?_ rfl)))))
      · rw [hw]
        rw [hd, h]
        exact St.Le.refl _
      · rw [hw]
        rw [hx] at h1 ⊢
        have h1 : decide (t ≥ dsF (m + 2) g0 g1 g2 g3 i) = true := h1
        rw [hd, h, h1]
        exact St.Le.refl _
      · rw [hw]
        rw [hx] at h1
        have h1 : decide (t ≥ dsF (m + 2) g0 g1 g2 g3 i) = false := h1
        rw [hd, h, h1]
        exact St.Le.refl _
    · unfold dyS5
      exact sk_no (rnd_end _) (sk_leaf rfl)
  | false =>
    refine comesF_loop (fun _ : Nat => dyH5 false fyT nm m g0 g1 g2 g3 b q k t false ((0 : Nat) : Int)) (fun _ => 0) (fun _ => True) _ (fun j _ => ?_) 0 trivial
    refine comesF_roundS (reY_ok false) rfl dyV4 dyV4 (T := dyT5 false fyT nm m g0 g1 g2 g3 b q k t false 0) (by delta dyT5; rfl) (dyT5_none fyT nm m g0 g1 g2 g3 b q k t false) (dyT5_nofit fyT nm m g0 g1 g2 g3 b q k t false) ?_
    exact sk_ff (sk_leaf rfl)
/-! ### The loop over indices -/
theorem ix_loop {t : Int} (hm : m + 2 ≤ 64) : ∀ k, k < m + 2 → g0 k ≤ t → ComesF Tryz.prog (.loop (nthLoop dyC3 pathK)) (dyB nm m g0 g1 g2 g3 b) (dyH3 fl fyT nm m g0 g1 g2 g3 b (k : Int) t) fun p => ∃ K : Nat, (K < m + 2 ∧ g0 K ≤ t ∧ (K + 1 < m + 2 → t < g0 (K + 1))) ∧ p = (.exit 6, dyH3 fl fyT nm m g0 g1 g2 g3 b (K : Int) t) := by
  intro k hk hle
  refine comesF_loop (fun k : Nat => dyH3 fl fyT nm m g0 g1 g2 g3 b (k : Int) t) (fun k => m + 2 - k) (fun k => k < m + 2 ∧ g0 k ≤ t) _ (fun k hk => ?_) k ⟨hk, hle⟩
  obtain ⟨hk, hle⟩ := hk
  refine comesF_roundS (reY_ok fl) rfl dyV3 dyV3 (T := dyT3 fl fyT nm m g0 g1 g2 g3 b k t) (by delta dyT3; rfl) (dyT3_into fl fyT nm m g0 g1 g2 g3 b k t) (dyT3_fits fl fyT nm m g0 g1 g2 g3 b k t) ?_
  have e1 : k1I k = ((k + 1 : Nat) : Int) := wrap_succ (by omega)
  unfold dyS3
  rw [e1]
  refine sk_either (fun h => sk_need ?_ (sk_need ?_ (sk_either (fun h1 => sk_leaf ?_) fun h1 => sk_leaf ?_))) fun h => sk_ff (sk_leaf ?_)
  · simp only [decide_eq_true_eq] at h
    simp only [Bool.and_eq_true, decide_eq_true_eq]; omega
  · simp only [decide_eq_true_eq] at h
    rw [idx_nat, Nat.blt_eq]; omega
  · simp only [decide_eq_true_eq] at h
    rw [idx_nat] at h1
    exact ⟨k + 1, St.Le.refl _, ⟨by omega, by simpa using h1⟩, by omega⟩
  · rw [idx_nat] at h1
    simp only [decide_eq_false_iff_not] at h1
    exact ⟨k, ⟨hk, hle, fun _ => by omega⟩, rfl⟩
  · simp only [decide_eq_false_iff_not] at h
    exact ⟨k, ⟨hk, hle, fun h2 => by omega⟩, rfl⟩
end
end Go.Ev
