/- SunDays returns true at valid skies: a round of its main loop, the law's call. Conditions: a valid sky. -/
import Derived.Test.YtkalcencblhlgaaGreatDoorDy6
namespace Go.Ev
open Go Go.Proofs
set_option maxRecDepth 100000

theorem eqV3_same (x y z : Int) : eqV3 x y z x y z = true := by unfold eqV3; simp
/-- what is known of a sky, the later one, the rays, the spans -/
structure DyK (fl : Bool) (nm : ByteArray) (m : Nat) (g0 g1 g2 g3 : Nat → Int) (b : Int) : Prop where
  s : skyE nm (m + 2) g0 g1 g2 g3 = 0
  l : skyE nm (m + 2) (latT g0 b) g1 g2 g3 = 0
  b : 0 ≤ b ∧ b < 65536
  tiny : ∀ i, i < m + 2 → Bd 40 (g1 i) (g2 i) (g3 i)
  fl : dyMb fl fyT m g0 g1 g2 g3 = true
section
variable {fl : Bool} {nm : ByteArray} {m : Nat} {g0 g1 g2 g3 : Nat → Int} {b : Int} (hk : DyK fl nm m g0 g1 g2 g3 b)
include hk
theorem DyK.sky : SkyOk (m + 2) g0 g1 g2 g3 := (sky_ok hk.s).1
theorem DyK.cnt : dyCnt fl fyT m g0 g1 g2 g3 ≤ 1000000 := by
  have h := spansK_m (upB (m + 2) g0 g1 g2 g3) (g0 0) (cntT (m + 2) g0)
  have h2 := (cnt_eq hk.s).2
  cases fl with
  | false => exact Nat.zero_le _
  | true => show dsM (m + 2) g0 g1 g2 g3 ≤ _; unfold dsM dsS; omega
theorem DyK.day {t : Int} (h0 : g0 0 ≤ t) (h1 : t ≤ g0 (m + 1)) : dayV fl m g0 g1 g2 g3 t = upB (m + 2) g0 g1 g2 g3 t := by
  obtain ⟨c1, _⟩ := cnt_eq hk.s
  have c1 : g0 0 + (cntT (m + 2) g0 : Nat) = g0 (m + 1) + 1 := c1
  obtain ⟨_, hh⟩ := spansK_has (upB (m + 2) g0 g1 g2 g3) (g0 0) (cntT (m + 2) g0)
  have key : (∃ j, j < dsM (m + 2) g0 g1 g2 g3 ∧ dsF (m + 2) g0 g1 g2 g3 j ≤ t ∧ t < dsT (m + 2) g0 g1 g2 g3 j) ↔ upB (m + 2) g0 g1 g2 g3 t = true := by
    have := hh t
    constructor
    · intro h; exact (this.1 h).2.2
    · intro h; exact this.2 ⟨h0, by omega, h⟩
  have hfl := hk.fl
  unfold dayV
  rw [Bool.eq_iff_iff, dayK_iff, ← key]
  cases fl with
  | true => exact Iff.rfl
  | false =>
    have hz : dsM (m + 2) g0 g1 g2 g3 = 0 := Nat.eq_of_beq_eq_true hfl
    rw [hz]
    exact Iff.rfl
theorem DyK.vy {t : Int} (h0 : g0 0 ≤ t) (h1 : t ≤ g0 (m + 1)) : vyT fyT m g0 g1 g2 g3 b t = ⟨vX (m + 2) g0 g1 g2 g3 t, vY (m + 2) g0 g1 g2 g3 t, vZ (m + 2) g0 g1 g2 g3 t, noneE (vX (m + 2) g0 g1 g2 g3 t) (vY (m + 2) g0 g1 g2 g3 t) (vZ (m + 2) g0 g1 g2 g3 t),
    vX (m + 2) g0 g1 g2 g3 t, vY (m + 2) g0 g1 g2 g3 t, vZ (m + 2) g0 g1 g2 g3 t, noneE (vX (m + 2) g0 g1 g2 g3 t) (vY (m + 2) g0 g1 g2 g3 t) (vZ (m + 2) g0 g1 g2 g3 t), upB (m + 2) g0 g1 g2 g3 t, noneE (vX (m + 2) g0 g1 g2 g3 t) (vY (m + 2) g0 g1 g2 g3 t) (vZ (m + 2) g0 g1 g2 g3 t)⟩ := by
  have hs := hk.sky
  have ht := lat_tick hs hk.b h0 h1
  have ex : vX (m + 2) (latT g0 b) g1 g2 g3 (t + b) = vX (m + 2) g0 g1 g2 g3 t := sv_later hs hk.b h0 h1 g1
  have ey : vY (m + 2) (latT g0 b) g1 g2 g3 (t + b) = vY (m + 2) g0 g1 g2 g3 t := sv_later hs hk.b h0 h1 g2
  have ez : vZ (m + 2) (latT g0 b) g1 g2 g3 (t + b) = vZ (m + 2) g0 g1 g2 g3 t := sv_later hs hk.b h0 h1 g3
  unfold vyT
  rw [ht, rsB_eq]
  show (⟨_, _, _, _, vX (m + 2) (latT g0 b) g1 g2 g3 (t + b), vY (m + 2) (latT g0 b) g1 g2 g3 (t + b), vZ (m + 2) (latT g0 b) g1 g2 g3 (t + b), noneE (vX (m + 2) (latT g0 b) g1 g2 g3 (t + b)) (vY (m + 2) (latT g0 b) g1 g2 g3 (t + b)) (vZ (m + 2) (latT g0 b) g1 g2 g3 (t + b)), _, _⟩ : Vy) = _
  rw [ex, ey, ez]
  rfl
/-- behind the loop over spans -/
theorem dy_after {t : Int} (h0 : g0 0 ≤ t) (h1 : t ≤ g0 (m + 1)) {K : Nat} (hK : K < m + 2) (hle : g0 K ≤ t) (hnx : K + 1 < m + 2 → t < g0 (K + 1)) {φ : X × St → Prop} (hφ : φ (.normal, dyH3 fl fyT nm m g0 g1 g2 g3 b (K : Int) (IntKind.i64.wrap (t + 1)))) :
    Leads (CutF Tryz.prog (reY fl fyT) dyC3 (dyB nm m g0 g1 g2 g3 b) φ 1) (dyA6 fl fyT nm m g0 g1 g2 g3 b (vyT fyT m g0 g1 g2 g3 b t) K t (dayV fl m g0 g1 g2 g3 t) ((dyCnt fl fyT m g0 g1 g2 g3 : Nat) : Int)) := by
  have hs := hk.sky
  have hn := hs.few
  have hx0 : ixN K = K := idx_nat K
  obtain ⟨e1, e2, e3⟩ := rnd_lt hK
  have e3 : Nat.blt (ixN K) (m + 2) = true := e3
  have e2 : kB (m + 2) K = true := e2
  have need3O_ok : ∀ {ψ : (X × St) ⊕ (List Bool × St) → Prop} {c : Bool} {S : SkO}, c = true → SkLeads ψ S → SkLeads ψ (need3O c S) := fun hc h => sk_need hc (sk_need hc (sk_need hc h))
  rw [hk.vy h0 h1, hk.day h0 h1]
  -- bounds
  obtain ⟨bx, _⟩ := at_bd hs h0 h1 (M := 40) (ga := g1) fun i hi => (hk.tiny i hi).1
  obtain ⟨by', _⟩ := at_bd hs h0 h1 (M := 40) (ga := g2) fun i hi => (hk.tiny i hi).2.1
  obtain ⟨bz, _⟩ := at_bd hs h0 h1 (M := 40) (ga := g3) fun i hi => (hk.tiny i hi).2.2
  have hBd : Bd 16000 (atV (m + 2) g0 g1 t) (atV (m + 2) g0 g2 t) (atV (m + 2) g0 g3 t) := ⟨by unfold atV; omega, by unfold atV; omega, by unfold atV; omega⟩
  have told : t = g0 K → vX (m + 2) g0 g1 g2 g3 t = rdW (g1 K) (g2 K) (g3 K) (g1 K) ∧ vY (m + 2) g0 g1 g2 g3 t = rdW (g1 K) (g2 K) (g3 K) (g2 K) ∧ vZ (m + 2) g0 g1 g2 g3 t = rdW (g1 K) (g2 K) (g3 K) (g3 K) := fun e => by
    subst e
    exact ⟨told_sv hs hK g1, told_sv hs hK g2, told_sv hs hK g3⟩
  have hr := hs.ray K hK
  have hdir : dirErr (g1 K) (g2 K) (g3 K) = 0 := dir_zero.2 ⟨hr.1.mono (by decide), hr.2⟩
  have hrd : ∀ a, rdW (g1 K) (g2 K) (g3 K) a = redA (g1 K) (g2 K) (g3 K) a := fun a => by unfold rdW; rw [hdir]; rfl
  have hRK : Red (g1 K) (g2 K) (g3 K) (redA (g1 K) (g2 K) (g3 K) (g1 K)) (redA (g1 K) (g2 K) (g3 K) (g2 K)) (redA (g1 K) (g2 K) (g3 K) (g3 K)) := by
    rcases red_cases hr.1 (by decide) with h | h
    · exact absurd ⟨h.1, h.2.1, h.2.2.1⟩ hr.2
    · exact h
  rcases red_cases hBd (by decide) with hz | hR
  · -- no sun
    obtain ⟨_, _, _, zx, zy, zz⟩ := hz
    have ex : vX (m + 2) g0 g1 g2 g3 t = 0 := zx
    have ey : vY (m + 2) g0 g1 g2 g3 t = 0 := zy
    have ez : vZ (m + 2) g0 g1 g2 g3 t = 0 := zz
    have en : noneE (vX (m + 2) g0 g1 g2 g3 t) (vY (m + 2) g0 g1 g2 g3 t) (vZ (m + 2) g0 g1 g2 g3 t) = 7 := by rw [ex, ey, ez]; rfl
    have hup : upB (m + 2) g0 g1 g2 g3 t = false := by unfold upB; rw [ez]; rfl
    rw [en]
    refine leads_in rfl (dyA6_into7 fl fyT nm m g0 g1 g2 g3 b _ _ _ _ _ _ _ K t _ _) (dyA6_fits7 fl fyT nm m g0 g1 g2 g3 b _ _ _ _ _ _ _ K t _ _) ?_
    unfold dyP7
    refine sk_ff (sk_ff (sk_no (by rw [eqV3_same]; rfl) (sk_no (by simp) (sk_tt (sk_ff (sk_no hup (sk_need e2 (sk_need e3 (need3O_ok e3 (sk_no ?_ (sk_tt (sk_done hφ)))))))))))) 
    rw [hx0]
    simp only [beq_eq_false_iff_ne]
    intro e
    obtain ⟨t1, t2, t3⟩ := told e
    rw [ex, hrd] at t1
    rw [ey, hrd] at t2
    rw [ez, hrd] at t3
    exact hRK.ne ⟨t1.symm, t2.symm, t3.symm⟩
  · have hne := hR.ne
    have hv : Bd 16000 (vX (m + 2) g0 g1 g2 g3 t) (vY (m + 2) g0 g1 g2 g3 t) (vZ (m + 2) g0 g1 g2 g3 t) := hR.bd hBd
    have hne : ¬ (vX (m + 2) g0 g1 g2 g3 t = 0 ∧ vY (m + 2) g0 g1 g2 g3 t = 0 ∧ vZ (m + 2) g0 g1 g2 g3 t = 0) := hne
    obtain ⟨gg, hg, r1, r2, r3, _⟩ := hR
    have r1 : atV (m + 2) g0 g1 t = gg * vX (m + 2) g0 g1 g2 g3 t := r1
    have r2 : atV (m + 2) g0 g2 t = gg * vY (m + 2) g0 g1 g2 g3 t := r2
    have r3 : atV (m + 2) g0 g3 t = gg * vZ (m + 2) g0 g1 g2 g3 t := r3
    rw [noneE_zero hne]
    have hupE : upB (m + 2) g0 g1 g2 g3 t = !decide (vZ (m + 2) g0 g1 g2 g3 t ≤ 0) := rfl
    generalize hX : vX (m + 2) g0 g1 g2 g3 t = x at *
    generalize hY : vY (m + 2) g0 g1 g2 g3 t = y at *
    generalize hZ : vZ (m + 2) g0 g1 g2 g3 t = z at *
    refine leads_in rfl (dyA6_into fl fyT nm m g0 g1 g2 g3 b _ _ _ _ _ _ _ K t _ _) (dyA6_fits fl fyT nm m g0 g1 g2 g3 b _ _ _ _ _ _ _ K t _ _) ?_
    unfold dyP6
    refine sk_ff (sk_ff (sk_no (by rw [eqV3_same]; rfl) (sk_no (by simp) (sk_ff (sk_ff (sk_need e2 (sk_need e3 (need3O_ok e3 (sk_either (fun h => ?_) fun h => ?_)))))))))
    · rw [hx0] at h
      have h : t = g0 K := by simpa using h
      obtain ⟨t1, t2, t3⟩ := told h
      obtain ⟨i1, i2⟩ := hi_spec (n := m + 2) (by omega) g3
      have hh : fyT.h (m + 2) g3 = ((idI g3 (mxU g3 (m + 2 - 1)) (m + 2) 0 : Nat) : Int) := rfl
      have hhN : hN fyT m g3 = idI g3 (mxU g3 (m + 2 - 1)) (m + 2) 0 := by unfold hN; rw [hh]; exact idx_nat _
      unfold toldO
      rw [hx0, hhN]
      refine sk_ff (sk_no (by rw [hdir]; rfl) (sk_no (by rw [← t1, ← t2, ← t3, eqV3_same]; rfl) (sk_need ?_ (sk_need (by rw [Nat.blt_eq]; exact i1) (sk_no ?_ (sk_no ?_ (sk_done hφ)))))))
      · unfold hB
        rw [hh]
        simp only [Bool.and_eq_true, decide_eq_true_eq]; omega
      · have := i2 K hK
        simp only [decide_eq_false_iff_not]; omega
      · have hsg := hRK.sign
        rw [← hrd, ← t3] at hsg
        rw [hupE]
        by_cases hp : g3 K > 0
        · have : ¬ z ≤ 0 := by have := hsg.2 hp; omega
          rw [decide_eq_true hp, decide_eq_false this]; rfl
        · have : z ≤ 0 := by
            rcases Int.lt_or_le 0 z with h5 | h5
            · exact absurd (hsg.1 h5) hp
            · exact h5
          rw [decide_eq_false hp, decide_eq_true this]; rfl
    · rw [hx0] at h
      have h : ¬ t = g0 K := by simpa using h
      have hK1 : K + 1 < m + 2 := by
        rcases Nat.lt_or_ge (K + 1) (m + 2) with h5 | h5
        · exact h5
        · have : K = m + 1 := by omega
          subst this; omega
      have hlt := hnx hK1
      have v1 := mid_v hs hK1 (show g0 K < t by omega) hlt g1
      have v2 := mid_v hs hK1 (show g0 K < t by omega) hlt g2
      have v3 := mid_v hs hK1 (show g0 K < t by omega) hlt g3
      have eI : mnI m K = ((K + 1 : Nat) : Int) := by
        unfold mnI
        rw [wrap_id (by omega) (by omega), wrap_id (by omega) (by omega)]
        split <;> omega
      have eN : mnN m K = K + 1 := by unfold mnN; rw [eI]; exact idx_nat _
      have eB : mnB m K = true := by unfold mnB; rw [eI]; simp only [Bool.and_eq_true, decide_eq_true_eq]; omega
      have hb1 : Nat.blt (K + 1) (m + 2) = true := by rw [Nat.blt_eq]; exact hK1
      have hA := hk.tiny K hK
      have hB := hk.tiny (K + 1) hK1
      have la := hs.len K hK
      have lb := hs.len (K + 1) hK1
      have hr' := hs.ray (K + 1) hK1
      have hnn := (dot_eq hA hB (by decide)).1
      have hxp : 0 < g0 (K + 1) - t := by omega
      have hyp : 0 < t - g0 K := by omega
      rw [v1] at r1
      rw [v2] at r2
      rw [v3] at r3
      have endA : EndOk x y z (dotW (g1 K) (g2 K) (g3 K) (g1 (K + 1)) (g2 (K + 1)) (g3 (K + 1))) (g1 K) (g2 K) (g3 K) := end_of hxp hyp la lb hg r1 r2 r3 hA hB hv hne hr.2 hnn
      have endB : EndOk x y z (dotW (g1 K) (g2 K) (g3 K) (g1 (K + 1)) (g2 (K + 1)) (g3 (K + 1))) (g1 (K + 1)) (g2 (K + 1)) (g3 (K + 1)) := end_of hyp hxp lb la hg (by rw [Int.add_comm]; exact r1) (by rw [Int.add_comm]; exact r2) (by rw [Int.add_comm]; exact r3) hB hA hv hne hr'.2 (by rw [hnn, Int.mul_comm (g1 K), Int.mul_comm (g2 K), Int.mul_comm (g3 K)])
      unfold midO
      rw [hx0, eN]
      refine sk_ff (sk_need eB (sk_need hb1 (need3O_ok hb1 (sk_no ?_ (sk_no ?_ ?_)))))
      · rw [farErr_zero (hv.mono (by decide))]; rfl
      · have hz3 := z3_no hne
        unfold z3 at hz3
        exact hz3
      · refine sk_stop _ true dyV3 dyV3 (en_loop fl nm m g0 g1 g2 g3 b x y z (K : Int) t _ _ _ _ _ _ _ endA endB) fun q hq => ?_
        subst hq
        exact leads_leaf (show _ = dyA7 fl fyT nm m g0 g1 g2 g3 b x y z (K : Int) t (dotW (g1 K) (g2 K) (g3 K) (g1 (K + 1)) (g2 (K + 1)) (g3 (K + 1))) (g1 K) (g2 K) (g3 K) (g1 (K + 1)) (g2 (K + 1)) (g3 (K + 1)) by delta dyA7; rfl) (dyA7_is fl fyT nm m g0 g1 g2 g3 b x y z (K : Int) t _ _ _ _ _ _ _) (cutF_dn hφ)
end
end Go.Ev
