/- SunDays returns true at every input. Conditions: the two variables that awake() reads hold what they are laid with; a step in ticks of 16 bits. -/
import Derived.Test.YtkalcencblhlgaaGreatDoorDy7
namespace Go.Ev
open Go Go.Proofs
set_option maxRecDepth 100000

section
variable {fl : Bool} {nm : ByteArray} {m : Nat} {g0 g1 g2 g3 : Nat → Int} {b : Int} (hk : DyK fl nm m g0 g1 g2 g3 b)
include hk
theorem dy_main : ComesF Tryz.prog (.loop dyC3) (dyB nm m g0 g1 g2 g3 b) (dyH3 fl fyT nm m g0 g1 g2 g3 b ((0 : Nat) : Int) (g0 z0N)) fun p => ∃ k t : Int, p = (.exit 4, dyH3 fl fyT nm m g0 g1 g2 g3 b k t) := by
  have hs := hk.sky
  have hn := hs.few
  obtain ⟨c1, c2⟩ := cnt_eq hk.s
  have c1 : g0 0 + (cntT (m + 2) g0 : Nat) = g0 (m + 1) + 1 := c1
  have b1 := hs.tick 0 (by omega)
  have b2 := hs.tick (m + 1) (by omega)
  obtain ⟨_, l2, l3, l4, _, _⟩ := lN_eq (n := m + 2) (by omega) (by omega)
  have key := comesF_loop (P := Tryz.prog) (c := dyC3) (sB := dyB nm m g0 g1 g2 g3 b) (ι := Nat × Nat) (fun x => dyH3 fl fyT nm m g0 g1 g2 g3 b (x.1 : Int) (g0 0 + (x.2 : Int))) (fun x => cntT (m + 2) g0 + 1 - x.2) (fun x => x.1 < m + 2 ∧ x.2 ≤ cntT (m + 2) g0 ∧ g0 x.1 ≤ g0 0 + (x.2 : Int)) (fun p => ∃ k t : Int, p = (.exit 4, dyH3 fl fyT nm m g0 g1 g2 g3 b k t)) (fun x hx => ?_) (0, 0) ⟨by omega, Nat.zero_le _, by simp⟩
  · have e : g0 0 + (((0, 0) : Nat × Nat).2 : Int) = g0 z0N := by
      show g0 0 + ((0 : Nat) : Int) = g0 0
      simp
    have e2 : dyH3 fl fyT nm m g0 g1 g2 g3 b ((((0, 0) : Nat × Nat).1 : Nat) : Int) (g0 0 + (((0, 0) : Nat × Nat).2 : Int)) = dyH3 fl fyT nm m g0 g1 g2 g3 b ((0 : Nat) : Int) (g0 z0N) := by rw [e]
    rw [← e2]
    exact key
  · obtain ⟨k, j⟩ := x
    obtain ⟨hkn, hj, hle⟩ := hx
    simp only [] at hkn hj hle
    simp only []
    refine comesF_cutS (reY_ok fl) rfl 3 dyV3 dyV3 (T := dyA3 fl fyT nm m g0 g1 g2 g3 b k (g0 0 + (j : Int))) (by delta dyA3; rfl) (dyA3_into fl fyT nm m g0 g1 g2 g3 b k _) (dyA3_fits fl fyT nm m g0 g1 g2 g3 b k _) ?_
    unfold dyP3
    refine sk_need l3 (sk_need l4 (sk_either (fun h => ?_) fun h => sk_done ⟨_, _, rfl⟩))
    rw [l2] at h
    have h : g0 0 + (j : Int) ≤ g0 (m + 1) := by simpa using h
    refine sk_stop _ true dyV4 dyV3 (ix_loop fl nm m g0 g1 g2 g3 b (by omega) k hkn hle) fun q hq => ?_
    obtain ⟨K, ⟨hK, hKle, hKnx⟩, rfl⟩ := hq
    refine leads_in (show _ = dyA4 fl fyT nm m g0 g1 g2 g3 b K (g0 0 + (j : Int)) by delta dyA4; rfl) (dyA4_into fl fyT nm m g0 g1 g2 g3 b K _) (dyA4_fits fl fyT nm m g0 g1 g2 g3 b K _) ?_
    have hb1 : Nat.ble (m + 2) 1000000 = true := by rw [Nat.ble_eq]; omega
    have hok : atOk skyE nm (m + 2) g0 g1 g2 g3 (g0 0 + (j : Int)) = true := by
      unfold atOk
      rw [hk.s]
      simp only [Bool.and_eq_true, decide_eq_true_eq]
      exact ⟨rfl, by omega, h⟩
    have hok' : atOk skyE nm (m + 2) (latT g0 b) g1 g2 g3 (IntKind.i64.wrap (g0 0 + (j : Int) + IntKind.i64.wrap b)) = true := by
      have t0 := lat_eq hs hk.b (show 0 < m + 2 by omega)
      have t1 := lat_eq hs hk.b (show m + 1 < m + 2 by omega)
      unfold atOk
      rw [hk.l, lat_tick hs hk.b (by omega) h, t0, show m + 2 - 1 = m + 1 by omega, t1]
      simp only [Bool.and_eq_true, decide_eq_true_eq]
      exact ⟨rfl, by omega, by omega⟩
    have atN_ok : ∀ {ψ : (X × St) ⊕ (List Bool × St) → Prop} {t : Int} {L : Nat → Int} {S : SkO}, atOk skyE nm (m + 2) L g1 g2 g3 t = true → SkLeads ψ S → SkLeads ψ (atN fyT nm m g1 g2 g3 t L S) := fun h1 h2 => by
      unfold atN
      exact sk_need (okN_ok _) (sk_need hb1 (sk_ff (sk_need (okN_ok _) (sk_need h1 h2))))
    unfold dyP4
    refine atN_ok hok (atN_ok hok' (atN_ok hok ?_))
    refine sk_stop _ true dyV6 dyV3 (day_loop fl nm m g0 g1 g2 g3 b hk.cnt (vyT fyT m g0 g1 g2 g3 b (g0 0 + (j : Int))) (K : Int) (g0 0 + (j : Int))) fun q hq => ?_
    subst hq
    have hT : evO2 (reY fl fyT) true dyC3 pathD dyV6 dyV3 (dyB nm m g0 g1 g2 g3 b) (.exit 8, dyH5 fl fyT nm m g0 g1 g2 g3 b (vyT fyT m g0 g1 g2 g3 b (g0 0 + (j : Int))) (K : Int) (g0 0 + (j : Int)) (dayV fl m g0 g1 g2 g3 (g0 0 + (j : Int))) ((dyCnt fl fyT m g0 g1 g2 g3 : Nat) : Int)) = dyA6 fl fyT nm m g0 g1 g2 g3 b (vyT fyT m g0 g1 g2 g3 b (g0 0 + (j : Int))) K (g0 0 + (j : Int)) (dayV fl m g0 g1 g2 g3 (g0 0 + (j : Int))) ((dyCnt fl fyT m g0 g1 g2 g3 : Nat) : Int) := by delta dyA6; rfl
    rw [hT]
    refine dy_after hk (by omega) h hK hKle hKnx ?_
    have hw : IntKind.i64.wrap (g0 0 + (j : Int) + 1) = g0 0 + ((j + 1 : Nat) : Int) := by rw [wrap_id (by omega) (by omega)]; omega
    refine ⟨(K, j + 1), ?_, ⟨hK, by omega, by simp only []; omega⟩, by simp only []; omega⟩
    rw [hw]
    exact St.Le.refl _
end
/-! ### The call -/
section
variable (fl : Bool) (nm : ByteArray) (m : Nat) (g0 g1 g2 g3 : Nat → Int) (b : Int)
theorem dy_left (v : Bool) : Left2 Tryz.prog Tryz.f3 (dyHp m g0 g1 g2 g3) (boo v) (dyHp m g0 g1 g2 g3) (.ret, dyN m g0 g1 g2 g3 [(4, boo v)] []) := left_of (b := true) (by kernel_rfl)
theorem dyQ1_go (f : Fy) : dyQ1 fl f nm m g0 g1 g2 g3 b (.exit 0, dyX1 nm m g0 g1 g2 g3 b false) = .leaf (.inr (path2, dyH2 nm m g0 g1 g2 g3 b 0)) := by kernel_rfl
theorem dyQ1_ret (f : Fy) : dyQ1 fl f nm m g0 g1 g2 g3 b (.ret, dyX1 nm m g0 g1 g2 g3 b true) = .leaf (.inl (.ret, dyYes m g0 g1 g2 g3)) := by kernel_rfl
/-- the first ray that is not tiny -/
def bigE (i : Nat) : Int := match tinW (g1 i) (g2 i) (g3 i) with
  | true => 0
  | false => 1
def dyY1 (e : Int) : St := dyX1 nm m g0 g1 g2 g3 b (e != 0)
theorem dy1_loop (hm : m + 2 ≤ 64) : ComesF Tryz.prog (.loop (loopF Tryz.f3)) (dyB nm m g0 g1 g2 g3 b) (dyH1 nm m g0 g1 g2 g3 b ((0 : Nat) : Int)) fun q => q = finT (dyY1 nm m g0 g1 g2 g3 b) (m + 2) (bigE g1 g2 g3) 0 := by
  refine loop_count (reY_ok true) rfl [1, 2, 4, 61, 62, 63] [1, 2, 4] (fun k => dyH1 nm m g0 g1 g2 g3 b (k : Int)) (finT (dyY1 nm m g0 g1 g2 g3 b) (m + 2) (bigE g1 g2 g3)) (m + 2) (dyT1 true fyT nm m g0 g1 g2 g3 b) (dyS1 nm m g0 g1 g2 g3 b) (fun k => by delta dyT1; rfl) (dy1_into true fyT nm m g0 g1 g2 g3 b) (dy1_fits true fyT nm m g0 g1 g2 g3 b) (fun k hk => ?_) ?_
  · obtain ⟨e1, e2, e3⟩ := rnd_lt hk
    have e3 : Nat.blt (ixN k) (m + 2) = true := e3
    have e2 : kB (m + 2) k = true := e2
    have hx : ixN k = k := idx_nat k
    unfold dyS1
    refine sk_yes e1 (sk_need e2 (sk_need e3 (need3_ok e3 (sk_either (fun h => sk_leaf (rnd_ret ?_)) fun h => sk_leaf (rnd_next ?_ ?_)))))
    · rw [hx] at h
      have hb : bigE g1 g2 g3 k = 1 := by
        unfold bigE
        rw [show tinW (g1 k) (g2 k) (g3 k) = false by simpa using h]
      rw [finT_ret hk (by rw [hb]; decide), hb]
      rfl
    · rw [wrap_succ (by omega)]; exact St.Le.refl _
    · rw [hx] at h
      refine finT_next hk ?_
      unfold bigE
      rw [show tinW (g1 k) (g2 k) (g3 k) = true by simpa using h]
  · unfold dyS1
    refine sk_no (rnd_end (m + 2)) (sk_leaf (show _ = finT (dyY1 nm m g0 g1 g2 g3 b) (m + 2) (bigE g1 g2 g3) (m + 2) from ?_))
    rw [finT_end]
    rfl
theorem dy2_loop (hm : m + 2 ≤ 64) : ComesF Tryz.prog (.loop dyCo2) (dyB nm m g0 g1 g2 g3 b) (dyH2 nm m g0 g1 g2 g3 b 0) fun q => q = (.exit 2, dyX2 nm m g0 g1 g2 g3 b (m + 2)) := by
  refine loop_count (reY_ok true) rfl [1, 2, 4, 7, 77, 78, 79] [1, 2, 4, 7] (dyH2 nm m g0 g1 g2 g3 b) (fun _ => (.exit 2, dyX2 nm m g0 g1 g2 g3 b (m + 2))) (m + 2) (dyT2 true fyT nm m g0 g1 g2 g3 b) (dyS2 nm m g0 g1 g2 g3 b) (fun k => by delta dyT2; rfl) (dy2_into true fyT nm m g0 g1 g2 g3 b) (dy2_fits true fyT nm m g0 g1 g2 g3 b) (fun k hk => ?_) ?_
  · obtain ⟨e1, e2, e3⟩ := rnd_lt hk
    cases k with
    | zero =>
      unfold dyS2
      refine sk_yes e1 (sk_need e2 (sk_leaf (rnd_next ?_ rfl)))
      rw [wrap_succ (by omega)]
      exact le_news (show 3 + 3 ≤ lim by decide) ⟨⟨rfl, fun _ _ _ h => h⟩, ⟨rfl, fun _ _ _ h => h⟩, ⟨rfl, four_rows (by rw [show ixN 0 = 0 from idx_nat 0]) (by rw [show ixN 0 = 0 from idx_nat 0]) (by rw [show ixN 0 = 0 from idx_nat 0]) (by rw [show ixN 0 = 0 from idx_nat 0])⟩, trivial⟩
    | succ k =>
      unfold dyS2
      have d0 : ((Tryz.prog.info? 31).map (·.bytes)).getD 0 = 32 := by kernel_rfl
      refine sk_yes e1 (sk_need e2 (sk_need e3 (need3_ok e3 (sk_need (apN_ok (by rw [d0]; decide) (by omega)) (sk_leaf (rnd_next ?_ rfl))))))
      rw [wrap_succ (by omega), putK_eq, putK_eq, putK_eq, putK_eq]
      exact St.Le.refl _
  · unfold dyS2
    exact sk_no (rnd_end (m + 2)) (sk_leaf rfl)
end
theorem dy_valid {nm : ByteArray} {m : Nat} {g0 g1 g2 g3 : Nat → Int} {b : Int} (hE : skyE nm (m + 2) g0 g1 g2 g3 = 0) (hb : 0 ≤ b ∧ b < 65536) : CallAt Tryz.prog 3 [skyA nm (m + 2), u16 b] (dyHp m g0 g1 g2 g3) (boo true) (dyHp m g0 g1 g2 g3) := by
  have hs := (sky_ok hE).1
  have hn := hs.few
  have hm : m + 2 ≤ 64 := hn
  -- some spans, or none
  obtain ⟨fl, hfl⟩ : ∃ fl, dyMb fl fyT m g0 g1 g2 g3 = true := by
    rcases Nat.eq_zero_or_pos (dsM (m + 2) g0 g1 g2 g3) with h | h
    · exact ⟨false, by show Nat.beq (dsM (m + 2) g0 g1 g2 g3) 0 = true; rw [h]; rfl⟩
    · exact ⟨true, by show Nat.blt 0 (dsM (m + 2) g0 g1 g2 g3) = true; rw [Nat.blt_eq]; exact h⟩
  obtain ⟨_, l2, l3, l4, l5, _⟩ := lN_eq (n := m + 2) (by omega) (by omega)
  have hb1 : Nat.ble (m + 2) 1000000 = true := by rw [Nat.ble_eq]; omega
  refine call_baseS (reY_ok fl) (c := bodyOf Tryz.f3) (fn := Tryz.f3) Tryz.func3 (by kernel_rfl) (by kernel_rfl) (false, true) 3 [1, 2, 4, 61, 62, 63] [4] (sB := dyB nm m g0 g1 g2 g3 b) (by kernel_rfl) (t := dyO fl fyT nm m g0 g1 g2 g3 b) (by delta dyO; rfl) (dyO_into fl fyT nm m g0 g1 g2 g3 b) (dyO_fits fl fyT nm m g0 g1 g2 g3 b) ?_
  have yes : ∀ {k : Nat}, SkLeads (CutF Tryz.prog (reY fl fyT) (bodyOf Tryz.f3) (dyB nm m g0 g1 g2 g3 b) (Left2 Tryz.prog Tryz.f3 (dyHp m g0 g1 g2 g3) (boo true) (dyHp m g0 g1 g2 g3)) k) (dyR m g0 g1 g2 g3) := fun {k} => sk_done (dy_left m g0 g1 g2 g3 true)
  have hP : SkLeads (CutF Tryz.prog (reY fl fyT) (bodyOf Tryz.f3) (dyB nm m g0 g1 g2 g3 b) (Left2 Tryz.prog Tryz.f3 (dyHp m g0 g1 g2 g3) (boo true) (dyHp m g0 g1 g2 g3)) 3) (dyP1 fyT nm m g0 g1 g2 g3 b) := by
    unfold dyP1
    refine sk_need (okN_ok _) (sk_either (fun _ => sk_tt yes) fun _ => sk_need l3 (sk_need l4 (sk_need l5 (sk_either (fun _ => yes) fun _ => ?_))))
    refine sk_stop _ true [1, 2, 4, 7, 77, 78, 79] [4] (dy1_loop nm m g0 g1 g2 g3 b hm) fun q hq => ?_
    subst hq
    unfold finT
    rw [Nat.sub_zero]
    cases hz : fnz (bigE g1 g2 g3) (m + 2) 0 with
    | some e =>
      have he : (e != 0) = true := by
        have key : ∀ (j k : Nat) (e : Int), fnz (bigE g1 g2 g3) j k = some e → (e != 0) = true := by
          intro j
          induction j with
          | zero => intro k e h; cases h
          | succ j ih =>
            intro k e h
            unfold fnz at h
            cases hc : bigE g1 g2 g3 k != 0 with
            | true => rw [hc] at h; injection h with h; rw [← h]; exact hc
            | false => rw [hc] at h; exact ih _ _ h
        exact key _ _ _ hz
      have hY : dyY1 nm m g0 g1 g2 g3 b e = dyX1 nm m g0 g1 g2 g3 b true := by unfold dyY1; rw [he]
      simp only []
      rw [hY]
      exact leads_leaf (show _ = dyQ1 fl fyT nm m g0 g1 g2 g3 b (.ret, dyX1 nm m g0 g1 g2 g3 b true) by delta dyQ1; rfl) (dyQ1_ret fl nm m g0 g1 g2 g3 b fyT) (cutF_dn (dy_left m g0 g1 g2 g3 true))
    | none =>
      have htiny : ∀ i, i < m + 2 → Bd 40 (g1 i) (g2 i) (g3 i) := fun i hi => by
        have h0 := fnz_none (f := bigE g1 g2 g3) (m := m + 2) (k := 0) (by rw [hz]; rfl) i (Nat.zero_le _) (by omega)
        unfold bigE at h0
        cases ht : tinW (g1 i) (g2 i) (g3 i) with
        | true => exact (tin_of ht).2
        | false => rw [ht] at h0; cases h0
      have hY : dyY1 nm m g0 g1 g2 g3 b 0 = dyX1 nm m g0 g1 g2 g3 b false := rfl
      simp only []
      rw [hY]
      refine leads_in (show _ = dyQ1 fl fyT nm m g0 g1 g2 g3 b (.exit 0, dyX1 nm m g0 g1 g2 g3 b false) by delta dyQ1; rfl) (S := .leaf (.inr (path2, dyH2 nm m g0 g1 g2 g3 b 0))) (by rw [dyQ1_go]; rfl) (by rw [dyQ1_go]; rfl) ?_
      refine sk_stop _ true [1, 2, 4, 7, 10, 12, 14, 15] [4] (dy2_loop nm m g0 g1 g2 g3 b hm) fun q hq => ?_
      subst hq
      refine leads_in (show _ = dyA2 fl fyT nm m g0 g1 g2 g3 b by delta dyA2 dyQ2; rfl) (dyA2_into fl fyT nm m g0 g1 g2 g3 b) (dyA2_fits fl fyT nm m g0 g1 g2 g3 b) ?_
      unfold dyP2
      refine sk_need (okN_ok _) (sk_either (fun _ => yes) fun hl => ?_)
      have hl : fyT.E nm (m + 2) (latT g0 b) g1 g2 g3 = 0 := by simpa using hl
      have hl : skyE nm (m + 2) (latT g0 b) g1 g2 g3 = 0 := hl
      have hk : DyK fl nm m g0 g1 g2 g3 b := ⟨hE, hl, hb, htiny, hfl⟩
      have hE1 : (fyT.E nm (m + 2) g0 g1 g2 g3 == 0) = true := by
        show (skyE nm (m + 2) g0 g1 g2 g3 == 0) = true
        rw [hE]; rfl
      obtain ⟨i1, _⟩ := hi_spec (n := m + 2) (by omega) g3
      have hh : fyT.h (m + 2) g3 = ((idI g3 (mxU g3 (m + 2 - 1)) (m + 2) 0 : Nat) : Int) := rfl
      refine sk_need (okN_ok _) (sk_need hb1 (sk_ff (sk_need (okN_ok _) (sk_need hE1 (sk_need hfl (sk_need (okN_ok _) (sk_need hb1 (sk_ff (sk_need (okN_ok _) (sk_need hE1 (sk_ff (sk_ff (sk_no ?_ (sk_no ?_ (sk_need l5 ?_)))))))))))))))
      · rw [hh]; simp only [decide_eq_false_iff_not]; omega
      · rw [hh]; simp only [decide_eq_false_iff_not]; omega
      · refine sk_stop _ true [] [4] (dy_main hk) fun q hq => ?_
        obtain ⟨k, t, rfl⟩ := hq
        exact leads_leaf (show _ = dyA8 fl fyT nm m g0 g1 g2 g3 b k t by delta dyA8; rfl) (dyA8_is fl fyT nm m g0 g1 g2 g3 b k t) (cutF_dn (dy_left m g0 g1 g2 g3 true))
  unfold dyOS
  exact sk_either (fun _ => sk_either (fun _ => sk_ff hP) fun _ => sk_either (fun _ => sk_tt (sk_tt yes)) fun _ => hP) fun _ => sk_tt (sk_tt (sk_tt yes))
end Go.Ev
