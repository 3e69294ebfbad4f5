/- SaltParts: the law returns true for every history, every place of the cut and all classes. Conditions: the number that tells the cut is one of 8 bits. -/
import Derived.Test.YtlpchgidkibbeaaGreatDoorPtG
namespace Go.Ev
open Go Go.Proofs
set_option maxRecDepth 100000

section
variable (n q : Nat) (u : Int) (z w1 w2 : Nat → Int)
/-! ### no four turns with a cycle -/
theorem pt_loop5 (kd : KP) (hz : kd ≠ .z) (f g : Nat → Int) (R : Nat) (r c1 c2 : Nat → Int) (hR : R ≤ 256) (hr : Bd R r) (hc : ∀ k, k + 3 < R → fourI (r k) (r (k + 1)) (r (k + 2)) (r (k + 3)) = false) :
    ComesF Tryz.prog (.loop (ptC 5)) (ptB n q u z w1 w2) (ptH5 n q u z w1 w2 kd f g R r c1 c2 ((0 : Nat) : Int)) fun o => o = (.exit 10, ptX5 n q u z w1 w2 kd f g R r c1 c2) := by
  have go : ∀ kd : KP, (∀ i, ptT5 n q u z w1 w2 kd f g R r c1 c2 gsT i = into (ptT5 n q u z w1 w2 kd f g R r c1 c2 gsT i) (sk5 n q u z w1 w2 kd f g R r c1 c2 i)) → (∀ i, fits (ptT5 n q u z w1 w2 kd f g R r c1 c2 gsT i) (sk5 n q u z w1 w2 kd f g R r c1 c2 i) = true) →
      ComesF Tryz.prog (.loop (ptC 5)) (ptB n q u z w1 w2) (ptH5 n q u z w1 w2 kd f g R r c1 c2 ((0 : Nat) : Int)) fun o => o = (.exit 10, ptX5 n q u z w1 w2 kd f g R r c1 c2) := fun kd h1 h2 => by
    refine loop_count (ptRe_ok .z .z .ok) rfl [1, 2, 7, 8, 15, 16, 27, 28] [1, 2, 7, 8, 15, 16] (fun k => ptH5 n q u z w1 w2 kd f g R r c1 c2 (k : Int)) (fun _ => (.exit 10, ptX5 n q u z w1 w2 kd f g R r c1 c2)) (R - 3) (fun k => ptT5 n q u z w1 w2 kd f g R r c1 c2 gsT (k : Int)) (fun k => sk5 n q u z w1 w2 kd f g R r c1 c2 (k : Int)) (fun _ => rfl) (fun k => h1 _) (fun k => h2 _) (fun k hk => ?_) ?_
    · have w1' : IntKind.i64.wrap ((k : Int) + 1) = ((k + 1 : Nat) : Int) := w64_add (d := 1) (by omega)
      have w2' : IntKind.i64.wrap ((k : Int) + 2) = ((k + 2 : Nat) : Int) := w64_add (d := 2) (by omega)
      have w3' : IntKind.i64.wrap ((k : Int) + 3) = ((k + 3 : Nat) : Int) := w64_add (d := 3) (by omega)
      have at' : ∀ j : Nat, rA r (j : Int) = r j := fun j => by unfold rA; rw [idx_nat]
      have hk3 : k + 3 < R := by omega
      have hf := hc k hk3
      unfold sk5
      simp only [w1', w2', w3', at']
      refine sk_yes (dec_t (by omega)) (ix_ok rfl (by omega) (ix_ok rfl (by omega) (ix_ok rfl (by omega) (ix_ok rfl (by omega) (sk_either (fun g1 => ?_) fun _ => sk_ff (sk_leaf (rnd_next (St.Le.refl _) rfl)))))))
      refine ix_ok rfl (by omega) (ix_ok rfl (by omega) (ix_ok rfl (by omega) (ix_ok rfl hk3 (sk_no ?_ (sk_leaf (rnd_next (St.Le.refl _) rfl))))))
      have b0 := hr k (by omega)
      have b1 := hr (k + 1) (by omega)
      have b2 := hr (k + 2) (by omega)
      have b3 := hr (k + 3) hk3
      rw [farW_abs b1 b2, farW_abs b0 b1] at g1
      rw [farW_abs b1 b2, farW_abs b2 b3]
      simp only [decide_eq_true_eq] at g1
      unfold fourI at hf
      rw [Bool.and_eq_false_iff] at hf
      simp only [decide_eq_false_iff_not] at hf
      exact dec_f (by omega)
    · have w3' : IntKind.i64.wrap (((R - 3 : Nat) : Int) + 3) = ((R - 3 + 3 : Nat) : Int) := w64_add (d := 3) (by omega)
      unfold sk5
      simp only [w3']
      exact sk_no (dec_f (by omega)) (sk_leaf rfl)
  cases kd with
  | z => exact absurd rfl hz
  | n => exact go .n (fun i => t5n_into n q u z w1 w2 f g R r c1 c2 gsT i) (fun i => t5n_fits n q u z w1 w2 f g R r c1 c2 gsT i)
  | c p => exact go (.c p) (fun i => t5c_into n q u z w1 w2 f g R r c1 c2 gsT p i) (fun i => t5c_fits n q u z w1 w2 f g R r c1 c2 gsT p i)
theorem pt_loop5z (f g : Nat → Int) (R : Nat) (r c1 c2 : Nat → Int) : ComesF Tryz.prog (.loop (ptC 5)) (ptB n q u z w1 w2) (ptH5 n q u z w1 w2 .z f g R r c1 c2 0) fun o => o = (.exit 10, ptX5 n q u z w1 w2 .z f g R r c1 c2) :=
  loop_none (ptRe_ok .z .z .ok) rfl [1, 2, 7, 8, 15, 16, 27, 28] [1, 2, 7, 8, 15, 16] (T := ptT5 n q u z w1 w2 .z f g R r c1 c2 gsT 0) rfl (t5z_into n q u z w1 w2 f g R r c1 c2 gsT) (t5z_fits n q u z w1 w2 f g R r c1 c2 gsT) (sk_ff (sk_leaf rfl))
/-! ### from loop to loop -/
section
variable (kd : KP) (f g : Nat → Int) (R : Nat) (r c1 c2 : Nat → Int)
abbrev G5 (rec : Code → St → Tree (X × St)) : Prop := Leads (CV n q u z w1 w2 2) ((evR rec true ptBody (ptP 5) (.exit 10) (ptX5 n q u z w1 w2 kd f g R r c1 c2)).bind (canO [2, 15, 16, 36, 318, 319, 320] [6] (ptB n q u z w1 w2)))
theorem s5_eq (s : MS) : (evR (ptRe .z .z .ok gsT) true ptBody (ptP 4) (.exit 8) (rangeSt [1, 2, 7, 8, 15, 16] (kM kd + 1) (ptH4 n q u z w1 w2 kd f g R r c1 c2 s))).bind (canO [1, 2, 7, 8, 15, 16, 27, 28] [6] (ptB n q u z w1 w2)) = ptS5 n q u z w1 w2 kd f g R r c1 c2 gsT s := by delta ptS5 evO2; rfl
theorem s4_eq (s : MS) : (evR (ptRe .z .z .ok gsT) true ptBody (ptP 3) (.exit 6) (ptXM n q u z w1 w2 kd f g R r c1 c2 s)).bind (canO [1, 2, 7, 8, 15, 16, 18, 175] [6] (ptB n q u z w1 w2)) = ptS4 n q u z w1 w2 kd f g R r c1 c2 gsT s := by delta ptS4 evO2; rfl
theorem s3_eq (s : MS) : (evR (ptRe .z .z .ok gsT) true ptBody (ptP 2) (.exit 4) (ptXM n q u z w1 w2 kd f g R r c1 c2 s)).bind (canO [1, 2, 7, 8, 15, 16, 18, 157, 158, 159] [6] (ptB n q u z w1 w2)) = ptS3 n q u z w1 w2 kd f g R r c1 c2 gsT s := by delta ptS3 evO2; rfl
theorem s2_eq (s : MS) : (evR (ptRe .z .z .ok gsT) true ptBody (ptP 1) (.exit 2) (ptXM n q u z w1 w2 kd f g R r c1 c2 s)).bind (canO [1, 2, 7, 8, 15, 16, 18, 146, 147, 148] [6] (ptB n q u z w1 w2)) = ptS2 n q u z w1 w2 kd f g R r c1 c2 gsT s := by delta ptS2 evO2; rfl
/-- from the first loop that counts on -/
theorem lead1 (M : Nat) (t : Nat → Int) (s0 s1 s2 s3 : MS) (h0 : ∀ x, s3.f x = 0) {rec : Code → St → Tree (X × St)} (hrec : RecOk Tryz.prog rec) (h6 : G5 n q u z w1 w2 kd f g R r c1 c2 rec)
    (l1 : ComesF Tryz.prog (.loop (ptC 1)) (ptB n q u z w1 w2) (ptH1 n q u z w1 w2 kd f g R r c1 c2 M t s0 0) fun o => o = (.exit 2, ptXM n q u z w1 w2 kd f g R r c1 c2 s1))
    (l2 : ComesF Tryz.prog (.loop (ptC 2)) (ptB n q u z w1 w2) (ptH2 n q u z w1 w2 kd f g R r c1 c2 s1 0) fun o => o = (.exit 4, ptXM n q u z w1 w2 kd f g R r c1 c2 s2))
    (l3 : ComesF Tryz.prog (.loop (ptC 3)) (ptB n q u z w1 w2) (ptH3 n q u z w1 w2 kd f g R r c1 c2 s2 0) fun o => o = (.exit 6, ptXM n q u z w1 w2 kd f g R r c1 c2 s3))
    (l5 : ComesF Tryz.prog (.loop (ptC 5)) (ptB n q u z w1 w2) (ptH5 n q u z w1 w2 kd f g R r c1 c2 0) fun o => o = (.exit 10, ptX5 n q u z w1 w2 kd f g R r c1 c2)) :
    CV n q u z w1 w2 7 (.inr (ptP 1, ptH1 n q u z w1 w2 kd f g R r c1 c2 M t s0 0)) := by
  refine ⟨_, true, ptRe .z .z .ok gsT, [1, 2, 7, 8, 15, 16, 18, 146, 147, 148], [6], ptRe_ok .z .z .ok, l1, fun o ho => ?_⟩
  subst ho
  refine leads_in (s2_eq n q u z w1 w2 kd f g R r c1 c2 s1) (s2_into n q u z w1 w2 kd f g R r c1 c2 gsT s1) (s2_fits n q u z w1 w2 kd f g R r c1 c2 gsT s1) (sk_leaf ?_)
  refine ⟨_, true, ptRe .z .z .ok gsT, [1, 2, 7, 8, 15, 16, 18, 157, 158, 159], [6], ptRe_ok .z .z .ok, l2, fun o ho => ?_⟩
  subst ho
  refine leads_in (s3_eq n q u z w1 w2 kd f g R r c1 c2 s2) (s3_into n q u z w1 w2 kd f g R r c1 c2 gsT s2) (s3_fits n q u z w1 w2 kd f g R r c1 c2 gsT s2) (sk_leaf ?_)
  refine ⟨_, true, ptRe .z .z .ok gsT, [1, 2, 7, 8, 15, 16, 18, 175], [6], ptRe_ok .z .z .ok, l3, fun o ho => ?_⟩
  subst ho
  refine leads_in (s4_eq n q u z w1 w2 kd f g R r c1 c2 s3) (s4_into n q u z w1 w2 kd f g R r c1 c2 gsT s3) (s4_fits n q u z w1 w2 kd f g R r c1 c2 gsT s3) (sk_leaf ?_)
  refine ⟨_, true, ptRe .z .z .ok gsT, [1, 2, 7, 8, 15, 16, 27, 28], [6], ptRe_ok .z .z .ok, pt_loop4 n q u z w1 w2 kd f g R r c1 c2 s3 h0, fun o ho => ?_⟩
  subst ho
  refine leads_in (s5_eq n q u z w1 w2 kd f g R r c1 c2 s3) (s5_into n q u z w1 w2 kd f g R r c1 c2 gsT s3) (s5_fits n q u z w1 w2 kd f g R r c1 c2 gsT s3) (sk_leaf ?_)
  refine ⟨_, true, rec, [2, 15, 16, 36, 318, 319, 320], [6], hrec, l5, fun o ho => ?_⟩
  subst ho
  exact h6
end
/-! ### the map -/
theorem map_zero {z : Nat → Int} (hb : Bd n z) (hn : n ≤ 24) : ∀ x, (itM2 (rfX n z).2.2.1 (rfX n z).2.2.2 (itM dnI (rfX n z).1.2 (itM upI (turQ n z).2 emptyM (turQ n z).1) (rfX n z).1.1) (rfX n z).2.1).f x = 0 := by
  have hl := rest_le hb
  have hM := turQ_le n z
  have e1 : ∀ y, (itM upI (turQ n z).2 emptyM (turQ n z).1).f y = cntI y (his (turQ n z).2 (turQ n z).1) ∧ (0 ≤ cntI y (his (turQ n z).2 (turQ n z).1) ∧ cntI y (his (turQ n z).2 (turQ n z).1) ≤ ((turQ n z).1 : Int)) := fun y => by
    obtain ⟨a, b, c⟩ := itM_up (turQ n z).2 emptyM (fun y => by show -100000 ≤ (0 : Int) ∧ (0 : Int) ≤ 100000; omega) y (turQ n z).1 (by omega)
    refine ⟨?_, b, c⟩
    rw [a]
    show (0 : Int) + _ = _
    omega
  have e2 : ∀ y, (itM dnI (rfX n z).1.2 (itM upI (turQ n z).2 emptyM (turQ n z).1) (rfX n z).1.1).f y = cntI y (his (turQ n z).2 (turQ n z).1) - cntI y (his (rfX n z).1.2 (rfX n z).1.1) ∧ (0 ≤ cntI y (his (rfX n z).1.2 (rfX n z).1.1) ∧ cntI y (his (rfX n z).1.2 (rfX n z).1.1) ≤ ((rfX n z).1.1 : Int)) := fun y => by
    obtain ⟨a, b, c⟩ := itM_dn (rfX n z).1.2 (itM upI (turQ n z).2 emptyM (turQ n z).1) (fun y => by have := e1 y; omega) y (rfX n z).1.1 (by omega)
    refine ⟨?_, b, c⟩
    rw [a, (e1 y).1]
  intro x
  obtain ⟨a, _⟩ := itM2_dn (rfX n z).2.2.1 (rfX n z).2.2.2 (itM dnI (rfX n z).1.2 (itM upI (turQ n z).2 emptyM (turQ n z).1) (rfX n z).1.1) (fun y => by have := e1 y; have := e2 y; omega) (rfX n z).2.1 (by omega) x
  rw [a, (e2 x).1]
  exact count_zero hb x
/-! ### the turns, the cycles and the rest -/
theorem s1_eq (a : KL) (f g : Nat → Int) (k : Nat) : (evR (ptRe a .z .ok gsT) true ptBody (ptP 0) (.exit 0) (ptX0 n q u z w1 w2 k f g)).bind (canO [1, 2, 7, 8, 15, 16, 18, 135, 136, 137] [6] (ptB n q u z w1 w2)) = ptS1 n q u z w1 w2 f g a gsT k := by delta ptS1 evO2; rfl
theorem s1z_eq (f g : Nat → Int) : (evR (ptReZ gsT) true ptBody (ptP 0) (.exit 0) (ptX0 n q u z w1 w2 0 f g)).bind (canO [1, 2, 7, 8, 15, 16, 18, 135, 136, 137] [6] (ptB n q u z w1 w2)) = ptS1z n q u z w1 w2 f g gsT := by delta ptS1z evO2; rfl
end
section
variable (k q : Nat) (u : Int) (z w1 w2 : Nat → Int)
theorem s1S_ok (hn : k + 1 ≤ 24) (kd : KP) (K : Nat) (hK : (rfX (k + 1) (hS z (k + 1))).2.1 = K) {p : (X × St) ⊕ (List Bool × St) → Prop}
    (h : p (.inr (ptP 1, ptH1 (k + 1) q u z w1 w2 kd (hS z (k + 1)) (mS z (k + 1)) (rfX (k + 1) (hS z (k + 1))).1.1 (rfX (k + 1) (hS z (k + 1))).1.2 (rfX (k + 1) (hS z (k + 1))).2.2.1 (rfX (k + 1) (hS z (k + 1))).2.2.2 (turQ (k + 1) (hS z (k + 1))).1 (turQ (k + 1) (hS z (k + 1))).2 emptyM 0))) :
    SkLeads p (s1S (k + 1) q u z w1 w2 gsT k (hS z (k + 1)) (mS z (k + 1)) K kd) := by
  have hb := hS_bd z (k + 1)
  have hl := rest_le hb
  have hR := rain_len hb
  have hM := turQ_le (k + 1) (hS z (k + 1))
  have hM1 := turQ_pos (k + 1) (hS z (k + 1)) (by omega)
  have hbM : Bd (turQ (k + 1) (hS z (k + 1))).1 (turQ (k + 1) (hS z (k + 1))).2 := tur_in hb
  have tt := tur_tur (n := k + 1) (z := hS z (k + 1))
  rw [hK] at hl hR
  unfold s1S
  simp only [gsT]
  refine sk_need (xAp_o (by omega)) (sk_need (xHi_o (by omega) hb) (sk_ff (sk_need (xTu_o (by omega) (by omega)) (sk_need (xAp_o (by omega)) (sk_need (xHi_o (by omega) hbM) (sk_ff (sk_need (xTu_o hM1 (by omega)) (sk_need (xAp_o (by omega)) (sk_need (xRp_o (by omega) (by omega) hb hK) (sk_ff (sk_ff (sk_ff (sk_need (xS_o (by omega) tt.1 tt.2) (sk_ff (sk_no (dec_f (by omega)) (sk_no (bneI ?_) (sk_leaf h)))))))))))))))))
  have e1 : IntKind.i64.wrap (2 * (K : Int)) = 2 * (K : Int) := wrap_id (by omega) (by omega)
  rw [e1]
  exact (wrap_id (by omega) (by omega)).trans (by omega)
end
section
variable (n q : Nat) (u : Int) (z w1 w2 : Nat → Int)
/-- from the first loop's end on -/
theorem lead0 (hn : n ≤ 24) (hu : 0 ≤ u ∧ u ≤ 255) (hq : clsE q w1 w2 = 0) : ∃ rec, RecOk Tryz.prog rec ∧ Leads (CV n q u z w1 w2 7) ((evR rec true ptBody (ptP 0) (.exit 0) (ptX0 n q u z w1 w2 n (hS z n) (mS z n))).bind (canO [1, 2, 7, 8, 15, 16, 18, 135, 136, 137] [6] (ptB n q u z w1 w2))) := by
  have hb := hS_bd z n
  have hl := rest_le hb
  have hM := turQ_le n (hS z n)
  cases n with
  | zero =>
    refine ⟨_, ptReZ_ok, leads_in (s1z_eq 0 q u z w1 w2 _ _) (s1z_into 0 q u z w1 w2 gsT _ _ 0 zr zr zr 0 zr) (s1z_fits 0 q u z w1 w2 gsT _ _ 0 zr zr zr 0 zr) ?_⟩
    refine sk_ff (sk_ff (sk_ff (sk_ff (sk_ff (sk_ff (sk_leaf (lead1 0 q u z w1 w2 .z _ _ 0 zr zr zr 0 zr emptyM emptyM emptyM emptyM (fun _ => rfl) ptReZ_ok ?_ (pt_loop1z 0 q u z w1 w2 _ _ 0 zr zr zr 0 zr emptyM) (pt_loop2z 0 q u z w1 w2 _ _ 0 zr zr zr emptyM) (pt_loop3z 0 q u z w1 w2 _ _ 0 zr zr zr emptyM) (pt_loop5z 0 q u z w1 w2 _ _ 0 zr zr zr))))))))
    refine leads_in (s6z_eq 0 q u z w1 w2 _ _ 0 zr zr zr) (s6Z_into 0 q u z w1 w2 _ _ 0 zr zr zr gsT zr zr) (s6Z_fits 0 q u z w1 w2 _ _ 0 zr zr zr gsT zr zr) ?_
    refine sk_ff (sk_ff (sk_ff (sk_ff (sk_ff (sk_tt (sk_tt (sk_tt (sk_ff (sk_ff (sk_ff (sk_ff (sk_leaf ⟨_, true, ptRe7 (k7 .z) .z .z gsT, [2, 43, 49, 411, 412, 413], [6], ptRe7_ok _ _ _, pt_loop6x 0 q u z w1 w2 .z 0 zr zr zr zr zr (fun p e => by cases e), fun o ho => ?_⟩))))))))))))
    subst ho
    exact lead7z 0 q u z w1 w2 0 zr zr zr zr zr hq
  | succ k =>
    have cm : ∀ i, i + 3 < (rfX (k + 1) (hS z (k + 1))).1.1 → _ := fun i hi => rest_calm hb i hi
    have rb := rest_bd hb
    have m0 := map_zero (k + 1) hb hn
    cases hK : (rfX (k + 1) (hS z (k + 1))).2.1 with
    | zero =>
      rw [hK] at m0
      obtain ⟨rec, hrec, h6⟩ := lead6n (k + 1) q u z w1 w2 hn (by omega) hu hq hK
      refine ⟨_, ptRe_ok (.ok 0) .z .ok, leads_in (s1_eq (k + 1) q u z w1 w2 (.ok 0) _ _ (k + 1)) (s1n_into q u z w1 w2 gsT k _ _) (s1n_fits q u z w1 w2 gsT k _ _) (s1S_ok k q u z w1 w2 hn .n 0 hK ?_)⟩
      exact lead1 (k + 1) q u z w1 w2 .n _ _ _ _ _ _ _ _ emptyM _ _ _ m0 hrec h6 (pt_loop1 (k + 1) q u z w1 w2 .n _ _ _ _ _ _ _ _ emptyM (by omega) (fun e => by cases e)) (pt_loop2 (k + 1) q u z w1 w2 .n _ _ _ _ _ _ _ (by omega) (fun e => by cases e)) (pt_loop3n (k + 1) q u z w1 w2 _ _ _ _ _ _ _) (pt_loop5 (k + 1) q u z w1 w2 .n (fun e => by cases e) _ _ _ _ _ _ (by omega) rb cm)
    | succ p =>
      rw [hK] at m0 hl
      obtain ⟨rec, hrec, h6⟩ := lead6c (k + 1) q u z w1 w2 hn (by omega) hu hq p hK
      refine ⟨_, ptRe_ok (.ok (p + 1)) .z .ok, leads_in (s1_eq (k + 1) q u z w1 w2 (.ok (p + 1)) _ _ (k + 1)) (s1c_into q u z w1 w2 gsT k _ _ p) (s1c_fits q u z w1 w2 gsT k _ _ p) (s1S_ok k q u z w1 w2 hn (.c p) (p + 1) hK ?_)⟩
      exact lead1 (k + 1) q u z w1 w2 (.c p) _ _ _ _ _ _ _ _ emptyM _ _ _ m0 hrec h6 (pt_loop1 (k + 1) q u z w1 w2 (.c p) _ _ _ _ _ _ _ _ emptyM (by omega) (fun e => by cases e)) (pt_loop2 (k + 1) q u z w1 w2 (.c p) _ _ _ _ _ _ _ (by omega) (fun e => by cases e)) (pt_loop3 (k + 1) q u z w1 w2 _ _ _ _ _ _ p _ (by omega)) (pt_loop5 (k + 1) q u z w1 w2 (.c p) (fun e => by cases e) _ _ _ _ _ _ (by omega) rb cm)
theorem ptO_eq (c : KC) : evO (ptRe .z .z c gsT) ptBody [1, 2, 7, 8, 61, 62, 63] [6] (ptB n q u z w1 w2) = ptO n q u z w1 w2 c gsT := by delta ptO; rfl
/-- the law -/
theorem pt_call (hu : 0 ≤ u ∧ u ≤ 255) : CallAt Tryz.prog 7 (ptArgs n q u) (ptHp n q z w1 w2) (boo true) (ptHp n q z w1 w2) := by
  have hbase : ptB n q u z w1 w2 = st0 Tryz.f7 (ptArgs n q u) (ptHp n q z w1 w2) (false, true) := by kernel_rfl
  by_cases hq : clsE q w1 w2 = 0
  · refine call_baseV (rec := ptRe .z .z .ok gsT) (ptRe_ok .z .z .ok) (c := ptBody) (fn := Tryz.f7) Tryz.func7 (by kernel_rfl) (by kernel_rfl) (false, true) 8 [1, 2, 7, 8, 61, 62, 63] [6] hbase (ptO_eq n q u z w1 w2 .ok) (ptO_into n q u z w1 w2 gsT) (ptO_fits n q u z w1 w2 gsT) ?_
    refine sk_either (fun _ => sk_tt (lfT_ok n q u z w1 w2 8)) fun g => ?_
    have hn : n ≤ 24 := by simp only [decide_eq_false_iff_not] at g; omega
    obtain ⟨rec, hrec, hl⟩ := lead0 n q u z w1 w2 hn hu hq
    refine sk_need (and_ok (okN_ok q) (beqI hq)) (sk_ff (sk_leaf ⟨_, true, rec, [1, 2, 7, 8, 15, 16, 18, 135, 136, 137], [6], hrec, pt_loop0 n q u z w1 w2 (by omega), fun o ho => ?_⟩))
    subst ho
    exact hl
  · have hpos : 0 ≤ clsE q w1 w2 := by
      have nn : ∀ (a lo hi : Int), 0 ≤ wW a lo hi := fun a lo hi => by unfold wW errIf; split <;> omega
      have en : ∀ {b : Bool} {e : Int}, 0 ≤ e → 0 ≤ errIf b e := fun h => by unfold errIf; split <;> omega
      have fn : ∀ l : List Int, (∀ x ∈ l, 0 ≤ x) → 0 ≤ firstZ l := fun l => by
        induction l with
        | nil => intro _; exact Int.le_refl _
        | cons x l ih =>
          intro h
          unfold firstZ
          split
          · exact h x List.mem_cons_self
          · exact ih fun y hy => h y (List.mem_cons_of_mem _ hy)
      have zn : ∀ {g : Nat → Int}, (∀ i, 0 ≤ g i) → ∀ (n k : Nat), 0 ≤ (fnz g n k).getD 0 := fun {g} h n => by
        induction n with
        | zero => intro k; exact Int.le_refl _
        | succ n ih =>
          intro k
          unfold fnz
          split
          · exact h k
          · exact ih (k + 1)
      unfold clsE
      split
      · unfold cheadE
        refine fn _ fun x hx => ?_
        simp only [List.mem_cons, List.not_mem_nil, or_false] at hx
        rcases hx with rfl | rfl <;> exact en (by omega)
      · refine zn (fun i => fn _ fun x hx => ?_) _ _
        simp only [List.mem_cons, List.not_mem_nil, or_false] at hx
        rcases hx with rfl | rfl | rfl
        · exact nn _ _ _
        · exact nn _ _ _
        · exact en (by omega)
    obtain ⟨v, hv⟩ : ∃ v : Nat, clsE q w1 w2 = ((v + 1 : Nat) : Int) := ⟨(clsE q w1 w2).toNat - 1, by omega⟩
    refine call_baseV (rec := ptRe .z .z (.bad v) gsT) (ptRe_ok .z .z (.bad v)) (c := ptBody) (fn := Tryz.f7) Tryz.func7 (by kernel_rfl) (by kernel_rfl) (false, true) 0 [1, 2, 7, 8, 61, 62, 63] [6] hbase (ptO_eq n q u z w1 w2 (.bad v)) (ptOb_into n q u z w1 w2 v gsT) (ptOb_fits n q u z w1 w2 v gsT) ?_
    exact sk_either (fun _ => sk_tt (lfT_ok n q u z w1 w2 0)) fun _ => sk_need (and_ok (okN_ok q) (beqI hv)) (sk_tt (lfT_ok n q u z w1 w2 0))
end
end Go.Ev
