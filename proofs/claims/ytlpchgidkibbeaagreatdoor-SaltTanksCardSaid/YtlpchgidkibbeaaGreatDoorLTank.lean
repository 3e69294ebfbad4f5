/- SaltTanks: the law says true for every tank, index and share. Conditions: none. (Printed by gen_ltank2.py.) -/
import Derived.Test.YtlpchgidkibbeaaGreatDoorLTank2
namespace Go.Ev
open Go Go.Proofs
set_option maxRecDepth 100000

theorem isV_self (n : Nat) (room : Int) (a h : Nat → Int) : isV n n room room 0 a h a h = true := sameT_self n room a h
theorem isN_self (room : Int) : isN room room 0 0 = true := sameT_self 0 room zzI zzI
section
variable {k : Nat} {room index x0 x1 : Int} {z1 z2 : Nat → Int} {B : Bool} {c c1 : Int} {c2 : Option Int}
abbrev LtP (n : Nat) (z1 z2 : Nat → Int) : LtO → Prop := isTrueL (hpL1 n (tkC z1 z2))
theorem lChk_ok {p} {S : SkL} (h1 : wW x1 1 1000 = c1) (h2 : ∀ d, c2 = some d → wW x0 0 x1 = d) (hs : SkLeads p S) : SkLeads p (lChk x0 x1 c1 c2 S) := by
  unfold lChk
  refine sk_need (by rw [h1]; exact beq_self_eq_true c1) ?_
  cases c2 with
  | none => exact hs
  | some d => exact sk_need (by rw [h2 d rfl]; exact beq_self_eq_true d) hs
theorem lLow_ok {p} {S : SkL} (hT : tankE (k + 1) room z1 z2 = 0) (hB : inR (k + 1) index = true) (hs : SkLeads p S) : SkLeads p (lLow k index z1 z2 S) := by
  have hB2 := hB
  simp only [inR, Bool.and_eq_true, decide_eq_true_eq] at hB2
  obtain ⟨i, rfl⟩ : ∃ i : Nat, index = (i : Int) := ⟨index.toNat, by omega⟩
  have hi : i < k + 1 := by omega
  obtain ⟨b1, b2, b3⟩ := rnd_lt hi
  obtain ⟨⟨c1, c2⟩, c3, c4⟩ := tank_rows hT i hi
  obtain ⟨d1, d2⟩ := euc_gcd1 c3 c1
  unfold lLow lNum lDen
  rw [idx_nat]
  rw [idx_nat] at b3
  refine sk_need b2 (sk_need b3 (sk_need b2 (sk_need b3 (sk_nn (sk_need ?_ (sk_need ?_ (sk_need ?_ hs)))))))
  · rw [show decide (z1 i < 0) = false by simp only [decide_eq_false_iff_not]; omega]; rfl
  · unfold in63
    simp only [Bool.and_eq_true, decide_eq_true_eq]
    omega
  · rw [← d1]; simpa using d2
theorem lCmp_ok {E : SkL} (hs : SkLeads (LtP (k + 1) z1 z2) E) : SkLeads (LtP (k + 1) z1 z2) (lCmp k room index z1 z2 B E) := by
  unfold lCmp
  refine sk_tt (sk_yes (beq_self_eq_true _) (sk_tt (sk_yes (beq_self_eq_true _) (sk_tt ?_))))
  have hm : SkLeads (LtP (k + 1) z1 z2) (.tt (.node (lMix k room z1 z2) E (.ff (.ff (lF (k + 1) z1 z2))))) := sk_tt (sk_yes (isV_self 1 room _ _) hs)
  unfold lRatS
  cases B with
  | true => exact sk_tt hm
  | false => exact sk_yes (by unfold lRat; simp) hm
theorem lEnd0_ok (hk : k + 1 ≤ 17) : SkLeads (LtP (k + 1) z1 z2) (lEnd0 k room x0 x1 z1 z2 togS) := by
  unfold lEnd0
  have h1 : (lC k x0 x1 z1 z2 togS).1 ≤ k + 1 := (togS_bd z1 (coolH z2 x0 x1) (k + 1)).1
  exact sk_need (ok2_ok _ _) (sk_need (ble_lit (by omega)) (sk_yes (isV_self _ room _ _) (sk_yes (beq_self_eq_true _) (sk_leaf rfl))))
theorem lTail_ok (hk : k + 1 ≤ 17) (hT : tankE (k + 1) room z1 z2 = 0) (hB : inR (k + 1) index = !B) (hx : (c == 0) = true → (!(x1 == 0)) = true) : SkLeads (LtP (k + 1) z1 z2) (lTail k room index x0 x1 z1 z2 togS B c) := by
  have hm : ∀ {S : SkL}, SkLeads (LtP (k + 1) z1 z2) S → SkLeads (LtP (k + 1) z1 z2) (lM k S) := fun hs => sk_need (okN_ok _) (sk_need (ble_lit (by omega)) hs)
  have nN : ∀ {S : SkL}, SkLeads (LtP (k + 1) z1 z2) S → SkLeads (LtP (k + 1) z1 z2) (ltN1 0 k room z1 z2 S) := fun hs => ltN1_ok 0 k room z1 z2 hk hT hs
  have gG : ∀ {S : SkL}, SkLeads (LtP (k + 1) z1 z2) S → SkLeads (LtP (k + 1) z1 z2) (ltG1 k S) := fun hs => ltG1_ok k hk hs
  have h5 : SkLeads (LtP (k + 1) z1 z2) (lFive k room index x0 x1 z1 z2 togS B c) := by
    unfold lFive
    cases hc : c == 0 with
    | true => exact sk_tt (sk_nn (sk_nn (sk_need (okN_ok _) (sk_need (ble_lit (by omega)) (sk_need (hx hc) (gG (nN (lCmp_ok (lEnd0_ok hk)))))))))
    | false => exact sk_ff (gG (nN (lCmp_ok (sk_tt (sk_tt (sk_leaf rfl))))))
  unfold lTail
  refine hm (hm (sk_need (okN_ok _) (sk_need (ble_lit hk) ?_)))
  unfold lThree
  cases B with
  | true => exact sk_ff h5
  | false => exact sk_tt (lLow_ok hT hB h5)
theorem lS1_ok (hT : tankE (k + 1) room z1 z2 = 0) (hB' : inR (k + 1) index = !B) (hC' : cpEe 0 x0 x1 = c) (h1 : wW x1 1 1000 = c1) (h2 : ∀ d, c2 = some d → wW x0 0 x1 = d) (hx : (c == 0) = true → (!(x1 == 0)) = true) :
    SkLeads (LtP (k + 1) z1 z2) (lS1 k room index x0 x1 z1 z2 togS B c c1 c2) := by
  refine sk_either (fun _ => sk_leaf rfl) fun hk => ?_
  have hk : k + 1 ≤ 17 := by simp only [decide_eq_false_iff_not] at hk; omega
  have nN : ∀ {S : SkL}, SkLeads (LtP (k + 1) z1 z2) S → SkLeads (LtP (k + 1) z1 z2) (ltN1 0 k room z1 z2 S) := fun hs => ltN1_ok 0 k room z1 z2 hk hT hs
  have gG : ∀ {S : SkL}, SkLeads (LtP (k + 1) z1 z2) S → SkLeads (LtP (k + 1) z1 z2) (ltG1 k S) := fun hs => ltG1_ok k hk hs
  have nS : ∀ {S : SkL}, SkLeads (LtP (k + 1) z1 z2) S → SkLeads (LtP (k + 1) z1 z2) (lNs k S) := fun hs => sk_need (okN_ok _) (sk_need (ble_lit hk) hs)
  have nM : ∀ {S : SkL}, SkLeads (LtP (k + 1) z1 z2) S → SkLeads (LtP (k + 1) z1 z2) (lNM k room z1 z2 S) := fun hs => sk_need (okN_ok _) (sk_need (ble_lit hk) (sk_need (by rw [hT]; rfl) hs))
  have hB : (inR (k + 1) index == !B) = true := by rw [hB']; exact beq_self_eq_true _
  have hC : (cpEe 0 x0 x1 == c) = true := by rw [hC']; exact beq_self_eq_true _
  have ht := lTail_ok (x0 := x0) hk hT hB' hx
  refine gG (nN (sk_ff (nS (gG (nN (sk_ff (nS (gG (nN (sk_need hB (gG (nM (sk_nn (sk_nn (gG (nN (sk_need hC (nN (sk_either (fun i0 => ?_) fun i0 => ?_)))))))))))))))))))
  · unfold lB1
    refine ttN_ok ?_ 4
    cases B with
    | true => exact nnN_ok (lChk_ok h1 h2 (sk_tt ht)) 5
    | false =>
      simp only [inR, Bool.not_false, Bool.and_eq_true, decide_eq_true_eq] at hB' i0
      omega
  · unfold lB2
    refine ffN_ok (nnN_ok (sk_need ?_ (lChk_ok h1 h2 (sk_tt ht))) 3) 4
    simp only [decide_eq_false_iff_not] at i0
    cases B with
    | true =>
      simp only [inR, Bool.not_true, Bool.and_eq_false_iff, decide_eq_false_iff_not] at hB'
      rw [show decide (index ≥ ((k + 1 : Nat) : Int)) = true by simp only [decide_eq_true_eq]; omega]; rfl
    | false =>
      simp only [inR, Bool.not_false, Bool.and_eq_true, decide_eq_true_eq] at hB'
      rw [show decide (index ≥ ((k + 1 : Nat) : Int)) = false by simp only [decide_eq_false_iff_not]; omega]; rfl
theorem zS_ok (hT' : tankE 0 room z1 z2 = 0) (hC' : cpEe 0 x0 x1 = c) (h1 : wW x1 1 1000 = c1) (h2 : ∀ d, c2 = some d → wW x0 0 x1 = d) (hx : (c == 0) = true → (!(x1 == 0)) = true) :
    SkLeads (LtP 0 z1 z2) (zS room index x0 x1 z1 z2 c c1 c2) := by
  have n0 : ∀ {S : SkL}, SkLeads (LtP 0 z1 z2) S → SkLeads (LtP 0 z1 z2) (ltN0 0 room z1 z2 S) := fun hs => ltN0_ok 0 room z1 z2 hT' hs
  have hT : (false || tankE 0 room z1 z2 == 0) = true := by rw [hT']; rfl
  have hB : (inR 0 index == !true) = true := by
    have : inR 0 index = false := by
      simp only [inR, Bool.and_eq_false_iff, decide_eq_false_iff_not]
      omega
    rw [this]; rfl
  have hC : (cpEe 0 x0 x1 == c) = true := by rw [hC']; exact beq_self_eq_true _
  have l0 : SkLeads (LtP 0 z1 z2) (ltL 0 z1 z2) := sk_leaf rfl
  have h5 : SkLeads (LtP 0 z1 z2) (.tt (.ff (zFive room x1 z1 z2 c))) := by
    refine sk_tt (sk_ff ?_)
    unfold zFive
    cases hc : c == 0 with
    | true => exact sk_tt (nnN_ok (sk_need (hx hc) (sk_tt (n0 (ttN_ok (sk_yes (isN_self room) (sk_tt l0)) 8)))) 4)
    | false => exact sk_ff (sk_tt (n0 (ttN_ok l0 10)))
  refine sk_ff (sk_tt (n0 (sk_ff (sk_tt (n0 (sk_ff (sk_tt (n0 (sk_need hB (sk_tt (sk_nn (sk_nn (sk_need hT (sk_tt (n0 (sk_need hC (n0 (sk_either (fun i0 => ?_) fun i0 => ?_))))))))))))))))))
  · unfold zB1
    exact ttN_ok (nnN_ok (lChk_ok h1 h2 h5) 5) 4
  · unfold zB2
    refine ffN_ok (nnN_ok (sk_need ?_ (lChk_ok h1 h2 h5)) 3) 4
    simp only [decide_eq_false_iff_not] at i0
    rw [show decide (index ≥ ((0 : Nat) : Int)) = true by simp only [decide_eq_true_eq]; omega]; rfl
end
theorem lt_whole2 {n : Nat} {room index x0 x1 : Int} {z1 z2 : Nat → Int} {B : Bool} {c c1 : Int} {c2 : Option Int} {S : SkL} (h1 : lT room index x0 x1 z1 z2 togS B c c1 c2 n = into (lT room index x0 x1 z1 z2 togS B c c1 c2 n) S) (h2 : fits (lT room index x0 x1 z1 z2 togS B c c1 c2 n) S = true) (h3 : SkLeads (LtP n z1 z2) S) :
    CallAt Tryz.prog 5 (ltA n room index x0 x1) (hpL1 n (tkC z1 z2)) (boo true) (hpL1 n (tkC z1 z2)) :=
  call_sk (tbM_ok B c c1 c2) Tryz.func5 (by kernel_rfl) (false, true) (by kernel_rfl) h1 h2 h3.all
theorem cpEe_cases (x0 x1 : Int) : (cpEe 0 x0 x1 = 0 ∧ wW x1 1 1000 = 0 ∧ wW x0 0 x1 = 0) ∨ (cpEe 0 x0 x1 = 3 ∧ wW x1 1 1000 = 0 ∧ wW x0 0 x1 = 3) ∨ (cpEe 0 x0 x1 = 3 ∧ wW x1 1 1000 = 3) := by
  have hw : ∀ a lo hi, wW a lo hi = 0 ∨ wW a lo hi = 3 := fun a lo hi => by unfold wW errIf; split <;> simp
  unfold cpEe
  rcases hw x1 1 1000 with h | h <;> rcases hw x0 0 x1 with h' | h' <;> rw [h, h'] <;> simp [firstZ]
theorem tanks_call (n : Nat) (z1 z2 : Nat → Int) (room index x0 x1 : Int) : CallAt Tryz.prog 5 [tankA room n, int index, .agg [ci x0, ci x1]] (hpL1 n (tkC z1 z2)) (boo true) (hpL1 n (tkC z1 z2)) := by
  by_cases hT : tankE n room z1 z2 = 0
  · have hx : cpEe 0 x0 x1 = 0 → wW x1 1 1000 = 0 → (!(x1 == 0)) = true := fun _ h => by
      obtain ⟨h, _⟩ := wW0 h
      have : x1 ≠ 0 := by omega
      simpa using this
    have h3 : ((3 : Int) == 0) = true → (!(x1 == 0)) = true := fun h => by cases h
    have hs : ∀ {a : Int}, wW x0 0 x1 = a → ∀ d, some a = some d → wW x0 0 x1 = d := fun h d e => by injection e with e; rw [h, e]
    have hn : ∀ d, (none : Option Int) = some d → wW x0 0 x1 = d := fun d e => by cases e
    cases n with
    | zero =>
      rcases cpEe_cases x0 x1 with ⟨e1, e2, e3⟩ | ⟨e1, e2, e3⟩ | ⟨e1, e2⟩
      · exact lt_whole2 (z_into_a room index x0 x1 z1 z2 togS) (z_fits_a room index x0 x1 z1 z2 togS) (zS_ok hT e1 e2 (hs e3) fun _ => hx e1 e2)
      · exact lt_whole2 (z_into_b room index x0 x1 z1 z2 togS) (z_fits_b room index x0 x1 z1 z2 togS) (zS_ok hT e1 e2 (hs e3) h3)
      · exact lt_whole2 (z_into_c room index x0 x1 z1 z2 togS) (z_fits_c room index x0 x1 z1 z2 togS) (zS_ok hT e1 e2 hn h3)
    | succ k =>
      cases hB : inR (k + 1) index with
      | false =>
        rcases cpEe_cases x0 x1 with ⟨e1, e2, e3⟩ | ⟨e1, e2, e3⟩ | ⟨e1, e2⟩
        · exact lt_whole2 (l_into_a k room index x0 x1 z1 z2 togS) (l_fits_a k room index x0 x1 z1 z2 togS) (lS1_ok hT hB e1 e2 (hs e3) fun _ => hx e1 e2)
        · exact lt_whole2 (l_into_b k room index x0 x1 z1 z2 togS) (l_fits_b k room index x0 x1 z1 z2 togS) (lS1_ok hT hB e1 e2 (hs e3) h3)
        · exact lt_whole2 (l_into_c k room index x0 x1 z1 z2 togS) (l_fits_c k room index x0 x1 z1 z2 togS) (lS1_ok hT hB e1 e2 hn h3)
      | true =>
        rcases cpEe_cases x0 x1 with ⟨e1, e2, e3⟩ | ⟨e1, e2, e3⟩ | ⟨e1, e2⟩
        · exact lt_whole2 (l_into_d k room index x0 x1 z1 z2 togS) (l_fits_d k room index x0 x1 z1 z2 togS) (lS1_ok hT hB e1 e2 (hs e3) fun _ => hx e1 e2)
        · exact lt_whole2 (l_into_e k room index x0 x1 z1 z2 togS) (l_fits_e k room index x0 x1 z1 z2 togS) (lS1_ok hT hB e1 e2 (hs e3) h3)
        · exact lt_whole2 (l_into_f k room index x0 x1 z1 z2 togS) (l_fits_f k room index x0 x1 z1 z2 togS) (lS1_ok hT hB e1 e2 hn h3)
  · exact lt_bad n room index x0 x1 z1 z2 hT
end Go.Ev
