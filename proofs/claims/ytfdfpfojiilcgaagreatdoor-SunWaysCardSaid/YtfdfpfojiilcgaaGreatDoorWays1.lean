/- The loops of SunWays come to their ends. Conditions: what a round asks of the sums. -/
import Derived.Test.YtfdfpfojiilcgaaGreatDoorWays0
namespace Go.Ev
open Go Go.Proofs

section
variable (low : Nat) (e1 e2 : TypeId) (x y z num den ax ay az bx b2 bz m n f1 f2 f3 f4 f5 f6 ln : Int) (M : Bool)
def wi (size : Nat) (k j : Int) : St := wI size (wH low e1 e2 x y z num den ax ay az bx b2 bz m n f1 f2 f3 f4 f5 f6 ln) M k j
def wo (size : Nat) (k : Int) : St := wO size (wH low e1 e2 x y z num den ax ay az bx b2 bz m n f1 f2 f3 f4 f5 f6 ln) M k
/-- what a round asks -/
def wGood (k j : Int) : Prop := z3 (wv k j ax bx) (wv k j ay b2) (wv k j az bz) = false ∧ wErr x y z num den ax ay az bx b2 bz k j = 0 ∧ (wIns x y z num den ax ay az bx b2 bz k j = true → M = true)
variable (hgood : ∀ k j : Int, 0 ≤ k → k < 13 → 0 ≤ j → j < 13 → k + j ≠ 0 → wGood x y z num den ax ay az bx b2 bz M k j)
include hgood
theorem w_inner {k : Int} (hk0 : 0 ≤ k) (hk : k < 13) : Comes Tryz.prog (.loop (loop2 Tryz.f6)) (wi low e1 e2 x y z num den ax ay az bx b2 bz m n f1 f2 f3 f4 f5 f6 ln M Tryz.f6.ntmps k 0)
    fun q => q = (.exit 2, wi low e1 e2 x y z num den ax ay az bx b2 bz m n f1 f2 f3 f4 f5 f6 ln M Tryz.f6.ntmps k 13) := by
  refine comes_loop (fun j : Nat => wi low e1 e2 x y z num den ax ay az bx b2 bz m n f1 f2 f3 f4 f5 f6 ln M Tryz.f6.ntmps k j) (fun j => 13 - j) (fun j => j ≤ 13) _ (fun j hj => ?_) 0 (by decide)
  refine comes_round (recT_ok tb_frame_ok) slotsI (Tree.stay_all ?_)
  have h := w_in low e1 e2 x y z num den ax ay az bx b2 bz m n f1 f2 f3 f4 f5 f6 ln M k j _ rfl
  have hw : w64 ((j : Int) + 1) = ((j + 1 : Nat) : Int) := by rw [w64_id (by omega)]; rfl
  rw [hw] at h
  unfold wi
  rw [h]
  have go : ∀ Φ : X × St → Prop, ((j : Int) < 13 → Φ (.normal, wI Tryz.f6.ntmps (wH low e1 e2 x y z num den ax ay az bx b2 bz m n f1 f2 f3 f4 f5 f6 ln) M k ((j + 1 : Nat) : Int))) → (¬ (j : Int) < 13 → Φ (.exit 2, wI Tryz.f6.ntmps (wH low e1 e2 x y z num den ax ay az bx b2 bz m n f1 f2 f3 f4 f5 f6 ln) M k j)) →
      ((Tree.node (decide ((j : Int) < 13)) (.node (w64 (k + j) == 0) (.leaf (.normal, wI Tryz.f6.ntmps (wH low e1 e2 x y z num den ax ay az bx b2 bz m n f1 f2 f3 f4 f5 f6 ln) M k ((j + 1 : Nat) : Int))) (quad (wStep x y z num den ax ay az bx b2 bz M k j (.leaf (.normal, wI Tryz.f6.ntmps (wH low e1 e2 x y z num den ax ay az bx b2 bz m n f1 f2 f3 f4 f5 f6 ln) M k ((j + 1 : Nat) : Int)))))) (.leaf (.exit 2, wI Tryz.f6.ntmps (wH low e1 e2 x y z num den ax ay az bx b2 bz m n f1 f2 f3 f4 f5 f6 ln) M k j))).stay).All Φ := by
    intro Φ h1 h2
    by_cases hj13 : (j : Int) < 13
    · have next := h1 hj13
      rw [decide_eq_true hj13]
      have hkj : w64 (k + j) = k + j := w64_id (by omega)
      rw [hkj]
      by_cases h0 : k + (j : Int) = 0
      · rw [show (k + (j : Int) == 0) = true by simpa using h0]
        exact next
      · rw [show (k + (j : Int) == 0) = false by simpa using h0]
        obtain ⟨g1, g2, g3⟩ := hgood k j hk0 hk (by omega) hj13 h0
        have step : ((wStep x y z num den ax ay az bx b2 bz M k j (.leaf (.normal, wI Tryz.f6.ntmps (wH low e1 e2 x y z num den ax ay az bx b2 bz m n f1 f2 f3 f4 f5 f6 ln) M k ((j + 1 : Nat) : Int)))).stay).All Φ := by
          unfold wStep
          rw [g1, g2]
          show (Tree.stay (.node (wIns x y z num den ax ay az bx b2 bz k j) (.node (!M) (.fail 0) _) _)).All _
          cases hi : wIns x y z num den ax ay az bx b2 bz k j with
          | true => have hM := g3 hi; rw [hM] at next ⊢; exact next
          | false => exact next
        exact ⟨⟨⟨step, step⟩, step⟩, step⟩
    · rw [decide_eq_false hj13]
      exact h2 hj13
  refine go _ (fun _ => ⟨j + 1, rfl, by omega, by omega⟩) (fun h13 => ?_)
  have : j = 13 := by omega
  subst this
  exact rfl
end
section
variable (low : Nat) (e1 e2 : TypeId) (x y z num den ax ay az bx b2 bz m n f1 f2 f3 f4 f5 f6 ln : Int) (M : Bool) (k : Int)
theorem w_out1 (size : Nat) (hs : size = Tryz.f6.ntmps) : ((evB (recT Tryz.prog (tabOf tb_frame)) (loopF Tryz.f6) { wO size (wH low e1 e2 x y z num den ax ay az bx b2 bz m n f1 f2 f3 f4 f5 f6 ln) M k with hp := wH 7 e1 e2 x y z num den ax ay az bx b2 bz m n f1 f2 f3 f4 f5 f6 ln }).bind
      (roundO slotsI slotsO (wO size (wH low e1 e2 x y z num den ax ay az bx b2 bz m n f1 f2 f3 f4 f5 f6 ln) M k))).slim =
    (Tree.node (decide (k < 13)) (.leaf (.inr (pathOf (loopF Tryz.f6) 0, wI size (wH 7 e1 e2 x y z num den ax ay az bx b2 bz m n f1 f2 f3 f4 f5 f6 ln) M k 0))) (.leaf (.inl (.exit 0, wO size (wH low e1 e2 x y z num den ax ay az bx b2 bz m n f1 f2 f3 f4 f5 f6 ln) M k)))).slim := by
  subst hs
  kernel_rfl
theorem w_out2 (size : Nat) (hs : size = Tryz.f6.ntmps) : ((evR (recT Tryz.prog (tabOf tb_frame)) false (loopF Tryz.f6) (pathOf (loopF Tryz.f6) 0) (.exit 2) (wI size (wH 7 e1 e2 x y z num den ax ay az bx b2 bz m n f1 f2 f3 f4 f5 f6 ln) M k 13)).bind
      (roundO slotsI slotsO (wO size (wH low e1 e2 x y z num den ax ay az bx b2 bz m n f1 f2 f3 f4 f5 f6 ln) M k))).slim =
    .leaf (.inl (.normal, wO size (wH low e1 e2 x y z num den ax ay az bx b2 bz m n f1 f2 f3 f4 f5 f6 ln) M (w64 (k + 1)))) := by
  subst hs
  kernel_rfl
end
section
variable (low : Nat) (e1 e2 : TypeId) (x y z num den ax ay az bx b2 bz m n f1 f2 f3 f4 f5 f6 ln : Int) (M : Bool)
variable (hgood : ∀ k j : Int, 0 ≤ k → k < 13 → 0 ≤ j → j < 13 → k + j ≠ 0 → wGood x y z num den ax ay az bx b2 bz M k j)
include hgood
theorem w_outer : Comes Tryz.prog (.loop (loopF Tryz.f6)) (wo low e1 e2 x y z num den ax ay az bx b2 bz m n f1 f2 f3 f4 f5 f6 ln M Tryz.f6.ntmps 0)
    fun q => q = (.exit 0, wo low e1 e2 x y z num den ax ay az bx b2 bz m n f1 f2 f3 f4 f5 f6 ln M Tryz.f6.ntmps 13) := by
  refine comes_loop (fun k : Nat => wo low e1 e2 x y z num den ax ay az bx b2 bz m n f1 f2 f3 f4 f5 f6 ln M Tryz.f6.ntmps k) (fun k => 13 - k) (fun k => k ≤ 13) _ (fun k hk => ?_) 0 (by decide)
  refine comes_nest (recT_ok tb_frame_ok) slotsI slotsO (Tree.slim_all ?_)
  have h1 := w_out1 low e1 e2 x y z num den ax ay az bx b2 bz m n f1 f2 f3 f4 f5 f6 ln M k _ rfl
  have h2 := w_out2 low e1 e2 x y z num den ax ay az bx b2 bz m n f1 f2 f3 f4 f5 f6 ln M k _ rfl
  have hw : w64 ((k : Int) + 1) = ((k + 1 : Nat) : Int) := by rw [w64_id (by omega)]; rfl
  rw [hw] at h2
  unfold wo
  refine cast (congrArg (Tree.All _) h1.symm) ?_
  by_cases hk13 : (k : Int) < 13
  · rw [decide_eq_true hk13]
    refine ⟨_, w_inner 7 e1 e2 x y z num den ax ay az bx b2 bz m n f1 f2 f3 f4 f5 f6 ln M hgood (by omega) hk13, ?_⟩
    rintro q rfl
    refine Tree.slim_all (cast (congrArg (Tree.All _) h2.symm) ?_)
    exact ⟨k + 1, rfl, by omega, by omega⟩
  · rw [decide_eq_false hk13]
    have : k = 13 := by omega
    subst this
    exact rfl
end
end Go.Ev
