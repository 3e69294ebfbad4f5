/- Sure of the reference as an entry. Conditions: the capacity is not 0, the list is short. (Printed by gen_qsures.py.) -/
import Derived.Test.YtlpchgidkibbeaaGreatDoorSure0
import Derived.Test.YtlpchgidkibbeaaGreatDoorSureS
namespace Go.Ev
open Go Go.Proofs
set_option maxRecDepth 100000

theorem quL_eq : quL = .seq (navC quL [false]) (.seq (.block 1 (.seq (navC quL [true, false, false, false]) (.seq (navC quL [true, false, false, true, false]) (.seq (navC quL [true, false, false, true, true, false]) (navC quL [true, false, false, true, true, true]))))) (navC quL [true, true])) := by kernel_rfl
section
variable (n : Nat) (z0 : Nat → ByteArray) (z1 z2 z3 : Nat → Int) (r0 r1 r2 r3 r4 r5 : Int)
noncomputable def qu1 (s0 : ByteArray) (heat0 : Int) (k : Nat) (s1 : ByteArray) (h1 : Int) (s2 : ByteArray) (h2 : Int) : Tree (X × St) := pieceT (recT Tryz.prog (tabOf tb_tq)) quSl quSx (navC quL [false]) (quB n z0 z1 z2 z3 r0 r1 r2 r3 r4 r5 s0 heat0) (quH n z0 z1 z2 z3 r0 r1 r2 r3 r4 r5 (k : Int) s1 h1 s2 h2)
def qu1S (k : Nat) (s1 : ByteArray) (h1 : Int) (s2 : ByteArray) (h2 : Int) : Sk (X × St) := .node (decide ((k : Int) < (n : Int))) (.leaf (.normal, quH n z0 z1 z2 z3 r0 r1 r2 r3 r4 r5 (k : Int) s1 h1 s2 h2)) (.leaf (.exit 0, quX n z0 z1 z2 z3 s1 h1 s2 h2))
theorem qu1_into (s0 : ByteArray) (heat0 : Int) (k : Nat) (s1 : ByteArray) (h1 : Int) (s2 : ByteArray) (h2 : Int) : qu1 n z0 z1 z2 z3 r0 r1 r2 r3 r4 r5 s0 heat0 k s1 h1 s2 h2 = into (qu1 n z0 z1 z2 z3 r0 r1 r2 r3 r4 r5 s0 heat0 k s1 h1 s2 h2) (qu1S n z0 z1 z2 z3 r0 r1 r2 r3 r4 r5 k s1 h1 s2 h2) := by kernel_rfl
theorem qu1_fits (s0 : ByteArray) (heat0 : Int) (k : Nat) (s1 : ByteArray) (h1 : Int) (s2 : ByteArray) (h2 : Int) : fits (qu1 n z0 z1 z2 z3 r0 r1 r2 r3 r4 r5 s0 heat0 k s1 h1 s2 h2) (qu1S n z0 z1 z2 z3 r0 r1 r2 r3 r4 r5 k s1 h1 s2 h2) = true := by kernel_rfl
noncomputable def qu2 (s0 : ByteArray) (heat0 : Int) (k : Nat) (s1 : ByteArray) (h1 : Int) (s2 : ByteArray) (h2 : Int) : Tree (X × St) := pieceT (recT Tryz.prog (tabOf tb_tq)) quSl1 quSx (navC quL [true, false, false, false]) (quB n z0 z1 z2 z3 r0 r1 r2 r3 r4 r5 s0 heat0) (quH n z0 z1 z2 z3 r0 r1 r2 r3 r4 r5 (k : Int) s1 h1 s2 h2)
def qu2S (k : Nat) (s1 : ByteArray) (h1 : Int) (s2 : ByteArray) (h2 : Int) : Sk (X × St) := .need (decide (0 ≤ (k : Int)) && decide ((k : Int) < (n : Int))) (.need (Nat.blt (0 + Int.toNat (k : Int)) n) (.need (decide (0 ≤ (k : Int)) && decide ((k : Int) < (n : Int))) (.need (Nat.blt (0 + Int.toNat (k : Int)) n) (.need (decide (0 ≤ (k : Int)) && decide ((k : Int) < (n : Int))) (.need (Nat.blt (0 + Int.toNat (k : Int)) n) (.need (qstK ([r0, r1, r2, r3, r4, r5] ++ ([h1] ++ ([z1 (0 + Int.toNat (k : Int)), z3 (0 + Int.toNat (k : Int))] ++ []))) [] [s1, z0 (0 + Int.toNat (k : Int))])
    (.leaf (.normal, quM1 n z0 z1 z2 z3 r0 r1 r2 r3 r4 r5 (k : Int) s1 h1 s2 h2 (qs1 z0 z1 z3 r0 r1 r2 r3 r4 r5 (0 + Int.toNat (k : Int)) s1 h1) (qh1 z0 z1 z3 r0 r1 r2 r3 r4 r5 (0 + Int.toNat (k : Int)) s1 h1) (qe z0 z1 z3 r0 r1 r2 r3 r4 r5 (0 + Int.toNat (k : Int)) s1 h1)))))))))
theorem qu2_into (s0 : ByteArray) (heat0 : Int) (k : Nat) (s1 : ByteArray) (h1 : Int) (s2 : ByteArray) (h2 : Int) : qu2 n z0 z1 z2 z3 r0 r1 r2 r3 r4 r5 s0 heat0 k s1 h1 s2 h2 = into (qu2 n z0 z1 z2 z3 r0 r1 r2 r3 r4 r5 s0 heat0 k s1 h1 s2 h2) (qu2S n z0 z1 z2 z3 r0 r1 r2 r3 r4 r5 k s1 h1 s2 h2) := by kernel_rfl
theorem qu2_fits (s0 : ByteArray) (heat0 : Int) (k : Nat) (s1 : ByteArray) (h1 : Int) (s2 : ByteArray) (h2 : Int) : fits (qu2 n z0 z1 z2 z3 r0 r1 r2 r3 r4 r5 s0 heat0 k s1 h1 s2 h2) (qu2S n z0 z1 z2 z3 r0 r1 r2 r3 r4 r5 k s1 h1 s2 h2) = true := by kernel_rfl
noncomputable def qu3 (s0 : ByteArray) (heat0 : Int) (k : Nat) (s1 : ByteArray) (h1 : Int) (s2 : ByteArray) (h2 : Int) (u1 : ByteArray) (v1 e1 : Int) : Tree (X × St) := pieceT (recT Tryz.prog (tabOf tb_tq)) quSl2 quSx (navC quL [true, false, false, true, false]) (quB n z0 z1 z2 z3 r0 r1 r2 r3 r4 r5 s0 heat0) (quM1 n z0 z1 z2 z3 r0 r1 r2 r3 r4 r5 (k : Int) s1 h1 s2 h2 u1 v1 e1)
def qu3S (k : Nat) (s1 : ByteArray) (h1 : Int) (s2 : ByteArray) (h2 : Int) (u1 : ByteArray) (v1 e1 : Int) : Sk (X × St) := .need (decide (0 ≤ (k : Int)) && decide ((k : Int) < (n : Int))) (.need (Nat.blt (0 + Int.toNat (k : Int)) n) (.need (decide (0 ≤ (k : Int)) && decide ((k : Int) < (n : Int))) (.need (Nat.blt (0 + Int.toNat (k : Int)) n) (.need (decide (0 ≤ (k : Int)) && decide ((k : Int) < (n : Int))) (.need (Nat.blt (0 + Int.toNat (k : Int)) n) (.need (qstK ([r0, r1, r2, r3, r4, r5] ++ ([h2] ++ ([z2 (0 + Int.toNat (k : Int)), z3 (0 + Int.toNat (k : Int))] ++ []))) [] [s2, z0 (0 + Int.toNat (k : Int))])
    (.leaf (.normal, quM2 n z0 z1 z2 z3 r0 r1 r2 r3 r4 r5 (k : Int) s1 h1 s2 h2 u1 v1 e1 (qs1 z0 z2 z3 r0 r1 r2 r3 r4 r5 (0 + Int.toNat (k : Int)) s2 h2) (qh1 z0 z2 z3 r0 r1 r2 r3 r4 r5 (0 + Int.toNat (k : Int)) s2 h2) (qe z0 z2 z3 r0 r1 r2 r3 r4 r5 (0 + Int.toNat (k : Int)) s2 h2)))))))))
theorem qu3_into (s0 : ByteArray) (heat0 : Int) (k : Nat) (s1 : ByteArray) (h1 : Int) (s2 : ByteArray) (h2 : Int) (u1 : ByteArray) (v1 e1 : Int) : qu3 n z0 z1 z2 z3 r0 r1 r2 r3 r4 r5 s0 heat0 k s1 h1 s2 h2 u1 v1 e1 = into (qu3 n z0 z1 z2 z3 r0 r1 r2 r3 r4 r5 s0 heat0 k s1 h1 s2 h2 u1 v1 e1) (qu3S n z0 z1 z2 z3 r0 r1 r2 r3 r4 r5 k s1 h1 s2 h2 u1 v1 e1) := by kernel_rfl
theorem qu3_fits (s0 : ByteArray) (heat0 : Int) (k : Nat) (s1 : ByteArray) (h1 : Int) (s2 : ByteArray) (h2 : Int) (u1 : ByteArray) (v1 e1 : Int) : fits (qu3 n z0 z1 z2 z3 r0 r1 r2 r3 r4 r5 s0 heat0 k s1 h1 s2 h2 u1 v1 e1) (qu3S n z0 z1 z2 z3 r0 r1 r2 r3 r4 r5 k s1 h1 s2 h2 u1 v1 e1) = true := by kernel_rfl
noncomputable def qu4 (s0 : ByteArray) (heat0 : Int) (i : Int) (s1 : ByteArray) (h1 : Int) (s2 : ByteArray) (h2 : Int) (u1 : ByteArray) (v1 e1 : Int) (u2 : ByteArray) (v2 e2 : Int) : Tree (X × St) := pieceT (recT Tryz.prog (tabOf tb_tq)) quSl3 quSx (navC quL [true, false, false, true, true, false]) (quB n z0 z1 z2 z3 r0 r1 r2 r3 r4 r5 s0 heat0) (quM2 n z0 z1 z2 z3 r0 r1 r2 r3 r4 r5 i s1 h1 s2 h2 u1 v1 e1 u2 v2 e2)
def qu4S (i : Int) (s1 : ByteArray) (h1 : Int) (s2 : ByteArray) (h2 : Int) (u1 : ByteArray) (v1 e1 : Int) (u2 : ByteArray) (v2 e2 : Int) : Sk (X × St) := .node (firstZ [e1, e2] != 0) (.leaf (.ret, quY n z0 z1 z2 z3 s1 h1 s2 h2 i (firstZ [e1, e2]))) (.leaf (.normal, quM3 n z0 z1 z2 z3 r0 r1 r2 r3 r4 r5 i s1 h1 s2 h2 u1 v1 u2 v2))
theorem qu4_into (s0 : ByteArray) (heat0 : Int) (i : Int) (s1 : ByteArray) (h1 : Int) (s2 : ByteArray) (h2 : Int) (u1 : ByteArray) (v1 e1 : Int) (u2 : ByteArray) (v2 e2 : Int) : qu4 n z0 z1 z2 z3 r0 r1 r2 r3 r4 r5 s0 heat0 i s1 h1 s2 h2 u1 v1 e1 u2 v2 e2 = into (qu4 n z0 z1 z2 z3 r0 r1 r2 r3 r4 r5 s0 heat0 i s1 h1 s2 h2 u1 v1 e1 u2 v2 e2) (qu4S n z0 z1 z2 z3 r0 r1 r2 r3 r4 r5 i s1 h1 s2 h2 u1 v1 e1 u2 v2 e2) := by kernel_rfl
theorem qu4_fits (s0 : ByteArray) (heat0 : Int) (i : Int) (s1 : ByteArray) (h1 : Int) (s2 : ByteArray) (h2 : Int) (u1 : ByteArray) (v1 e1 : Int) (u2 : ByteArray) (v2 e2 : Int) : fits (qu4 n z0 z1 z2 z3 r0 r1 r2 r3 r4 r5 s0 heat0 i s1 h1 s2 h2 u1 v1 e1 u2 v2 e2) (qu4S n z0 z1 z2 z3 r0 r1 r2 r3 r4 r5 i s1 h1 s2 h2 u1 v1 e1 u2 v2 e2) = true := by kernel_rfl
noncomputable def qu5 (s0 : ByteArray) (heat0 : Int) (i : Int) (s1 : ByteArray) (h1 : Int) (s2 : ByteArray) (h2 : Int) (u1 : ByteArray) (v1 : Int) (u2 : ByteArray) (v2 : Int) : Tree (X × St) := pieceT (recT Tryz.prog (tabOf tb_tq)) quSl quSx (navC quL [true, false, false, true, true, true]) (quB n z0 z1 z2 z3 r0 r1 r2 r3 r4 r5 s0 heat0) (quM3 n z0 z1 z2 z3 r0 r1 r2 r3 r4 r5 i s1 h1 s2 h2 u1 v1 u2 v2)
def qu5S (i : Int) (s1 : ByteArray) (h1 : Int) (s2 : ByteArray) (h2 : Int) (u1 : ByteArray) (v1 : Int) (u2 : ByteArray) (v2 : Int) : Sk (X × St) := .leaf (.normal, quH n z0 z1 z2 z3 r0 r1 r2 r3 r4 r5 i u1 v1 u2 v2)
theorem qu5_into (s0 : ByteArray) (heat0 : Int) (i : Int) (s1 : ByteArray) (h1 : Int) (s2 : ByteArray) (h2 : Int) (u1 : ByteArray) (v1 : Int) (u2 : ByteArray) (v2 : Int) : qu5 n z0 z1 z2 z3 r0 r1 r2 r3 r4 r5 s0 heat0 i s1 h1 s2 h2 u1 v1 u2 v2 = into (qu5 n z0 z1 z2 z3 r0 r1 r2 r3 r4 r5 s0 heat0 i s1 h1 s2 h2 u1 v1 u2 v2) (qu5S n z0 z1 z2 z3 r0 r1 r2 r3 r4 r5 i s1 h1 s2 h2 u1 v1 u2 v2) := by kernel_rfl
theorem qu5_fits (s0 : ByteArray) (heat0 : Int) (i : Int) (s1 : ByteArray) (h1 : Int) (s2 : ByteArray) (h2 : Int) (u1 : ByteArray) (v1 : Int) (u2 : ByteArray) (v2 : Int) : fits (qu5 n z0 z1 z2 z3 r0 r1 r2 r3 r4 r5 s0 heat0 i s1 h1 s2 h2 u1 v1 u2 v2) (qu5S n z0 z1 z2 z3 r0 r1 r2 r3 r4 r5 i s1 h1 s2 h2 u1 v1 u2 v2) = true := by kernel_rfl
noncomputable def qu6 (s0 : ByteArray) (heat0 : Int) (k : Nat) (s1 : ByteArray) (h1 : Int) (s2 : ByteArray) (h2 : Int) : Tree (X × St) := pieceT (recT Tryz.prog (tabOf tb_tq)) quSl quSx (navC quL [true, true]) (quB n z0 z1 z2 z3 r0 r1 r2 r3 r4 r5 s0 heat0) (quH n z0 z1 z2 z3 r0 r1 r2 r3 r4 r5 (k : Int) s1 h1 s2 h2)
def qu6S (k : Nat) (s1 : ByteArray) (h1 : Int) (s2 : ByteArray) (h2 : Int) : Sk (X × St) := .leaf (.normal, quH n z0 z1 z2 z3 r0 r1 r2 r3 r4 r5 (IntKind.i64.wrap ((k : Int) + 1)) s1 h1 s2 h2)
theorem qu6_into (s0 : ByteArray) (heat0 : Int) (k : Nat) (s1 : ByteArray) (h1 : Int) (s2 : ByteArray) (h2 : Int) : qu6 n z0 z1 z2 z3 r0 r1 r2 r3 r4 r5 s0 heat0 k s1 h1 s2 h2 = into (qu6 n z0 z1 z2 z3 r0 r1 r2 r3 r4 r5 s0 heat0 k s1 h1 s2 h2) (qu6S n z0 z1 z2 z3 r0 r1 r2 r3 r4 r5 k s1 h1 s2 h2) := by kernel_rfl
theorem qu6_fits (s0 : ByteArray) (heat0 : Int) (k : Nat) (s1 : ByteArray) (h1 : Int) (s2 : ByteArray) (h2 : Int) : fits (qu6 n z0 z1 z2 z3 r0 r1 r2 r3 r4 r5 s0 heat0 k s1 h1 s2 h2) (qu6S n z0 z1 z2 z3 r0 r1 r2 r3 r4 r5 k s1 h1 s2 h2) = true := by kernel_rfl
end
end Go.Ev
namespace Go.Ev
open Go Go.Proofs
set_option maxRecDepth 100000

section
variable (n : Nat) (z0 : Nat → ByteArray) (z1 z2 z3 : Nat → Int) (r0 r1 r2 r3 r4 r5 : Int)
theorem qu_round (s0 : ByteArray) (heat0 : Int) (hn : n ≤ 9223372036854775807) (hc : (!(r0 == 0)) = true) (k : Nat) (hk : k ≤ n) (s1 : ByteArray) (h1 : Int) (s2 : ByteArray) (h2 : Int) : ComesF Tryz.prog quL (quB n z0 z1 z2 z3 r0 r1 r2 r3 r4 r5 s0 heat0) (quH n z0 z1 z2 z3 r0 r1 r2 r3 r4 r5 (k : Int) s1 h1 s2 h2)
    fun p : X × St => match p.1 with | .normal => ∃ y : Nat × ByteArray × Int × ByteArray × Int, p.2.Le (quH n z0 z1 z2 z3 r0 r1 r2 r3 r4 r5 (y.1 : Int) y.2.1 y.2.2.1 y.2.2.2.1 y.2.2.2.2) ∧ y.1 ≤ n ∧ n - y.1 < n - k ∧ quOut n z0 z1 z2 z3 (quGo z0 z1 z2 z3 r0 r1 r2 r3 r4 r5 (n - y.1) y.1 y.2.1 y.2.2.1 y.2.2.2.1 y.2.2.2.2) = quOut n z0 z1 z2 z3 (quGo z0 z1 z2 z3 r0 r1 r2 r3 r4 r5 (n - k) k s1 h1 s2 h2) | _ => p = quOut n z0 z1 z2 z3 (quGo z0 z1 z2 z3 r0 r1 r2 r3 r4 r5 (n - k) k s1 h1 s2 h2) := by
  refine comesF_eq quL_eq ?_
  refine comesF_seq (φ := fun p => (k < n ∧ p = (.normal, quH n z0 z1 z2 z3 r0 r1 r2 r3 r4 r5 (k : Int) s1 h1 s2 h2)) ∨ (¬ k < n ∧ p = (.exit 0, quX n z0 z1 z2 z3 s1 h1 s2 h2)))
    (comesF_piece (recT_ok tb_tq_ok) rfl quSl quSx (qu1_into n z0 z1 z2 z3 r0 r1 r2 r3 r4 r5 s0 heat0 k s1 h1 s2 h2) (qu1_fits n z0 z1 z2 z3 r0 r1 r2 r3 r4 r5 s0 heat0 k s1 h1 s2 h2) ?_) ?_
  · unfold qu1S
    by_cases h : k < n
    · rw [(idx_facts h).1]; exact .inl ⟨h, rfl⟩
    · rw [idx_end h]; exact .inr ⟨h, rfl⟩
  rintro q (⟨h, rfl⟩ | ⟨h, rfl⟩)
  rotate_left
  · simp only []
    rw [show n - k = 0 by omega]
    rfl
  obtain ⟨e1, e2, e3⟩ := idx_facts h
  have hg : quGo z0 z1 z2 z3 r0 r1 r2 r3 r4 r5 (n - k) k s1 h1 s2 h2 = (match quE z0 z1 z2 z3 r0 r1 r2 r3 r4 r5 k s1 h1 s2 h2 != 0 with
      | true => (s1, h1, s2, h2, some (k, quE z0 z1 z2 z3 r0 r1 r2 r3 r4 r5 k s1 h1 s2 h2))
      | false => quGo z0 z1 z2 z3 r0 r1 r2 r3 r4 r5 (n - (k + 1)) (k + 1) (qs1 z0 z1 z3 r0 r1 r2 r3 r4 r5 k s1 h1) (qh1 z0 z1 z3 r0 r1 r2 r3 r4 r5 k s1 h1) (qs1 z0 z2 z3 r0 r1 r2 r3 r4 r5 k s2 h2) (qh1 z0 z2 z3 r0 r1 r2 r3 r4 r5 k s2 h2)) := by
      rw [show n - k = (n - (k + 1)) + 1 by omega]; rfl
  rw [hg]
  refine comesF_seq (φ := fun p => (quE z0 z1 z2 z3 r0 r1 r2 r3 r4 r5 k s1 h1 s2 h2 != 0) = true ∧ p = (.ret, quY n z0 z1 z2 z3 s1 h1 s2 h2 (k : Int) (quE z0 z1 z2 z3 r0 r1 r2 r3 r4 r5 k s1 h1 s2 h2)) ∨ (quE z0 z1 z2 z3 r0 r1 r2 r3 r4 r5 k s1 h1 s2 h2 != 0) = false ∧ p = (.normal, quH n z0 z1 z2 z3 r0 r1 r2 r3 r4 r5 (k : Int) (qs1 z0 z1 z3 r0 r1 r2 r3 r4 r5 k s1 h1) (qh1 z0 z1 z3 r0 r1 r2 r3 r4 r5 k s1 h1) (qs1 z0 z2 z3 r0 r1 r2 r3 r4 r5 k s2 h2) (qh1 z0 z2 z3 r0 r1 r2 r3 r4 r5 k s2 h2))) (comesF_block ?_) ?_
  · refine comesF_seq (φ := fun p => p = (.normal, quM1 n z0 z1 z2 z3 r0 r1 r2 r3 r4 r5 (k : Int) s1 h1 s2 h2 (qs1 z0 z1 z3 r0 r1 r2 r3 r4 r5 k s1 h1) (qh1 z0 z1 z3 r0 r1 r2 r3 r4 r5 k s1 h1) (qe z0 z1 z3 r0 r1 r2 r3 r4 r5 k s1 h1)))
      (comesF_piece (recT_ok tb_tq_ok) rfl quSl1 quSx (qu2_into n z0 z1 z2 z3 r0 r1 r2 r3 r4 r5 s0 heat0 k s1 h1 s2 h2) (qu2_fits n z0 z1 z2 z3 r0 r1 r2 r3 r4 r5 s0 heat0 k s1 h1 s2 h2) ?_) ?_
    · unfold qu2S
      simp only [e1, e2, Sk.All, Nat.zero_add, Int.toNat_natCast, e3]
      exact ⟨(by first | exact trivial | rfl), (by first | exact trivial | rfl), (by first | exact trivial | rfl), (by first | exact trivial | rfl), (by first | exact trivial | rfl), (by first | exact trivial | rfl), hc, (by first | exact trivial | rfl)⟩
    rintro q rfl
    refine comesF_seq (φ := fun p => p = (.normal, quM2 n z0 z1 z2 z3 r0 r1 r2 r3 r4 r5 (k : Int) s1 h1 s2 h2 (qs1 z0 z1 z3 r0 r1 r2 r3 r4 r5 k s1 h1) (qh1 z0 z1 z3 r0 r1 r2 r3 r4 r5 k s1 h1) (qe z0 z1 z3 r0 r1 r2 r3 r4 r5 k s1 h1) (qs1 z0 z2 z3 r0 r1 r2 r3 r4 r5 k s2 h2) (qh1 z0 z2 z3 r0 r1 r2 r3 r4 r5 k s2 h2) (qe z0 z2 z3 r0 r1 r2 r3 r4 r5 k s2 h2)))
      (comesF_piece (recT_ok tb_tq_ok) rfl quSl2 quSx (qu3_into n z0 z1 z2 z3 r0 r1 r2 r3 r4 r5 s0 heat0 k s1 h1 s2 h2 (qs1 z0 z1 z3 r0 r1 r2 r3 r4 r5 k s1 h1) (qh1 z0 z1 z3 r0 r1 r2 r3 r4 r5 k s1 h1) (qe z0 z1 z3 r0 r1 r2 r3 r4 r5 k s1 h1)) (qu3_fits n z0 z1 z2 z3 r0 r1 r2 r3 r4 r5 s0 heat0 k s1 h1 s2 h2 (qs1 z0 z1 z3 r0 r1 r2 r3 r4 r5 k s1 h1) (qh1 z0 z1 z3 r0 r1 r2 r3 r4 r5 k s1 h1) (qe z0 z1 z3 r0 r1 r2 r3 r4 r5 k s1 h1)) ?_) ?_
    · unfold qu3S
      simp only [e1, e2, Sk.All, Nat.zero_add, Int.toNat_natCast, e3]
      exact ⟨(by first | exact trivial | rfl), (by first | exact trivial | rfl), (by first | exact trivial | rfl), (by first | exact trivial | rfl), (by first | exact trivial | rfl), (by first | exact trivial | rfl), hc, (by first | exact trivial | rfl)⟩
    rintro q rfl
    refine comesF_seq (φ := fun p => (quE z0 z1 z2 z3 r0 r1 r2 r3 r4 r5 k s1 h1 s2 h2 != 0) = true ∧ p = (.ret, quY n z0 z1 z2 z3 s1 h1 s2 h2 (k : Int) (quE z0 z1 z2 z3 r0 r1 r2 r3 r4 r5 k s1 h1 s2 h2)) ∨ (quE z0 z1 z2 z3 r0 r1 r2 r3 r4 r5 k s1 h1 s2 h2 != 0) = false ∧ p = (.normal, quM3 n z0 z1 z2 z3 r0 r1 r2 r3 r4 r5 (k : Int) s1 h1 s2 h2 (qs1 z0 z1 z3 r0 r1 r2 r3 r4 r5 k s1 h1) (qh1 z0 z1 z3 r0 r1 r2 r3 r4 r5 k s1 h1) (qs1 z0 z2 z3 r0 r1 r2 r3 r4 r5 k s2 h2) (qh1 z0 z2 z3 r0 r1 r2 r3 r4 r5 k s2 h2)))
      (comesF_piece (recT_ok tb_tq_ok) rfl quSl3 quSx (qu4_into n z0 z1 z2 z3 r0 r1 r2 r3 r4 r5 s0 heat0 (k : Int) s1 h1 s2 h2 (qs1 z0 z1 z3 r0 r1 r2 r3 r4 r5 k s1 h1) (qh1 z0 z1 z3 r0 r1 r2 r3 r4 r5 k s1 h1) (qe z0 z1 z3 r0 r1 r2 r3 r4 r5 k s1 h1) (qs1 z0 z2 z3 r0 r1 r2 r3 r4 r5 k s2 h2) (qh1 z0 z2 z3 r0 r1 r2 r3 r4 r5 k s2 h2) (qe z0 z2 z3 r0 r1 r2 r3 r4 r5 k s2 h2)) (qu4_fits n z0 z1 z2 z3 r0 r1 r2 r3 r4 r5 s0 heat0 (k : Int) s1 h1 s2 h2 (qs1 z0 z1 z3 r0 r1 r2 r3 r4 r5 k s1 h1) (qh1 z0 z1 z3 r0 r1 r2 r3 r4 r5 k s1 h1) (qe z0 z1 z3 r0 r1 r2 r3 r4 r5 k s1 h1) (qs1 z0 z2 z3 r0 r1 r2 r3 r4 r5 k s2 h2) (qh1 z0 z2 z3 r0 r1 r2 r3 r4 r5 k s2 h2) (qe z0 z2 z3 r0 r1 r2 r3 r4 r5 k s2 h2)) ?_) ?_
    · unfold qu4S
      show Sk.All _ (.node (quE z0 z1 z2 z3 r0 r1 r2 r3 r4 r5 k s1 h1 s2 h2 != 0) _ _)
      cases hz : quE z0 z1 z2 z3 r0 r1 r2 r3 r4 r5 k s1 h1 s2 h2 != 0 with
      | true => exact .inl ⟨rfl, rfl⟩
      | false => exact .inr ⟨rfl, rfl⟩
    · rintro q (⟨hz, rfl⟩ | ⟨hz, rfl⟩)
      · exact .inl ⟨hz, rfl⟩
      · exact comesF_piece (recT_ok tb_tq_ok) rfl quSl quSx (qu5_into n z0 z1 z2 z3 r0 r1 r2 r3 r4 r5 s0 heat0 (k : Int) s1 h1 s2 h2 (qs1 z0 z1 z3 r0 r1 r2 r3 r4 r5 k s1 h1) (qh1 z0 z1 z3 r0 r1 r2 r3 r4 r5 k s1 h1) (qs1 z0 z2 z3 r0 r1 r2 r3 r4 r5 k s2 h2) (qh1 z0 z2 z3 r0 r1 r2 r3 r4 r5 k s2 h2)) (qu5_fits n z0 z1 z2 z3 r0 r1 r2 r3 r4 r5 s0 heat0 (k : Int) s1 h1 s2 h2 (qs1 z0 z1 z3 r0 r1 r2 r3 r4 r5 k s1 h1) (qh1 z0 z1 z3 r0 r1 r2 r3 r4 r5 k s1 h1) (qs1 z0 z2 z3 r0 r1 r2 r3 r4 r5 k s2 h2) (qh1 z0 z2 z3 r0 r1 r2 r3 r4 r5 k s2 h2)) (.inr ⟨hz, rfl⟩)
  · rintro q (⟨hz, rfl⟩ | ⟨hz, rfl⟩)
    · simp only []
      rw [hz]
      rfl
    · refine comesF_piece (recT_ok tb_tq_ok) rfl quSl quSx (qu6_into n z0 z1 z2 z3 r0 r1 r2 r3 r4 r5 s0 heat0 k _ _ _ _) (qu6_fits n z0 z1 z2 z3 r0 r1 r2 r3 r4 r5 s0 heat0 k _ _ _ _) ?_
      rw [hz]
      refine ⟨(k + 1, _, _, _, _), ?_, h, by simp only []; omega, rfl⟩
      rw [wrap_succ (by omega)]
      exact St.Le.refl _
theorem qu_loop (s0 : ByteArray) (heat0 : Int) (hn : n ≤ 9223372036854775807) (hc : (!(r0 == 0)) = true) (s1 : ByteArray) (h1 : Int) (s2 : ByteArray) (h2 : Int) : ComesF Tryz.prog (.loop (loopF Tryz.f20)) (quB n z0 z1 z2 z3 r0 r1 r2 r3 r4 r5 s0 heat0) (quH n z0 z1 z2 z3 r0 r1 r2 r3 r4 r5 ((0 : Nat) : Int) s1 h1 s2 h2) fun q => q = quOut n z0 z1 z2 z3 (quGo z0 z1 z2 z3 r0 r1 r2 r3 r4 r5 n 0 s1 h1 s2 h2) :=
  loop_pieces (ι := Nat × ByteArray × Int × ByteArray × Int) (fun x => quH n z0 z1 z2 z3 r0 r1 r2 r3 r4 r5 (x.1 : Int) x.2.1 x.2.2.1 x.2.2.2.1 x.2.2.2.2) (fun x => n - x.1) (fun x => x.1 ≤ n)
    (fun x => quOut n z0 z1 z2 z3 (quGo z0 z1 z2 z3 r0 r1 r2 r3 r4 r5 (n - x.1) x.1 x.2.1 x.2.2.1 x.2.2.2.1 x.2.2.2.2)) (fun x hx => qu_round n z0 z1 z2 z3 r0 r1 r2 r3 r4 r5 s0 heat0 hn hc x.1 hx x.2.1 x.2.2.1 x.2.2.2.1 x.2.2.2.2) (0, s1, h1, s2, h2) (Nat.zero_le n)
noncomputable def quO (s : ByteArray) (heat : Int) : Tree ((X × St) ⊕ (List Bool × St)) := evO (recT Tryz.prog (tabOf tb_tq)) (bodyOf Tryz.f20) quSl [6, 7, 8] (quB n z0 z1 z2 z3 r0 r1 r2 r3 r4 r5 s heat)
noncomputable def quP (s : ByteArray) (heat : Int) (q : X × St) : Tree ((X × St) ⊕ (List Bool × St)) := evO2 (recT Tryz.prog (tabOf tb_tq)) true (bodyOf Tryz.f20) (pathF Tryz.f20) [] [6, 7, 8] (quB n z0 z1 z2 z3 r0 r1 r2 r3 r4 r5 s heat) q
noncomputable def quPre (s : ByteArray) (heat : Int) : Sk ((X × St) ⊕ (List Bool × St)) := .leaf (.inr (pathF Tryz.f20, quH n z0 z1 z2 z3 r0 r1 r2 r3 r4 r5 ((0 : Nat) : Int) s heat s heat))
theorem qu_pre (s : ByteArray) (heat : Int) : quO n z0 z1 z2 z3 r0 r1 r2 r3 r4 r5 s heat = into (quO n z0 z1 z2 z3 r0 r1 r2 r3 r4 r5 s heat) (quPre n z0 z1 z2 z3 r0 r1 r2 r3 r4 r5 s heat) := by kernel_rfl
theorem qu_pre_fits (s : ByteArray) (heat : Int) : fits (quO n z0 z1 z2 z3 r0 r1 r2 r3 r4 r5 s heat) (quPre n z0 z1 z2 z3 r0 r1 r2 r3 r4 r5 s heat) = true := by kernel_rfl
theorem qu_exit (s0 : ByteArray) (heat0 : Int) (s1 : ByteArray) (h1 : Int) (s2 : ByteArray) (h2 : Int) : quP n z0 z1 z2 z3 r0 r1 r2 r3 r4 r5 s0 heat0 (.exit 0, quX n z0 z1 z2 z3 s1 h1 s2 h2) = into (quP n z0 z1 z2 z3 r0 r1 r2 r3 r4 r5 s0 heat0 (.exit 0, quX n z0 z1 z2 z3 s1 h1 s2 h2)) (.leaf (.inl (.ret, quR n z0 z1 z2 z3 h1 h2 0 0))) := by kernel_rfl
theorem qu_exit_fits (s0 : ByteArray) (heat0 : Int) (s1 : ByteArray) (h1 : Int) (s2 : ByteArray) (h2 : Int) : fits (quP n z0 z1 z2 z3 r0 r1 r2 r3 r4 r5 s0 heat0 (.exit 0, quX n z0 z1 z2 z3 s1 h1 s2 h2)) (.leaf (.inl (.ret, quR n z0 z1 z2 z3 h1 h2 0 0))) = true := by kernel_rfl
theorem qu_ret (s0 : ByteArray) (heat0 : Int) (s1 : ByteArray) (h1 : Int) (s2 : ByteArray) (h2 : Int) (i e : Int) : quP n z0 z1 z2 z3 r0 r1 r2 r3 r4 r5 s0 heat0 (.ret, quY n z0 z1 z2 z3 s1 h1 s2 h2 i e) = into (quP n z0 z1 z2 z3 r0 r1 r2 r3 r4 r5 s0 heat0 (.ret, quY n z0 z1 z2 z3 s1 h1 s2 h2 i e)) (.leaf (.inl (.ret, quR n z0 z1 z2 z3 0 0 i e))) := by kernel_rfl
theorem qu_ret_fits (s0 : ByteArray) (heat0 : Int) (s1 : ByteArray) (h1 : Int) (s2 : ByteArray) (h2 : Int) (i e : Int) : fits (quP n z0 z1 z2 z3 r0 r1 r2 r3 r4 r5 s0 heat0 (.ret, quY n z0 z1 z2 z3 s1 h1 s2 h2 i e)) (.leaf (.inl (.ret, quR n z0 z1 z2 z3 0 0 i e))) = true := by kernel_rfl
theorem qu_left (lo hi i e : Int) : Left2 Tryz.prog Tryz.f20 (hpT [⟨some 0, n, st4 z0 z1 z2 z3⟩] [] []) (surA lo hi i e) (hpT [⟨some 0, n, st4 z0 z1 z2 z3⟩] [] []) (.ret, quR n z0 z1 z2 z3 lo hi i e) := left_of (b := true) (by kernel_rfl)
theorem leads_into {α : Type} {p : α → Prop} {T : Tree α} {S : Sk α} (h1 : T = into T S) (h2 : fits T S = true) (h3 : S.All p) : Leads p T := ⟨all_into h1 h2 h3⟩
theorem qu_exitAll {p : (X × St) ⊕ (List Bool × St) → Prop} (s0 : ByteArray) (heat0 : Int) (s1 : ByteArray) (h1 : Int) (s2 : ByteArray) (h2 : Int) (h : p (.inl (.ret, quR n z0 z1 z2 z3 h1 h2 0 0))) : Leads p (evO2 (recT Tryz.prog (tabOf tb_tq)) true (bodyOf Tryz.f20) (pathF Tryz.f20) [] [6, 7, 8] (quB n z0 z1 z2 z3 r0 r1 r2 r3 r4 r5 s0 heat0) (.exit 0, quX n z0 z1 z2 z3 s1 h1 s2 h2)) := by
  show Leads p (quP n z0 z1 z2 z3 r0 r1 r2 r3 r4 r5 s0 heat0 (.exit 0, quX n z0 z1 z2 z3 s1 h1 s2 h2))
  exact leads_into (qu_exit n z0 z1 z2 z3 r0 r1 r2 r3 r4 r5 s0 heat0 s1 h1 s2 h2) (qu_exit_fits n z0 z1 z2 z3 r0 r1 r2 r3 r4 r5 s0 heat0 s1 h1 s2 h2) h
theorem qu_retAll {p : (X × St) ⊕ (List Bool × St) → Prop} (s0 : ByteArray) (heat0 : Int) (s1 : ByteArray) (h1 : Int) (s2 : ByteArray) (h2 : Int) (i e : Int) (h : p (.inl (.ret, quR n z0 z1 z2 z3 0 0 i e))) : Leads p (evO2 (recT Tryz.prog (tabOf tb_tq)) true (bodyOf Tryz.f20) (pathF Tryz.f20) [] [6, 7, 8] (quB n z0 z1 z2 z3 r0 r1 r2 r3 r4 r5 s0 heat0) (.ret, quY n z0 z1 z2 z3 s1 h1 s2 h2 i e)) := by
  show Leads p (quP n z0 z1 z2 z3 r0 r1 r2 r3 r4 r5 s0 heat0 (.ret, quY n z0 z1 z2 z3 s1 h1 s2 h2 i e))
  exact leads_into (qu_ret n z0 z1 z2 z3 r0 r1 r2 r3 r4 r5 s0 heat0 s1 h1 s2 h2 i e) (qu_ret_fits n z0 z1 z2 z3 r0 r1 r2 r3 r4 r5 s0 heat0 s1 h1 s2 h2 i e) h
theorem qu_hpre (s : ByteArray) (heat : Int) : evO (recT Tryz.prog (tabOf tb_tq)) (bodyOf Tryz.f20) quSl [6, 7, 8] (quB n z0 z1 z2 z3 r0 r1 r2 r3 r4 r5 s heat) = quO n z0 z1 z2 z3 r0 r1 r2 r3 r4 r5 s heat := by delta quO; rfl
theorem qu_call (s : ByteArray) (heat : Int) (hn : n ≤ 9223372036854775807) (hc : (!(r0 == 0)) = true) : CallAt Tryz.prog 20 [.agg (rulesC r0 r1 r2 r3 r4 r5), .agg [cs s, ci heat], slT 0 4 n] (hpT [⟨some 0, n, st4 z0 z1 z2 z3⟩] [] []) (surA4 (suQ (quGo z0 z1 z2 z3 r0 r1 r2 r3 r4 r5 n 0 s heat s heat))) (hpT [⟨some 0, n, st4 z0 z1 z2 z3⟩] [] []) := by
  refine call_base (recT_ok tb_tq_ok) (c := bodyOf Tryz.f20) (fn := Tryz.f20) Tryz.func20 (by kernel_rfl) (by kernel_rfl) (false, true) 1 quSl [6, 7, 8] (sB := quB n z0 z1 z2 z3 r0 r1 r2 r3 r4 r5 s heat) (by kernel_rfl) (qu_hpre n z0 z1 z2 z3 r0 r1 r2 r3 r4 r5 s heat) ?_
  refine all_into (qu_pre n z0 z1 z2 z3 r0 r1 r2 r3 r4 r5 s heat) (qu_pre_fits n z0 z1 z2 z3 r0 r1 r2 r3 r4 r5 s heat) ?_
  unfold quPre
  simp only [Sk.All]
  refine cutF_stop _ true [] [6, 7, 8] (qu_loop n z0 z1 z2 z3 r0 r1 r2 r3 r4 r5 s heat hn hc s heat s heat) fun q hq => ?_
  subst hq
  generalize quGo z0 z1 z2 z3 r0 r1 r2 r3 r4 r5 n 0 s heat s heat = x
  obtain ⟨s1, h1, s2, h2, o⟩ := x
  refine Leads.all ?_
  cases o with
  | none => exact qu_exitAll n z0 z1 z2 z3 r0 r1 r2 r3 r4 r5 s heat s1 h1 s2 h2 (qu_left n z0 z1 z2 z3 h1 h2 0 0)
  | some ke =>
    obtain ⟨k, e⟩ := ke
    exact qu_retAll n z0 z1 z2 z3 r0 r1 r2 r3 r4 r5 s heat s1 h1 s2 h2 (k : Int) e (qu_left n z0 z1 z2 z3 0 0 (k : Int) e)
end
noncomputable def quNil (s : ByteArray) (heat r0 r1 r2 r3 r4 r5 : Int) : Tree ((Bool × A × Hp) ⊕ (List Bool × St)) := preA Tryz.prog (tabOf tb_tq) Tryz.f20 [.agg (rulesC r0 r1 r2 r3 r4 r5), .agg [cs s, ci heat], nilA] (hpL [] []) (false, true)
theorem qu_nil_into (s : ByteArray) (heat r0 r1 r2 r3 r4 r5 : Int) : quNil s heat r0 r1 r2 r3 r4 r5 = into (quNil s heat r0 r1 r2 r3 r4 r5) (.ff (.leaf (.inl (true, surA heat heat 0 0, hpL [] [])))) := by kernel_rfl
theorem qu_nil_fits (s : ByteArray) (heat r0 r1 r2 r3 r4 r5 : Int) : fits (quNil s heat r0 r1 r2 r3 r4 r5) (.ff (.leaf (.inl (true, surA heat heat 0 0, hpL [] [])))) = true := by kernel_rfl
theorem qu_nil (s : ByteArray) (heat r0 r1 r2 r3 r4 r5 : Int) : CallAt Tryz.prog 20 [.agg (rulesC r0 r1 r2 r3 r4 r5), .agg [cs s, ci heat], nilA] (hpL [] []) (surA heat heat 0 0) (hpL [] []) :=
  call_sk tb_tq_ok Tryz.func20 (by kernel_rfl) (false, true) (by kernel_rfl) (qu_nil_into s heat r0 r1 r2 r3 r4 r5) (qu_nil_fits s heat r0 r1 r2 r3 r4 r5) rfl
def quF : FT
  | [r0, r1, r2, r3, r4, r5, heat], [], [s], [⟨_, n, [.str z0, .int .i64 z1, .int .i64 z2, .int .i64 z3]⟩] => .need (Nat.ble n 1000000 && !(r0 == 0)) (.leaf (surA4 (suQ (quGo z0 z1 z2 z3 r0 r1 r2 r3 r4 r5 n 0 s heat s heat)), []))
  | _, _, _, _ => .fail 374
def quSp : Spec := fun args h => specT surShp [] quF args h
theorem qu_ok : SpecOk Tryz.prog 20 quSp := by
  refine specT_ok rfl (by decide) fun l m n ts v news hl hm hn ht hnil hF => ?_
  unfold quF at hF
  split at hF
  · rename_i r0 r1 r2 r3 r4 r5 heat s id n z0 z1 z2 z3
    obtain ⟨hok, hF⟩ := Tree.need_some hF
    rw [Bool.and_eq_true] at hok
    have hle := Nat.le_of_ble_eq_true hok.1
    simp only [Tree.run, Option.some.injEq, Prod.mk.injEq] at hF
    obtain ⟨rfl, rfl⟩ := hF
    cases id with
    | none =>
      have h0 : n = 0 := hnil _ (List.mem_singleton.2 rfl) rfl
      subst h0
      exact qu_nil s heat r0 r1 r2 r3 r4 r5
    | some id => exact qu_call n z0 z1 z2 z3 r0 r1 r2 r3 r4 r5 s heat (by omega) hok.2
  · cases hF
noncomputable def tbSu : List (FuncId × Spec) := (13, specAwake) :: (15, toldcSp) :: (20, quSp) :: (14, suSp) :: tb_tq
theorem tbSu_ok : TabOk Tryz.prog (tabOf tbSu) := tab_cons (tab_cons (tab_cons (tab_cons tb_tq_ok su_ok) qu_ok) toldc_ok) specAwake_ok
end Go.Ev
