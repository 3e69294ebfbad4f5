/- SaltMoves: a tank that is drawn, by the reference. Conditions: few layers. SaltMoves: both draws leave the same layers. Conditions: layers in good order. SaltMoves: a tank that is drawn, by the reference: what it hands back is what the program does; its entry. Conditions: few layers in good order. SaltMoves: the entries of both draws, where it is known what is wrong and whether something is left. Conditions: few layers. -/
import Derived.Test.YtlpchgidkibbeaaGreatDoorMvD
import Derived.Test.YtlpchgidkibbeaaGreatDoorMvC
import Derived.Test.YtlpchgidkibbeaaGreatDoorMvA
import Derived.Test.YtlpchgidkibbeaaGreatDoorMvB
namespace Go.Ev
open Go Go.Proofs
set_option maxRecDepth 100000

abbrev Gr := (Nat → Int) → (Nat → Int) → Nat → Nat → T3
def tbDq (g : Gt) (r : Gr) : List (FuncId × Spec) := (119, viewSp fun args h => specT [(false, [.t tkD])] [] (tuFG r) args h) :: (110, viewSp fun args h => specT [(false, [.t tkD])] [] (qgFG g) args h) :: tbG g
theorem tbDq_ok : TabOk Tryz.prog (tabOf (tbDq togS revS)) := tab_cons (tab_cons tbT2_ok (viewSp_ok qg_ok)) (viewSp_ok tu_ok)
section
variable (g : Gt) (r : Gr) (n : Nat) (room am : Int) (top : Bool) (z1 z2 : Nat → Int)
noncomputable def dqRe : Code → St → Tree (X × St) := recT Tryz.prog (tabOf (tbDq g r))
def dqB : St := { baseB 76 [tankA room n, int am, .one (.lit (.bool top))] (tankH n z1 z2) with keep := true }
def dqN (env : List (Nat × A)) (news : List Blk) : St := stN 76 (envL env) (bsS [⟨some 0, n, tkC z1 z2⟩] []) [] news true
noncomputable def dqO : Tree ((X × St) ⊕ (List Bool × St)) := evO (dqRe g r) (bodyOf Tryz.f60) [1, 2, 3, 6, 9, 10] [6, 7, 8] (dqB n room am top z1 z2)
def rlB (M : Nat) (a b : Nat → Int) : Blk := ⟨false, 98, .rows M (tkC a b)⟩
def lsA (own : Bool) (k m : Nat) : A := .one (.sl own 3 k 2 0 m)
def dqS (own : Bool) (k m M : Nat) (a b : Nat → Int) (am ht : Int) : St := dqN n z1 z2 [(1, int am), (2, .one (.lit (.bool top))), (3, .one (.ptr 1 0 1 0)), (6, .one (.ptr 2 0 1 0)), (9, lsA own k m), (10, int ht)] [tbox 76 room (slC false 0 2 n), boxT 76 0 nilC, rlB M a b]
def dqX (own : Bool) (k m M : Nat) (a b : Nat → Int) (_x ht : Int) : St := dqN n z1 z2 [(2, .one (.lit (.bool top))), (3, .one (.ptr 1 0 1 0)), (6, .one (.ptr 2 0 1 0)), (9, lsA own k m), (10, int ht)] [tbox 76 room (slC false 0 2 n), boxT 76 0 nilC, rlB M a b]
noncomputable def dqT (own : Bool) (k m M : Nat) (a b : Nat → Int) (x ht : Int) : Tree (X × St) := (dqRe g r (loopF Tryz.f60) (dqS n room top z1 z2 own k m M a b x ht)).bind (canonT [1, 2, 3, 6, 9, 10] [2, 3, 6, 9, 10] (dqB n room am top z1 z2))
noncomputable def dqE (own : Bool) (k m M : Nat) (a b : Nat → Int) (x ht : Int) : Tree ((X × St) ⊕ (List Bool × St)) := evO2 (dqRe g r) true (bodyOf Tryz.f60) (pathF Tryz.f60) [] [6, 7, 8] (dqB n room am top z1 z2) (.exit 0, dqX n room top z1 z2 own k m M a b x ht)
/-! ### a round -/
def upF (f : Nat → Int) (k : Nat) : Nat → Int := fun i => f (i + k)
def ptT (a b : Nat → Int) (k : Nat) (x : Int) : Int := w64 ((w64 (b (k + Int.toNat 0) * x)).tdiv (a (k + Int.toNat 0)))
def ptA (a : Nat → Int) (k : Nat) (x : Int) : Nat → Int := putF (fun i => a (i - 1 + (k + Int.toNat 1))) 0 (w64 (a (k + Int.toNat 0) - x))
def ptB (a b : Nat → Int) (k : Nat) (x : Int) : Nat → Int := putF (fun i => b (i - 1 + (k + Int.toNat 1))) 0 (w64 (b (k + Int.toNat 0) - ptT a b k x))
def dqJ (j : Nat) : Nat := (((j + 1 : Nat) : Int)).toNat - Int.toNat 1
noncomputable def dqC1 (j : Nat) (S : Sk (X × St)) : Sk (X × St) := .need (decide (0 ≤ (1 : Int)) && decide ((1 : Int) ≤ ((j + 1 : Nat) : Int)) && decide (((j + 1 : Nat) : Int) ≤ ((j + 1 : Nat) : Int))) S
noncomputable def dqSk (own : Bool) (k j M : Nat) (a b : Nat → Int) (x ht : Int) : Sk (X × St) := .node (decide (x > 0)) (.need (decide (0 ≤ (0 : Int)) && decide ((0 : Int) < ((j + 1 : Nat) : Int))) (.need (Nat.blt (k + Int.toNat 0) M) (.need (Nat.blt (k + Int.toNat 0) M)
    (.node (decide (a (k + Int.toNat 0) ≤ x)) (dqC1 j (.leaf (.normal, dqS n room top z1 z2 false (k + Int.toNat 1) (dqJ j) M a b (w64 (x - a (k + Int.toNat 0))) (w64 (ht + b (k + Int.toNat 0))))))
      (.need (!(a (k + Int.toNat 0) == 0)) (dqC1 j (.need (Nat.ble (k + Int.toNat 1 + dqJ j) M && Nat.ble ((dqJ j + 1) * 16) 140737488355328 && Nat.ble (dqJ j + 1) 9223372036854775807)
        (.leaf (.normal, dqS n room top z1 z2 true 0 (dqJ j + 1) (dqJ j + 1) (ptA a k x) (ptB a b k x) 0 (w64 (ht + ptT a b k x)))))))))))
  (.leaf (.exit 0, dqX n room top z1 z2 own k (j + 1) M a b x ht))
theorem dqT_into (k j M : Nat) (a b : Nat → Int) (x ht : Int) : dqT g r n room am top z1 z2 false k (j + 1) M a b x ht = into (dqT g r n room am top z1 z2 false k (j + 1) M a b x ht) (dqSk n room top z1 z2 false k j M a b x ht) := by kernel_rfl
theorem dqT_fits (k j M : Nat) (a b : Nat → Int) (x ht : Int) : fits (dqT g r n room am top z1 z2 false k (j + 1) M a b x ht) (dqSk n room top z1 z2 false k j M a b x ht) = true := by kernel_rfl
theorem dqT0_into (j M : Nat) (a b : Nat → Int) (x ht : Int) : dqT g r n room am top z1 z2 true 0 (j + 1) M a b x ht = into (dqT g r n room am top z1 z2 true 0 (j + 1) M a b x ht) (dqSk n room top z1 z2 true 0 j M a b x ht) := by kernel_rfl
theorem dqT0_fits (j M : Nat) (a b : Nat → Int) (x ht : Int) : fits (dqT g r n room am top z1 z2 true 0 (j + 1) M a b x ht) (dqSk n room top z1 z2 true 0 j M a b x ht) = true := by kernel_rfl
/-- where nothing more is asked for -/
noncomputable def dqSz (k m M : Nat) (a b : Nat → Int) (ht : Int) (own : Bool) : Sk (X × St) := .ff (.leaf (.exit 0, dqX n room top z1 z2 own k m M a b 0 ht))
theorem dqTz_into (own : Bool) (k m M : Nat) (a b : Nat → Int) (ht : Int) : dqT g r n room am top z1 z2 own k m M a b 0 ht = into (dqT g r n room am top z1 z2 own k m M a b 0 ht) (dqSz n room top z1 z2 k m M a b ht own) := by kernel_rfl
theorem dqTz_fits (own : Bool) (k m M : Nat) (a b : Nat → Int) (ht : Int) : fits (dqT g r n room am top z1 z2 own k m M a b 0 ht) (dqSz n room top z1 z2 k m M a b ht own) = true := by kernel_rfl
/-! ### behind the loop -/
def dqY0 (ht : Int) : St := dqN n z1 z2 [(6, .one (.ptr 1 0 1 0)), (7, int ht), (8, int 0)] [boxT 76 room nilC]
def dqYg (ht : Int) (t : T3) : St := dqN n z1 z2 [(6, .one (.ptr 1 0 1 0)), (7, int ht), (8, int 0)] (boxT 76 room (slC true 2 2 t.1) :: layB 98 t)
def dqYb (e : Int) : St := dqN n z1 z2 [(6, .one (.ptr 1 0 1 0)), (7, int 0), (8, int e)] [boxT 76 0 nilC]
def okM (m : Nat) : Bool := (Nat.ble m m && true) && true
noncomputable def dqEf (k m M : Nat) (a b : Nat → Int) (ht : Int) : SkO2 := .ff (.need (Nat.ble (k + m) M) (.need (okM m) (.need (Nat.ble m 100000) (.node (Nat.beq m 0) (.leaf (.inl (.ret, dqY0 n room z1 z2 ht))) (.leaf (.inl (.ret, dqYg n room z1 z2 ht (g (upF a k) (upF b k) m))))))))
noncomputable def dqEt (k m M : Nat) (a b : Nat → Int) (ht : Int) : SkO2 := .tt (.need (Nat.ble (k + m) M) (.need (okM m) (.need (Nat.ble m 100000) (.node (Nat.beq m 0) (.tt (.leaf (.inl (.ret, dqY0 n room z1 z2 ht)))) (.need (Nat.ble (0 + m) m) (.need (okM m) (.need (Nat.ble m 100000) (.node (Nat.beq m 0) (.leaf (.inl (.ret, dqY0 n room z1 z2 ht)))
  (.leaf (.inl (.ret, dqYg n room z1 z2 ht (g (r (upF a k) (upF b k) m m).2.1 (r (upF a k) (upF b k) m m).2.2 m))))))))))))
theorem dqEf_into (own : Bool) (k m M : Nat) (a b : Nat → Int) (x ht : Int) : dqE g r n room am false z1 z2 own k m M a b x ht = into (dqE g r n room am false z1 z2 own k m M a b x ht) (dqEf g n room z1 z2 k m M a b ht) := by kernel_rfl
theorem dqEf_fits (own : Bool) (k m M : Nat) (a b : Nat → Int) (x ht : Int) : fits (dqE g r n room am false z1 z2 own k m M a b x ht) (dqEf g n room z1 z2 k m M a b ht) = true := by kernel_rfl
theorem dqEt_into (own : Bool) (k m M : Nat) (a b : Nat → Int) (x ht : Int) : dqE g r n room am true z1 z2 own k m M a b x ht = into (dqE g r n room am true z1 z2 own k m M a b x ht) (dqEt g r n room z1 z2 k m M a b ht) := by kernel_rfl
theorem dqEt_fits (own : Bool) (k m M : Nat) (a b : Nat → Int) (x ht : Int) : fits (dqE g r n room am true z1 z2 own k m M a b x ht) (dqEt g r n room z1 z2 k m M a b ht) = true := by kernel_rfl
/-! ### ahead of the loop -/
noncomputable def dqOh (S : SkO2) : SkO2 := .need (okK n) (.need (Nat.ble n 1000000) (.node (decide (am > sumA z1 n)) (.leaf (.inl (.ret, dqYb n z1 z2 16))) (.need (Nat.ble (0 + n) n && Nat.ble ((n + 0) * 16) 140737488355328 && Nat.ble (n + 0) 9223372036854775807) S)))
noncomputable def dqOf : SkO2 := dqOh n am z1 z2 (.ff (.leaf (.inr (pathF Tryz.f60, dqS n room false z1 z2 true 0 n n (upF z1 0) (upF z2 0) am 0))))
noncomputable def dqOt : SkO2 := dqOh n am z1 z2 (.tt (.need (Nat.ble (0 + (n + 0)) (n + 0)) (.need (okM (n + 0)) (.need (Nat.ble (n + 0) 100000) (.ff (.leaf (.inr (pathF Tryz.f60, dqS n room true z1 z2 true 0 n n (r (upF (upF z1 0) 0) (upF (upF z2 0) 0) n n).2.1 (r (upF (upF z1 0) 0) (upF (upF z2 0) 0) n n).2.2 am 0))))))))
end
section
variable (g : Gt) (r : Gr) (n : Nat) (room am : Int) (z1 z2 : Nat → Int)
theorem dqOf_into : dqO g r (n + 1) room am false z1 z2 = into (dqO g r (n + 1) room am false z1 z2) (dqOf (n + 1) room am z1 z2) := by kernel_rfl
theorem dqOf_fits : fits (dqO g r (n + 1) room am false z1 z2) (dqOf (n + 1) room am z1 z2) = true := by kernel_rfl
theorem dqOt_into : dqO g r (n + 1) room am true z1 z2 = into (dqO g r (n + 1) room am true z1 z2) (dqOt r (n + 1) room am z1 z2) := by kernel_rfl
theorem dqOt_fits : fits (dqO g r (n + 1) room am true z1 z2) (dqOt r (n + 1) room am z1 z2) = true := by kernel_rfl
end
/-! ### what is still asked for, and the heat, behind so many layers -/
def amQ (a : Nat → Int) (am : Int) : Nat → Int
  | 0 => am
  | k + 1 => w64 (amQ a am k - a k)
def htQ (b : Nat → Int) : Nat → Int
  | 0 => 0
  | k + 1 => w64 (htQ b k + b k)
def stopQ (a : Nat → Int) (am : Int) : Nat → Nat → Nat
  | 0, k => k
  | f + 1, k => match decide (amQ a am k > 0) with
    | true => match decide (a k ≤ amQ a am k) with
      | true => stopQ a am f (k + 1)
      | false => k
    | false => k
theorem stop_facts (a : Nat → Int) (am : Int) : ∀ f k, (k ≤ stopQ a am f k ∧ stopQ a am f k ≤ k + f) ∧ (∀ j, k ≤ j → j < stopQ a am f k → amQ a am j > 0 ∧ a j ≤ amQ a am j) ∧ (stopQ a am f k = k + f ∨ ¬ (amQ a am (stopQ a am f k) > 0 ∧ a (stopQ a am f k) ≤ amQ a am (stopQ a am f k)))
  | 0, k => ⟨⟨Nat.le_refl _, Nat.le_refl _⟩, fun j h1 h2 => by have h2 : j < k := h2; omega, .inl rfl⟩
  | f + 1, k => by
    unfold stopQ
    by_cases h1 : amQ a am k > 0
    · rw [show decide (amQ a am k > 0) = true by simpa using h1]
      by_cases h2 : a k ≤ amQ a am k
      · rw [show decide (a k ≤ amQ a am k) = true by simpa using h2]
        obtain ⟨⟨q1, q2⟩, q3, q4⟩ := stop_facts a am f (k + 1)
        refine ⟨⟨by simp only; omega, by simp only; omega⟩, fun j hj1 hj2 => ?_, ?_⟩
        · rcases Nat.lt_or_eq_of_le hj1 with hj | hj
          · exact q3 j hj hj2
          · subst hj; exact ⟨h1, h2⟩
        · rcases q4 with q4 | q4
          · exact .inl (by simp only; omega)
          · exact .inr q4
      · rw [show decide (a k ≤ amQ a am k) = false by simpa using h2]
        exact ⟨⟨Nat.le_refl _, by simp only; omega⟩, fun j hj1 hj2 => by simp only at hj2; omega, .inr fun h => h2 h.2⟩
    · rw [show decide (amQ a am k > 0) = false by simpa using h1]
      exact ⟨⟨Nat.le_refl _, by simp only; omega⟩, fun j hj1 hj2 => by simp only at hj2; omega, .inr fun h => h1 h.1⟩
/-- layers in good order: their number, what each one holds -/
def okL (N : Nat) (a b : Nat → Int) : Prop := ∀ i, i < N → (1 ≤ a i ∧ a i ≤ 1000000) ∧ 0 ≤ b i ∧ b i ≤ 1000000000
theorem amQ_bd {a : Nat → Int} {am : Int} {N : Nat} {b : Nat → Int} (hL : okL N a b) (h0 : 1 ≤ am) (h1 : am ≤ 1000000) : ∀ k, k ≤ N → (∀ j, j < k → a j ≤ amQ a am j) → 0 ≤ amQ a am k ∧ amQ a am k ≤ 1000000
  | 0, _, _ => ⟨by show 0 ≤ am; omega, h1⟩
  | k + 1, hk, hj => by
    obtain ⟨q1, q2⟩ := amQ_bd hL h0 h1 k (by omega) fun j h => hj j (by omega)
    have q3 := hj k (by omega)
    have q4 := (hL k (by omega)).1
    show 0 ≤ w64 (amQ a am k - a k) ∧ w64 (amQ a am k - a k) ≤ 1000000
    rw [show w64 (amQ a am k - a k) = amQ a am k - a k from wrap_id (by omega) (by omega)]
    omega
/-! ### the loop -/
section
variable (n : Nat) (room am : Int) (top : Bool) (z1 z2 a b : Nat → Int)
theorem dqTk_into (g : Gt) (r : Gr) (k j M : Nat) (x ht : Int) : dqT g r n room am top z1 z2 (Nat.beq k 0) k (j + 1) M a b x ht = into (dqT g r n room am top z1 z2 (Nat.beq k 0) k (j + 1) M a b x ht) (dqSk n room top z1 z2 (Nat.beq k 0) k j M a b x ht) := by
  cases k with
  | zero => exact dqT0_into g r n room am top z1 z2 j M a b x ht
  | succ k => exact dqT_into g r n room am top z1 z2 (k + 1) j M a b x ht
theorem dqTk_fits (g : Gt) (r : Gr) (k j M : Nat) (x ht : Int) : fits (dqT g r n room am top z1 z2 (Nat.beq k 0) k (j + 1) M a b x ht) (dqSk n room top z1 z2 (Nat.beq k 0) k j M a b x ht) = true := by
  cases k with
  | zero => exact dqT0_fits g r n room am top z1 z2 j M a b x ht
  | succ k => exact dqT_fits g r n room am top z1 z2 (k + 1) j M a b x ht
theorem dqT_eq (g : Gt) (r : Gr) (own : Bool) (k m M : Nat) (a b : Nat → Int) (x ht : Int) : (dqRe g r (loopF Tryz.f60) (dqS n room top z1 z2 own k m M a b x ht)).bind (canonT [1, 2, 3, 6, 9, 10] [2, 3, 6, 9, 10] (dqB n room am top z1 z2)) = dqT g r n room am top z1 z2 own k m M a b x ht := by delta dqT; rfl
/-- where the loop stops -/
def kQ : Nat := stopQ a am n 0
def pxQ : Int := amQ a am (kQ n am a)
def dqHd : Nat ⊕ Unit → St
  | .inl k => dqS n room top z1 z2 (Nat.beq k 0) k (n - k) n a b (amQ a am k) (htQ b k)
  | .inr _ => dqS n room top z1 z2 true 0 (n - kQ n am a) (n - kQ n am a) (ptA a (kQ n am a) (pxQ n am a)) (ptB a b (kQ n am a) (pxQ n am a)) 0 (w64 (htQ b (kQ n am a) + ptT a b (kQ n am a) (pxQ n am a)))
def dqMu : Nat ⊕ Unit → Nat
  | .inl k => n - k + 1
  | .inr _ => 0
def dqGd : Nat ⊕ Unit → Prop
  | .inl k => k ≤ kQ n am a
  | .inr _ => amQ a am (kQ n am a) > 0
def dqFin : X × St := match decide (amQ a am (kQ n am a) > 0) with
  | true => (.exit 0, dqX n room top z1 z2 true 0 (n - kQ n am a) (n - kQ n am a) (ptA a (kQ n am a) (pxQ n am a)) (ptB a b (kQ n am a) (pxQ n am a)) 0 (w64 (htQ b (kQ n am a) + ptT a b (kQ n am a) (pxQ n am a))))
  | false => (.exit 0, dqX n room top z1 z2 (Nat.beq (kQ n am a) 0) (kQ n am a) (n - kQ n am a) n a b 0 (htQ b (kQ n am a)))
theorem dq_loop (hL : okL n a b) (h0 : 1 ≤ am) (h1 : am ≤ 1000000) (hn : n ≤ 1000) (hz : (∀ j, j < n → a j ≤ amQ a am j) → amQ a am n ≤ 0) : ComesF Tryz.prog (.loop (loopF Tryz.f60)) (dqB n room am top z1 z2) (dqHd n room am top z1 z2 a b (.inl 0)) fun q => q = dqFin n room am top z1 z2 a b := by
  obtain ⟨⟨_, f1⟩, f2, f3⟩ := stop_facts a am n 0
  have f1 : kQ n am a ≤ n := by unfold kQ; omega
  have f2 : ∀ j, j < kQ n am a → amQ a am j > 0 ∧ a j ≤ amQ a am j := fun j hj => f2 j (by omega) hj
  have f3 : kQ n am a = n ∨ ¬ (amQ a am (kQ n am a) > 0 ∧ a (kQ n am a) ≤ amQ a am (kQ n am a)) := by unfold kQ; rcases f3 with h | h; exact .inl (by omega); exact .inr h
  have hbd : ∀ k, k ≤ kQ n am a → 0 ≤ amQ a am k ∧ amQ a am k ≤ 1000000 := fun k hk => amQ_bd hL h0 h1 k (by omega) fun j hj => (f2 j (by omega)).2
  have c1 : ∀ j, (decide (0 ≤ (1 : Int)) && decide ((1 : Int) ≤ ((j + 1 : Nat) : Int)) && decide (((j + 1 : Nat) : Int) ≤ ((j + 1 : Nat) : Int))) = true := fun j => by simp only [Bool.and_eq_true, decide_eq_true_eq]; omega
  have c2 : ∀ j : Nat, (decide (0 ≤ (0 : Int)) && decide ((0 : Int) < ((j + 1 : Nat) : Int))) = true := fun j => by simp only [Bool.and_eq_true, decide_eq_true_eq]; omega
  have eJ : ∀ j, dqJ j = j := fun j => by unfold dqJ; omega
  refine loop_all (rec := dqRe togS revS) (recT_ok tbDq_ok) rfl [1, 2, 3, 6, 9, 10] [2, 3, 6, 9, 10] (dqHd n room am top z1 z2 a b) (dqMu n) (dqGd n am a) (fun _ => dqFin n room am top z1 z2 a b) (fun x hx => ?_) (.inl 0) (Nat.zero_le _)
  cases x with
  | inr u =>
    have hx : amQ a am (kQ n am a) > 0 := hx
    show ((dqRe togS revS (loopF Tryz.f60) (dqS n room top z1 z2 true 0 (n - kQ n am a) (n - kQ n am a) (ptA a (kQ n am a) (pxQ n am a)) (ptB a b (kQ n am a) (pxQ n am a)) 0 (w64 (htQ b (kQ n am a) + ptT a b (kQ n am a) (pxQ n am a))))).bind (canonT [1, 2, 3, 6, 9, 10] [2, 3, 6, 9, 10] (dqB n room am top z1 z2))).All _
    rw [dqT_eq]
    refine all_into (dqTz_into togS revS n room am top z1 z2 _ _ _ _ _ _ _) (dqTz_fits togS revS n room am top z1 z2 _ _ _ _ _ _ _) (SkLeads.all (sk_ff (sk_leaf ?_)))
    show _ = dqFin n room am top z1 z2 a b
    unfold dqFin
    rw [show decide (amQ a am (kQ n am a) > 0) = true by simpa using hx]
  | inl k =>
    have hx : k ≤ kQ n am a := hx
    show ((dqRe togS revS (loopF Tryz.f60) (dqS n room top z1 z2 (Nat.beq k 0) k (n - k) n a b (amQ a am k) (htQ b k))).bind (canonT [1, 2, 3, 6, 9, 10] [2, 3, 6, 9, 10] (dqB n room am top z1 z2))).All _
    rw [dqT_eq]
    obtain ⟨b1, b2⟩ := hbd k hx
    by_cases hp : amQ a am k > 0
    · have hkn : k < n := by
        rcases Nat.lt_or_ge k n with h | h
        · exact h
        · have e : k = n := by omega
          subst e
          have := hz fun j hj => (f2 j (by omega)).2
          omega
      obtain ⟨j, hj⟩ : ∃ j, n - k = j + 1 := ⟨n - k - 1, by omega⟩
      have hA := (hL k hkn).1
      rw [hj]
      refine all_into (dqTk_into n room am top z1 z2 a b togS revS k j n _ _) (dqTk_fits n room am top z1 z2 a b togS revS k j n _ _) (SkLeads.all ?_)
      refine sk_yes (by simpa using hp) (sk_need (c2 j) (sk_need (bltR' (show k + Int.toNat 0 < n from hkn)) (sk_need (bltR' (show k + Int.toNat 0 < n from hkn)) ?_)))
      by_cases hq : a k ≤ amQ a am k
      · have hlt : k < kQ n am a := by
          rcases Nat.lt_or_eq_of_le hx with h | h
          · exact h
          · subst h
            rcases f3 with h | h
            · omega
            · exact absurd ⟨hp, hq⟩ h
        refine sk_yes (by simpa using hq) (sk_need (c1 j) (sk_leaf (Exists.intro (.inl (k + 1)) ⟨?_, hlt, by show n - (k + 1) + 1 < n - k + 1; omega, rfl⟩)))
        show (dqS n room top z1 z2 false (k + 1) (dqJ j) n a b (amQ a am (k + 1)) (htQ b (k + 1))).Le (dqS n room top z1 z2 false (k + 1) (n - (k + 1)) n a b (amQ a am (k + 1)) (htQ b (k + 1)))
        rw [eJ, show n - (k + 1) = j by omega]
        exact St.Le.refl _
      · have hK : k = kQ n am a := by
          rcases Nat.lt_or_eq_of_le hx with h | h
          · exact absurd (f2 k h).2 hq
          · exact h
        subst hK
        refine sk_no (by simpa using hq) (sk_need (by show (!(a (kQ n am a) == 0)) = true; simp only [Bool.not_eq_true', beq_eq_false_iff_ne, ne_eq]; omega) (sk_need (c1 j) (sk_need ?_ (sk_leaf (Exists.intro (.inr ()) ⟨?_, hp, Nat.succ_pos _, rfl⟩)))))
        · rw [eJ, bleZ (show kQ n am a + Int.toNat 1 + j ≤ n by show kQ n am a + 1 + j ≤ n; omega), bleZ (by omega), bleZ (by omega)]; rfl
        · show (dqS n room top z1 z2 true 0 (dqJ j + 1) (dqJ j + 1) (ptA a (kQ n am a) (pxQ n am a)) (ptB a b (kQ n am a) (pxQ n am a)) 0 (w64 (htQ b (kQ n am a) + ptT a b (kQ n am a) (pxQ n am a)))).Le (dqS n room top z1 z2 true 0 (n - kQ n am a) (n - kQ n am a) (ptA a (kQ n am a) (pxQ n am a)) (ptB a b (kQ n am a) (pxQ n am a)) 0 (w64 (htQ b (kQ n am a) + ptT a b (kQ n am a) (pxQ n am a))))
          rw [eJ, hj]
          exact St.Le.refl _
    · have e0 : amQ a am k = 0 := by omega
      have hK : k = kQ n am a := by
        rcases Nat.lt_or_eq_of_le hx with h | h
        · exact absurd (f2 k h).1 hp
        · exact h
      rw [e0]
      refine all_into (dqTz_into togS revS n room am top z1 z2 _ _ _ _ _ _ _) (dqTz_fits togS revS n room am top z1 z2 _ _ _ _ _ _ _) (SkLeads.all (sk_ff (sk_leaf ?_)))
      show _ = dqFin n room am top z1 z2 a b
      unfold dqFin
      rw [← hK, e0]
      rfl
end
end Go.Ev

namespace Go.Ev
open Go Go.Proofs
set_option maxRecDepth 100000

theorem ix_lt {top : Bool} {n j : Nat} (h : j < n) : ixT top n j < n := by
  cases top with
  | true => show n - 1 - j < n; omega
  | false => exact h
theorem ix_inj {top : Bool} {n i j : Nat} (hi : i < n) (hj : j < n) (e : ixT top n i = ixT top n j) : i = j := by
  cases top with
  | true => have e : n - 1 - i = n - 1 - j := e; omega
  | false => exact e
theorem prod_bd {b m : Int} (h1 : 0 ≤ b) (h2 : b ≤ 1000000000) (h3 : 0 ≤ m) (h4 : m ≤ 1000000) : 0 ≤ b * m ∧ b * m ≤ 1000000000000000 := by
  refine ⟨Int.mul_nonneg h1 h3, ?_⟩
  have h5 : b * m ≤ 1000000000 * m := Int.mul_le_mul_of_nonneg_right h2 h3
  have h6 : (1000000000 : Int) * m ≤ 1000000000 * 1000000 := Int.mul_le_mul_of_nonneg_left h4 (by decide)
  omega
theorem take_all {a b : Int} (ha : 1 ≤ a ∧ a ≤ 1000000) (hb : 0 ≤ b ∧ b ≤ 1000000000) : w64 ((w64 (b * a)).tdiv a) = b := by
  obtain ⟨p1, p2⟩ := prod_bd hb.1 hb.2 (show 0 ≤ a by omega) ha.2
  rw [show w64 (b * a) = b * a from wrap_id (by omega) (by omega), Int.mul_tdiv_cancel _ (by omega)]
  exact wrap_id (by omega) (by omega)
theorem take_zero (a b : Int) : w64 ((w64 (b * 0)).tdiv a) = 0 := by
  rw [Int.mul_zero, show w64 (0 : Int) = 0 from wrap_id (by omega) (by omega), Int.zero_tdiv]
  exact wrap_id (by omega) (by omega)
theorem w64_w64 (x : Int) : w64 (w64 x + 0) = w64 x := by
  rw [Int.add_zero]
  unfold w64
  rw [IntKind.wrap_i64, IntKind.wrap_i64]
  omega
theorem htQ_bd {a b : Nat → Int} {N : Nat} (hL : okL N a b) (hN : N ≤ 1000) : ∀ k, k ≤ N → 0 ≤ htQ b k ∧ htQ b k ≤ k * 1000000000
  | 0, _ => ⟨Int.le_refl _, by show (0 : Int) ≤ _; omega⟩
  | k + 1, hk => by
    obtain ⟨q1, q2⟩ := htQ_bd hL hN k (by omega)
    have q4 := (hL k (by omega)).2
    have e : htQ b (k + 1) = htQ b k + b k := wrap_id (by omega) (by omega)
    rw [e]
    omega
section
variable {top : Bool} {n : Nat} {am : Int} {z1 z2 a b : Nat → Int} (hab : ∀ j, j < n → a j = z1 (ixT top n j) ∧ b j = z2 (ixT top n j)) (hL : okL n a b) (h0 : 1 ≤ am) (h1 : am ≤ 1000000)
include hab hL
theorem dr_pre : ∀ k, k ≤ n → (∀ j, j < k → amQ a am j > 0 ∧ a j ≤ amQ a am j) → (drN top n am z1 z2 k).1 = amQ a am k ∧ (drN top n am z1 z2 k).2.1 = htQ b k ∧ ∀ j, j < n → (drN top n am z1 z2 k).2.2.1 (ixT top n j) = (if j < k then 0 else a j) ∧ (drN top n am z1 z2 k).2.2.2 (ixT top n j) = (if j < k then 0 else b j)
  | 0, _, _ => ⟨rfl, rfl, fun j hj => ⟨(hab j hj).1.symm, (hab j hj).2.symm⟩⟩
  | k + 1, hk, hw => by
    obtain ⟨i1, i2, i3⟩ := dr_pre k (by omega) fun j hj => hw j (by omega)
    obtain ⟨w1, w2⟩ := hw k (by omega)
    obtain ⟨e1, e2⟩ := hab k (by omega)
    obtain ⟨la, lb⟩ := hL k (by omega)
    have em : minZ (z1 (ixT top n k)) (amQ a am k) = a k := by
      rw [← e1]; unfold minZ; split <;> omega
    have et : takeZ z1 z2 (amQ a am k) (ixT top n k) = b k := by
      unfold takeZ
      rw [em, ← e1, ← e2]
      exact take_all la lb
    have hs : drN top n am z1 z2 (k + 1) = drSt z1 z2 (drN top n am z1 z2 k) (ixT top n k) := rfl
    rw [hs]
    unfold drSt
    rw [i1, i2, em, et]
    refine ⟨rfl, rfl, fun j hj => ?_⟩
    show putF _ _ _ _ = _ ∧ putF _ _ _ _ = _
    by_cases hjk : j = k
    · subst hjk
      rw [putF_same, putF_same, ← e1, ← e2, if_pos (by omega), if_pos (by omega), Int.sub_self, Int.sub_self]
      exact ⟨wrap_id (by omega) (by omega), wrap_id (by omega) (by omega)⟩
    · have hne : ixT top n j ≠ ixT top n k := fun e => hjk (ix_inj hj (by omega) e)
      rw [putF_other _ _ hne, putF_other _ _ hne]
      obtain ⟨i4, i5⟩ := i3 j hj
      rw [i4, i5]
      by_cases hjl : j < k
      · rw [if_pos hjl, if_pos hjl, if_pos (by omega), if_pos (by omega)]; exact ⟨rfl, rfl⟩
      · rw [if_neg hjl, if_neg hjl, if_neg (by omega), if_neg (by omega)]; exact ⟨rfl, rfl⟩
/-- what is behind the layer that is taken in part, or not -/
theorem dr_post {K : Nat} (hK : K < n) (hw : ∀ j, j < K → amQ a am j > 0 ∧ a j ≤ amQ a am j) (hx0 : 0 ≤ amQ a am K) (hx : amQ a am K < a K) : ∀ d, K + 1 + d ≤ n → (drN top n am z1 z2 (K + 1 + d)).1 = 0 ∧ (drN top n am z1 z2 (K + 1 + d)).2.1 = w64 (htQ b K + ptT a b K (amQ a am K)) ∧ ∀ j, j < n →
    (drN top n am z1 z2 (K + 1 + d)).2.2.1 (ixT top n j) = (if j < K then 0 else if j = K then w64 (a K - amQ a am K) else a j) ∧ (drN top n am z1 z2 (K + 1 + d)).2.2.2 (ixT top n j) = (if j < K then 0 else if j = K then w64 (b K - ptT a b K (amQ a am K)) else b j)
  | 0, _ => by
    obtain ⟨i1, i2, i3⟩ := dr_pre hab hL K (by omega) hw
    obtain ⟨e1, e2⟩ := hab K hK
    have em : minZ (z1 (ixT top n K)) (amQ a am K) = amQ a am K := by
      rw [← e1]; unfold minZ; rw [if_neg (by omega)]
    have et : takeZ z1 z2 (amQ a am K) (ixT top n K) = ptT a b K (amQ a am K) := by
      unfold takeZ
      rw [em, ← e1, ← e2]
      rfl
    have hs : drN top n am z1 z2 (K + 1 + 0) = drSt z1 z2 (drN top n am z1 z2 K) (ixT top n K) := rfl
    rw [hs]
    unfold drSt
    rw [i1, i2, em, et]
    refine ⟨by show w64 (amQ a am K - amQ a am K) = 0; rw [Int.sub_self]; exact wrap_id (by omega) (by omega), rfl, fun j hj => ?_⟩
    show putF _ _ _ _ = _ ∧ putF _ _ _ _ = _
    by_cases hjk : j = K
    · subst hjk
      rw [putF_same, putF_same, ← e1, ← e2]
      refine ⟨?_, ?_⟩ <;> rw [if_neg (Nat.lt_irrefl _), if_pos rfl]
    · have hne : ixT top n j ≠ ixT top n K := fun e => hjk (ix_inj hj hK e)
      rw [putF_other _ _ hne, putF_other _ _ hne]
      obtain ⟨i4, i5⟩ := i3 j hj
      rw [i4, i5, if_neg hjk, if_neg hjk]
      exact ⟨rfl, rfl⟩
  | d + 1, hd => by
    obtain ⟨i1, i2, i3⟩ := dr_post hK hw hx0 hx d (by omega)
    obtain ⟨e1, e2⟩ := hab (K + 1 + d) (by omega)
    have la := (hL (K + 1 + d) (by omega)).1
    have em : minZ (z1 (ixT top n (K + 1 + d))) 0 = 0 := by
      rw [← e1]; unfold minZ; rw [if_neg (by omega)]
    have et : takeZ z1 z2 0 (ixT top n (K + 1 + d)) = 0 := by
      unfold takeZ
      rw [em]
      exact take_zero _ _
    have hs : drN top n am z1 z2 (K + 1 + (d + 1)) = drSt z1 z2 (drN top n am z1 z2 (K + 1 + d)) (ixT top n (K + 1 + d)) := rfl
    rw [hs]
    unfold drSt
    rw [i1, i2, em, et]
    refine ⟨by show w64 (0 - 0) = 0; rw [Int.sub_self]; exact wrap_id (by omega) (by omega), w64_w64 _, fun j hj => ?_⟩
    show putF _ _ _ _ = _ ∧ putF _ _ _ _ = _
    by_cases hjk : j = K + 1 + d
    · subst hjk
      have lb := (hL (K + 1 + d) (by omega)).2
      rw [putF_same, putF_same, ← e1, ← e2, Int.sub_zero, Int.sub_zero]
      refine ⟨?_, ?_⟩ <;> rw [if_neg (show ¬ K + 1 + d < K by omega), if_neg (show ¬ K + 1 + d = K by omega)] <;> exact wrap_id (by omega) (by omega)
    · have hne : ixT top n j ≠ ixT top n (K + 1 + d) := fun e => hjk (ix_inj hj (by omega) e)
      rw [putF_other _ _ hne, putF_other _ _ hne]
      exact i3 j hj
end
/-! ### the ones of nothing left out -/
theorem del_suf {F H : Nat → Int} {K n : Nat} (h1 : ∀ j, j < K → nilP F H j = true) (h2 : ∀ j, K ≤ j → j < n → nilP F H j = false) : ∀ k, k ≤ n → (delS F H k).1 = k - K ∧ ∀ i, i < k - K → (delS F H k).2.1 i = F (K + i) ∧ (delS F H k).2.2 i = H (K + i)
  | 0, _ => ⟨by show 0 = _; omega, fun i hi => by omega⟩
  | k + 1, hk => by
    obtain ⟨i1, i2⟩ := del_suf h1 h2 k (by omega)
    unfold delS
    rcases Nat.lt_or_ge k K with h | h
    · rw [h1 k h]
      exact ⟨by simp only; omega, fun i hi => by omega⟩
    · rw [h2 k h (by omega)]
      refine ⟨by show (delS F H k).1 + 1 = _; omega, fun i hi => ?_⟩
      show putF (delS F H k).2.1 (delS F H k).1 (F k) i = _ ∧ putF (delS F H k).2.2 (delS F H k).1 (H k) i = _
      rw [i1]
      by_cases e : i = k - K
      · subst e
        rw [putF_same, putF_same, show K + (k - K) = k by omega]
        exact ⟨rfl, rfl⟩
      · rw [putF_other _ _ e, putF_other _ _ e]
        exact i2 i (by omega)
theorem del_prf {F H : Nat → Int} {m : Nat} (h1 : ∀ j, j < m → nilP F H j = false) : ∀ d, (∀ j, m ≤ j → j < m + d → nilP F H j = true) → (delS F H (m + d)).1 = m ∧ (∀ i, (delS F H (m + d)).2.1 i = F i) ∧ ∀ i, (delS F H (m + d)).2.2 i = H i
  | 0, _ => delS_all m h1
  | d + 1, h2 => by
    have ih := del_prf h1 d fun j hj1 hj2 => h2 j hj1 (by omega)
    have hs : delS F H (m + (d + 1)) = match nilP F H (m + d) with | true => delS F H (m + d) | false => pushT (delS F H (m + d)) (F (m + d)) (H (m + d)) := rfl
    rw [hs, h2 (m + d) (by omega) (by omega)]
    exact ih
/-- which one of so many, from one end or from the other one -/
def posQ (top : Bool) (m i : Nat) : Nat := match top with | true => m - 1 - i | false => i
def qL (a : Nat → Int) (K : Nat) (x : Int) (i : Nat) : Int := if i = 0 then w64 (a K - x) else a (K + i)
def qLb (a b : Nat → Int) (K : Nat) (x : Int) (i : Nat) : Int := if i = 0 then w64 (b K - ptT a b K x) else b (K + i)
section
variable {top : Bool} {n : Nat} {am : Int} {z1 z2 a b : Nat → Int} (hab : ∀ j, j < n → a j = z1 (ixT top n j) ∧ b j = z2 (ixT top n j)) (hL : okL n a b) (h0 : 1 ≤ am) (h1 : am ≤ 1000000) (hn : n ≤ 1000) (hz : (∀ j, j < n → a j ≤ amQ a am j) → amQ a am n ≤ 0)
include hab hL h0 h1 hn hz
theorem dr_all : kQ n am a ≤ n ∧ 0 ≤ amQ a am (kQ n am a) ∧ (kQ n am a < n → amQ a am (kQ n am a) < a (kQ n am a)) ∧ drH n am top z1 z2 = (match decide (amQ a am (kQ n am a) > 0) with | true => w64 (htQ b (kQ n am a) + ptT a b (kQ n am a) (pxQ n am a)) | false => htQ b (kQ n am a)) ∧ ∀ j, j < n →
    (drN top n am z1 z2 n).2.2.1 (ixT top n j) = (if j < kQ n am a then 0 else if j = kQ n am a then w64 (a (kQ n am a) - amQ a am (kQ n am a)) else a j) ∧ (drN top n am z1 z2 n).2.2.2 (ixT top n j) = (if j < kQ n am a then 0 else if j = kQ n am a then w64 (b (kQ n am a) - ptT a b (kQ n am a) (amQ a am (kQ n am a))) else b j) := by
  obtain ⟨⟨_, g1⟩, g2, g3⟩ := stop_facts a am n 0
  have f1 : kQ n am a ≤ n := by unfold kQ; omega
  have f2 : ∀ j, j < kQ n am a → amQ a am j > 0 ∧ a j ≤ amQ a am j := fun j hj => g2 j (by omega) hj
  have f3 : kQ n am a = n ∨ ¬ (amQ a am (kQ n am a) > 0 ∧ a (kQ n am a) ≤ amQ a am (kQ n am a)) := by unfold kQ; rcases g3 with h | h; exact .inl (by omega); exact .inr h
  clear g1 g2 g3
  unfold drH pxQ
  revert f1 f2 f3
  generalize kQ n am a = K
  intro f1 f2 f3
  have hbd := amQ_bd hL h0 h1 K f1 fun j hj => (f2 j hj).2
  have hht := htQ_bd hL hn K f1
  rcases Nat.lt_or_ge K n with hK | hK
  · have hx : amQ a am K < a K := by
      have la := (hL K hK).1
      rcases f3 with h | h
      · omega
      · by_cases hp : amQ a am K > 0
        · rcases Int.lt_or_le (amQ a am K) (a K) with h' | h'
          · exact h'
          · exact absurd ⟨hp, h'⟩ h
        · omega
    obtain ⟨p1, p2, p3⟩ := dr_post hab hL hK f2 hbd.1 hx (n - K - 1) (by omega)
    rw [show K + 1 + (n - K - 1) = n by omega] at p1 p2 p3
    refine ⟨f1, hbd.1, fun _ => hx, ?_, p3⟩
    rw [p2]
    by_cases hp : amQ a am K > 0
    · rw [show decide (amQ a am K > 0) = true by simpa using hp]
    · rw [show decide (amQ a am K > 0) = false by simpa using hp, show amQ a am K = 0 by omega]
      have e : ptT a b K 0 = 0 := take_zero _ _
      rw [e, Int.add_zero]
      exact wrap_id (by omega) (by omega)
  · obtain rfl : K = n := by omega
    obtain ⟨p1, p2, p3⟩ := dr_pre hab hL K (Nat.le_refl _) f2
    have e0 : amQ a am K = 0 := by have := hz fun j hj => (f2 j hj).2; omega
    refine ⟨f1, hbd.1, fun h => by omega, ?_, fun j hj => ?_⟩
    · rw [p2, e0]; rfl
    · obtain ⟨q1, q2⟩ := p3 j hj
      rw [q1, q2, if_pos hj, if_pos hj, if_pos hj, if_pos hj]
      exact ⟨rfl, rfl⟩
theorem dr_list : (drM n am top z1 z2).1 = n - kQ n am a ∧ ∀ i, i < n - kQ n am a →
    (drM n am top z1 z2).2.1 i = qL a (kQ n am a) (pxQ n am a) (posQ top (n - kQ n am a) i) ∧ (drM n am top z1 z2).2.2 i = qLb a b (kQ n am a) (pxQ n am a) (posQ top (n - kQ n am a) i) := by
  obtain ⟨f1, f2, f3, _, f4⟩ := dr_all hab hL h0 h1 hn hz
  unfold drM drL pxQ
  revert f1 f2 f3 f4
  generalize kQ n am a = K
  intro f1 f2 f3 f4
  generalize (drN top n am z1 z2 n).2.2.1 = F at f4 ⊢
  generalize (drN top n am z1 z2 n).2.2.2 = H at f4 ⊢
  have nil1 : ∀ j, j < K → nilP F H (ixT top n j) = true := fun j hj => by
    obtain ⟨q1, q2⟩ := f4 j (by omega)
    unfold nilP
    rw [q1, q2, if_pos hj, if_pos hj]; rfl
  have nil2 : ∀ j, K ≤ j → j < n → nilP F H (ixT top n j) = false := fun j hj1 hj2 => by
    obtain ⟨q1, _⟩ := f4 j hj2
    have la := (hL j hj2).1
    have hne : F (ixT top n j) ≠ 0 := by
      rw [q1, if_neg (by omega)]
      split
      · rename_i e
        subst e
        have := f3 hj2
        rw [show w64 (a j - amQ a am j) = a j - amQ a am j from wrap_id (by omega) (by omega)]
        omega
      · omega
    unfold nilP
    rw [show (F (ixT top n j) == 0) = false by simpa using hne]; rfl
  cases top with
  | false =>
    obtain ⟨d1, d2⟩ := del_suf (F := F) (H := H) (K := K) (n := n) nil1 nil2 n (Nat.le_refl _)
    refine ⟨d1, fun i hi => ?_⟩
    obtain ⟨d3, d4⟩ := d2 i hi
    obtain ⟨q1, q2⟩ := f4 (K + i) (by omega)
    have q1 : F (K + i) = _ := q1
    have q2 : H (K + i) = _ := q2
    rw [d3, d4, q1, q2, if_neg (show ¬ K + i < K by omega), if_neg (show ¬ K + i < K by omega)]
    unfold posQ qL qLb
    by_cases e : i = 0
    · subst e; simp
    · rw [if_neg (show ¬ K + i = K by omega), if_neg (show ¬ K + i = K by omega), if_neg e, if_neg e]
      exact ⟨rfl, rfl⟩
  | true =>
    have hix : ∀ p, p < n → ixT true n (n - 1 - p) = p := fun p hp => by show n - 1 - (n - 1 - p) = p; omega
    obtain ⟨d1, d2, d3⟩ := del_prf (F := F) (H := H) (m := n - K) (fun p hp => by have := nil2 (n - 1 - p) (by omega) (by omega); rw [hix p (by omega)] at this; exact this) K (fun p hp1 hp2 => by have := nil1 (n - 1 - p) (by omega); rw [hix p (by omega)] at this; exact this)
    rw [show n - K + K = n by omega] at d1 d2 d3
    refine ⟨d1, fun i hi => ?_⟩
    obtain ⟨q1, q2⟩ := f4 (n - 1 - i) (by omega)
    rw [hix i (by omega)] at q1 q2
    rw [d2, d3, q1, q2, if_neg (show ¬ n - 1 - i < K by omega), if_neg (show ¬ n - 1 - i < K by omega)]
    unfold posQ qL qLb
    by_cases e : n - 1 - i = K
    · rw [if_pos e, if_pos e, if_pos (show n - K - 1 - i = 0 by omega), if_pos (show n - K - 1 - i = 0 by omega)]
      exact ⟨rfl, rfl⟩
    · rw [if_neg e, if_neg e, if_neg (show ¬ n - K - 1 - i = 0 by omega), if_neg (show ¬ n - K - 1 - i = 0 by omega), show K + (n - K - 1 - i) = n - 1 - i by omega]
      exact ⟨rfl, rfl⟩
end
end Go.Ev

namespace Go.Ev
open Go Go.Proofs
set_option maxRecDepth 100000

def sumP (f : Nat → Int) : Nat → Int
  | 0 => 0
  | k + 1 => sumP f k + f k
theorem sumP_cong {f f' : Nat → Int} : ∀ k, (∀ i, i < k → f i = f' i) → sumP f k = sumP f' k
  | 0, _ => rfl
  | k + 1, h => by
    show sumP f k + f k = sumP f' k + f' k
    rw [sumP_cong k fun i hi => h i (by omega), h k (by omega)]
theorem sumP_front (f : Nat → Int) : ∀ k, sumP f (k + 1) = f 0 + sumP (fun i => f (i + 1)) k
  | 0 => by show 0 + f 0 = f 0 + 0; omega
  | k + 1 => by
    have ih := sumP_front f k
    show sumP f (k + 1) + f (k + 1) = f 0 + (sumP (fun i => f (i + 1)) k + f (k + 1))
    omega
theorem sumP_rev (z : Nat → Int) : ∀ n, sumP (fun j => z (n - 1 - j)) n = sumP z n
  | 0 => rfl
  | n + 1 => by
    rw [sumP_front]
    have ih := sumP_rev z n
    show z (n + 1 - 1 - 0) + sumP (fun i => z (n + 1 - 1 - (i + 1))) n = sumP z n + z n
    rw [sumP_cong n (f := fun i => z (n + 1 - 1 - (i + 1))) (f' := fun j => z (n - 1 - j)) fun i _ => by show z (n + 1 - 1 - (i + 1)) = z (n - 1 - i); congr 1; omega]
    rw [ih, show n + 1 - 1 - 0 = n by omega]
    omega
theorem sumA_P {a b : Nat → Int} {n : Nat} (hL : okL n a b) (hn : n ≤ 1000) : ∀ k, k ≤ n → sumA a k = sumP a k ∧ 0 ≤ sumP a k ∧ sumP a k ≤ k * 1000000
  | 0, _ => ⟨rfl, Int.le_refl _, by show (0 : Int) ≤ _; omega⟩
  | k + 1, hk => by
    obtain ⟨q1, q2, q3⟩ := sumA_P hL hn k (by omega)
    have la := (hL k (by omega)).1
    have e : sumP a (k + 1) = sumP a k + a k := rfl
    refine ⟨?_, by omega, by omega⟩
    show w64 (sumA a k + a k) = _
    rw [q1, e]
    exact wrap_id (by omega) (by omega)
theorem amQ_P {a b : Nat → Int} {n : Nat} {am : Int} (hL : okL n a b) (h0 : 1 ≤ am) (h1 : am ≤ 1000000) : ∀ k, k ≤ n → (∀ j, j < k → a j ≤ amQ a am j) → amQ a am k = am - sumP a k
  | 0, _, _ => by show am = am - 0; omega
  | k + 1, hk, hw => by
    have ih := amQ_P hL h0 h1 k (by omega) fun j hj => hw j (by omega)
    have hb := amQ_bd hL h0 h1 k (by omega) fun j hj => hw j (by omega)
    have la := (hL k (by omega)).1
    have hwk := hw k (by omega)
    show w64 (amQ a am k - a k) = am - (sumP a k + a k)
    rw [show w64 (amQ a am k - a k) = amQ a am k - a k from wrap_id (by omega) (by omega), ih]
    omega
theorem hz_of {top : Bool} {n : Nat} {am : Int} {z1 z2 a b : Nat → Int} (hab : ∀ j, j < n → a j = z1 (ixT top n j) ∧ b j = z2 (ixT top n j)) (hL : okL n a b) (hLz : okL n z1 z2) (h0 : 1 ≤ am) (h1 : am ≤ 1000000) (hn : n ≤ 1000) (hs : am ≤ sumA z1 n) : (∀ j, j < n → a j ≤ amQ a am j) → amQ a am n ≤ 0 := fun hw => by
  rw [amQ_P hL h0 h1 n (Nat.le_refl _) hw]
  obtain ⟨q1, _, _⟩ := sumA_P hLz hn n (Nat.le_refl _)
  have e : sumP a n = sumP z1 n := by
    cases top with
    | false => exact sumP_cong n fun i hi => (hab i hi).1
    | true => rw [sumP_cong n (f' := fun j => z1 (n - 1 - j)) fun i hi => (hab i hi).1]; exact sumP_rev z1 n
  omega
theorem okL_ix {top : Bool} {n : Nat} {z1 z2 a b : Nat → Int} (hab : ∀ j, j < n → a j = z1 (ixT top n j) ∧ b j = z2 (ixT top n j)) (hL : okL n z1 z2) : okL n a b := fun i hi => by
  rw [(hab i hi).1, (hab i hi).2]
  exact hL _ (ix_lt hi)
/-! ### the call -/
section
variable (n : Nat) (room am : Int) (top : Bool) (z1 z2 : Nat → Int)
def dqW (t : T3) : Hp := hpT [⟨some 0, n, tkC z1 z2⟩] [] (boxT 76 room (slC true 2 2 t.1) :: layB 98 t)
theorem dq_leftb (e : Int) : Left2 Tryz.prog Tryz.f60 (tankH n z1 z2) (badD e) (tankH n z1 z2) (.ret, dqYb n z1 z2 e) := left_of (b := true) (by kernel_rfl)
theorem dq_left0 (ht : Int) : Left2 Tryz.prog Tryz.f60 (tankH n z1 z2) (goodD0 room ht) (tankH n z1 z2) (.ret, dqY0 n room z1 z2 ht) := left_of (b := true) (by kernel_rfl)
theorem dq_leftg (ht : Int) (t : T3) : Left2 Tryz.prog Tryz.f60 (tankH n z1 z2) (goodD room ht t.1) (dqW n room z1 z2 t) (.ret, dqYg n room z1 z2 ht t) := left_of (b := false) (by kernel_rfl)
def dqV : A × Hp := match decide (am > sumA z1 n) with
  | true => (badD 16, tankH n z1 z2)
  | false => match Nat.beq (drM n am top z1 z2).1 0 with
    | true => (goodD0 room (drH n am top z1 z2), tankH n z1 z2)
    | false => (goodD room (drH n am top z1 z2) (drK togS (drM n am top z1 z2)).1, dqW n room z1 z2 (drK togS (drM n am top z1 z2)))
theorem dqE_eq (own : Bool) (k m M : Nat) (a b : Nat → Int) (x ht : Int) : evO2 (dqRe togS revS) true (bodyOf Tryz.f60) (pathF Tryz.f60) [] [6, 7, 8] (dqB n room am top z1 z2) (.exit 0, dqX n room top z1 z2 own k m M a b x ht) = dqE togS revS n room am top z1 z2 own k m M a b x ht := by delta dqE; rfl
theorem okM_ok (m : Nat) : okM m = true := by unfold okM; rw [bleZ (Nat.le_refl m)]; rfl
/-- behind the loop, where the list holds what the program's list holds -/
theorem dq_tail (hs : ¬ am > sumA z1 n) (own : Bool) (k m M : Nat) (a b : Nat → Int) (x : Int) (hm : m = (drM n am top z1 z2).1) (hmM : k + m ≤ M) (hm2 : m ≤ 100000)
    (ha : ∀ i, i < m → (drM n am top z1 z2).2.1 i = upF a k (posQ top m i) ∧ (drM n am top z1 z2).2.2 i = upF b k (posQ top m i)) :
    Leads (CutF Tryz.prog (dqRe togS revS) (bodyOf Tryz.f60) (dqB n room am top z1 z2) (Left2 Tryz.prog Tryz.f60 (tankH n z1 z2) (dqV n room am top z1 z2).1 (dqV n room am top z1 z2).2) 0) (dqE togS revS n room am top z1 z2 own k m M a b x (drH n am top z1 z2)) := by
  have hd : decide (am > sumA z1 n) = false := by simpa using hs
  have k0 : Nat.beq m 0 = true → Left2 Tryz.prog Tryz.f60 (tankH n z1 z2) (dqV n room am top z1 z2).1 (dqV n room am top z1 z2).2 (.ret, dqY0 n room z1 z2 (drH n am top z1 z2)) := fun h => by
    rw [hm] at h
    unfold dqV
    rw [hd, h]
    exact dq_left0 n room z1 z2 _
  have k1 : Nat.beq m 0 = false → ∀ t, t = drK togS (drM n am top z1 z2) → Left2 Tryz.prog Tryz.f60 (tankH n z1 z2) (dqV n room am top z1 z2).1 (dqV n room am top z1 z2).2 (.ret, dqYg n room z1 z2 (drH n am top z1 z2) t) := fun h t ht => by
    rw [hm] at h
    subst ht
    unfold dqV
    rw [hd, h]
    exact dq_leftg n room z1 z2 _ _
  cases top with
  | false =>
    refine leads_in rfl (dqEf_into togS revS n room am z1 z2 own k m M a b x (drH n am false z1 z2)) (dqEf_fits togS revS n room am z1 z2 own k m M a b x (drH n am false z1 z2)) ?_
    refine sk_ff (sk_need (bleZ hmM) (sk_need (okM_ok m) (sk_need (bleZ hm2) (sk_either (fun h => sk_leaf (cutF_dn (k0 h))) fun h => sk_leaf (cutF_dn (k1 h _ ?_))))))
    unfold drK
    rw [← hm]
    exact togS_cong m (fun i hi => (ha i hi).1.symm) fun i hi => (ha i hi).2.symm
  | true =>
    refine leads_in rfl (dqEt_into togS revS n room am z1 z2 own k m M a b x (drH n am true z1 z2)) (dqEt_fits togS revS n room am z1 z2 own k m M a b x (drH n am true z1 z2)) ?_
    refine sk_tt (sk_need (bleZ hmM) (sk_need (okM_ok m) (sk_need (bleZ hm2) (sk_either (fun h => sk_tt (sk_leaf (cutF_dn (k0 h)))) fun h => sk_need (bleZ (by omega)) (sk_need (okM_ok m) (sk_need (bleZ hm2) (sk_either (fun h => sk_leaf (cutF_dn (k0 h))) fun h => sk_leaf (cutF_dn (k1 h _ ?_)))))))))
    unfold drK
    rw [← hm]
    refine togS_cong m (fun i hi => ?_) fun i hi => ?_
    · rw [(revS_get _ _ m m i hi).1]; exact (ha i hi).1.symm
    · rw [(revS_get _ _ m m i hi).2]; exact (ha i hi).2.symm
end
section
variable {n : Nat} {room am : Int} {top : Bool} {z1 z2 a b : Nat → Int}
theorem dq_end (hab : ∀ j, j < n → a j = z1 (ixT top n j) ∧ b j = z2 (ixT top n j)) (hLz : okL n z1 z2) (h0 : 1 ≤ am) (h1 : am ≤ 1000000) (hn : n ≤ 1000) (hs : ¬ am > sumA z1 n) :
    Leads (CutF Tryz.prog (dqRe togS revS) (bodyOf Tryz.f60) (dqB n room am top z1 z2) (Left2 Tryz.prog Tryz.f60 (tankH n z1 z2) (dqV n room am top z1 z2).1 (dqV n room am top z1 z2).2) 0) (evO2 (dqRe togS revS) true (bodyOf Tryz.f60) (pathF Tryz.f60) [] [6, 7, 8] (dqB n room am top z1 z2) (dqFin n room am top z1 z2 a b)) := by
  have hL := okL_ix hab hLz
  have hz := hz_of hab hL hLz h0 h1 hn (by omega)
  obtain ⟨f1, f2, f3, f4, _⟩ := dr_all hab hL h0 h1 hn hz
  obtain ⟨l1, l2⟩ := dr_list hab hL h0 h1 hn hz
  unfold dqFin
  cases hp : decide (amQ a am (kQ n am a) > 0) with
  | true =>
    rw [hp] at f4
    simp only
    rw [← show drH n am top z1 z2 = w64 (htQ b (kQ n am a) + ptT a b (kQ n am a) (pxQ n am a)) from f4, dqE_eq]
    refine dq_tail n room am top z1 z2 hs true 0 (n - kQ n am a) (n - kQ n am a) _ _ 0 l1.symm (by omega) (by omega) fun i hi => ?_
    obtain ⟨q1, q2⟩ := l2 i hi
    have e1 : ∀ i, upF (ptA a (kQ n am a) (pxQ n am a)) 0 i = qL a (kQ n am a) (pxQ n am a) i := fun i => by
      unfold upF ptA qL
      rw [Nat.add_zero]
      by_cases e : i = 0
      · subst e; rw [putF_same, if_pos rfl]; rfl
      · rw [putF_other _ _ e, if_neg e]
        show a (i - 1 + (kQ n am a + 1)) = _
        rw [show i - 1 + (kQ n am a + 1) = kQ n am a + i by omega]
    have e2 : ∀ i, upF (ptB a b (kQ n am a) (pxQ n am a)) 0 i = qLb a b (kQ n am a) (pxQ n am a) i := fun i => by
      unfold upF ptB qLb
      rw [Nat.add_zero]
      by_cases e : i = 0
      · subst e; rw [putF_same, if_pos rfl]; rfl
      · rw [putF_other _ _ e, if_neg e]
        show b (i - 1 + (kQ n am a + 1)) = _
        rw [show i - 1 + (kQ n am a + 1) = kQ n am a + i by omega]
    rw [q1, q2, e1, e2]
    exact ⟨rfl, rfl⟩
  | false =>
    rw [hp] at f4
    simp only
    have hx0 : amQ a am (kQ n am a) = 0 := by
      have : ¬ amQ a am (kQ n am a) > 0 := by simpa using hp
      omega
    rw [← show drH n am top z1 z2 = htQ b (kQ n am a) from f4, dqE_eq]
    refine dq_tail n room am top z1 z2 hs _ (kQ n am a) (n - kQ n am a) n a b 0 l1.symm (by omega) (by omega) fun i hi => ?_
    obtain ⟨q1, q2⟩ := l2 i hi
    have hKn : kQ n am a < n := by omega
    obtain ⟨la, lb⟩ := hL _ hKn
    have hpx : pxQ n am a = 0 := hx0
    have e1 : ∀ i, qL a (kQ n am a) (pxQ n am a) i = upF a (kQ n am a) i := fun i => by
      unfold upF qL
      rw [hpx, Int.sub_zero]
      by_cases e : i = 0
      · subst e; rw [if_pos rfl, Nat.zero_add]; exact wrap_id (by omega) (by omega)
      · rw [if_neg e, Nat.add_comm]
    have e2 : ∀ i, qLb a b (kQ n am a) (pxQ n am a) i = upF b (kQ n am a) i := fun i => by
      unfold upF qLb
      rw [hpx, show ptT a b (kQ n am a) 0 = 0 from take_zero _ _, Int.sub_zero]
      by_cases e : i = 0
      · subst e; rw [if_pos rfl, Nat.zero_add]; exact wrap_id (by omega) (by omega)
      · rw [if_neg e, Nat.add_comm]
    rw [q1, q2, e1, e2]
    exact ⟨rfl, rfl⟩
end
theorem dqO_eq (n : Nat) (room am : Int) (top : Bool) (z1 z2 : Nat → Int) : evO (dqRe togS revS) (bodyOf Tryz.f60) [1, 2, 3, 6, 9, 10] [6, 7, 8] (dqB n room am top z1 z2) = dqO togS revS n room am top z1 z2 := by delta dqO; rfl
theorem dq_call (n : Nat) (room am : Int) (top : Bool) (z1 z2 : Nat → Int) (hn : n + 1 ≤ 1000) (hLz : okL (n + 1) z1 z2) (h0 : 1 ≤ am) (h1 : am ≤ 1000000) : CallAt Tryz.prog 60 [tankA room (n + 1), int am, .one (.lit (.bool top))] (tankH (n + 1) z1 z2) (dqV (n + 1) room am top z1 z2).1 (dqV (n + 1) room am top z1 z2).2 := by
  have hb : decide (am > sumA z1 (n + 1)) = true → Left2 Tryz.prog Tryz.f60 (tankH (n + 1) z1 z2) (dqV (n + 1) room am top z1 z2).1 (dqV (n + 1) room am top z1 z2).2 (.ret, dqYb (n + 1) z1 z2 16) := fun g => by
    unfold dqV
    rw [g]
    exact dq_leftb (n + 1) z1 z2 16
  have cA : (Nat.ble (0 + (n + 1)) (n + 1) && Nat.ble ((n + 1 + 0) * 16) 140737488355328 && Nat.ble (n + 1 + 0) 9223372036854775807) = true := by rw [bleZ (by omega), bleZ (by omega), bleZ (by omega)]; rfl
  cases top with
  | false =>
    refine call_baseT (rec := dqRe togS revS) (recT_ok tbDq_ok) (c := bodyOf Tryz.f60) (fn := Tryz.f60) Tryz.func60 (by kernel_rfl) (by kernel_rfl) (false, true) 1 [1, 2, 3, 6, 9, 10] [6, 7, 8] (sB := dqB (n + 1) room am false z1 z2) (by kernel_rfl) (t := dqO togS revS (n + 1) room am false z1 z2) (dqO_eq (n + 1) room am false z1 z2) (dqOf_into togS revS n room am z1 z2) (dqOf_fits togS revS n room am z1 z2) ?_
    refine sk_need (okK_ok (n + 1)) (sk_need (bleZ (by omega)) (sk_either (fun g => sk_leaf (cutF_dn (hb g))) fun g => sk_need cA (sk_ff (sk_leaf ?_))))
    have hs : ¬ am > sumA z1 (n + 1) := by simpa using g
    have hab : ∀ j, j < n + 1 → upF z1 0 j = z1 (ixT false (n + 1) j) ∧ upF z2 0 j = z2 (ixT false (n + 1) j) := fun j _ => ⟨rfl, rfl⟩
    have hL := okL_ix hab hLz
    refine ⟨_, true, [], [6, 7, 8], comesF_stEq ?_ (dq_loop (n + 1) room am false z1 z2 (upF z1 0) (upF z2 0) hL h0 h1 hn (hz_of hab hL hLz h0 h1 hn (by omega))), fun q hq => Leads.all ?_⟩
    · rfl
    · subst hq
      exact dq_end hab hLz h0 h1 hn hs
  | true =>
    refine call_baseT (rec := dqRe togS revS) (recT_ok tbDq_ok) (c := bodyOf Tryz.f60) (fn := Tryz.f60) Tryz.func60 (by kernel_rfl) (by kernel_rfl) (false, true) 1 [1, 2, 3, 6, 9, 10] [6, 7, 8] (sB := dqB (n + 1) room am true z1 z2) (by kernel_rfl) (t := dqO togS revS (n + 1) room am true z1 z2) (dqO_eq (n + 1) room am true z1 z2) (dqOt_into togS revS n room am z1 z2) (dqOt_fits togS revS n room am z1 z2) ?_
    refine sk_need (okK_ok (n + 1)) (sk_need (bleZ (by omega)) (sk_either (fun g => sk_leaf (cutF_dn (hb g))) fun g => sk_need cA (sk_tt (sk_need (bleZ (by omega)) (sk_need (okM_ok _) (sk_need (bleZ (by omega)) (sk_ff (sk_leaf ?_))))))))
    have hs : ¬ am > sumA z1 (n + 1) := by simpa using g
    have hab : ∀ j, j < n + 1 → (revS (upF (upF z1 0) 0) (upF (upF z2 0) 0) (n + 1) (n + 1)).2.1 j = z1 (ixT true (n + 1) j) ∧ (revS (upF (upF z1 0) 0) (upF (upF z2 0) 0) (n + 1) (n + 1)).2.2 j = z2 (ixT true (n + 1) j) := fun j hj => revS_get (upF (upF z1 0) 0) (upF (upF z2 0) 0) (n + 1) (n + 1) j hj
    have hL := okL_ix hab hLz
    refine ⟨_, true, [], [6, 7, 8], comesF_stEq ?_ (dq_loop (n + 1) room am true z1 z2 _ _ hL h0 h1 hn (hz_of hab hL hLz h0 h1 hn (by omega))), fun q hq => Leads.all ?_⟩
    · rfl
    · subst hq
      exact dq_end hab hLz h0 h1 hn hs
end Go.Ev

namespace Go.Ev
open Go Go.Proofs
set_option maxRecDepth 100000

/-! ### a tank without layers -/
section
variable (g : Gt) (r : Gr) (room am : Int) (top : Bool)
def dqB0 : St := { baseB 76 [.agg [ci room, nilC], int am, .one (.lit (.bool top))] (hpT [] [] []) with keep := true }
def dqYb0 (e : Int) : St := stN 76 (envL [(6, .one (.ptr 0 0 1 0)), (7, int 0), (8, int e)]) (bsS [] []) [] [boxT 76 0 nilC] true
noncomputable def dqT0n : Tree ((X × St) ⊕ (List Bool × St)) := evO (dqRe g r) (bodyOf Tryz.f60) [1, 2, 3, 6, 9, 10] [6, 7, 8] (dqB0 room am top)
theorem dqT0_is : dqT0n g r room am top = .need true (.need true (.node (decide (am > sumA zF 0)) (.leaf (.inl (.ret, dqYb0 16))) (elseT (dqT0n g r room am top)))) := by
  cases top with
  | true => kernel_rfl
  | false => kernel_rfl
theorem dq_leftb0 (e : Int) : Left2 Tryz.prog Tryz.f60 (hpT [] [] []) (badD e) (hpT [] [] []) (.ret, dqYb0 e) := left_of (b := true) (by kernel_rfl)
theorem dq_call0 (hb : decide (am > sumA zF 0) = true) : CallAt Tryz.prog 60 [.agg [ci room, nilC], int am, .one (.lit (.bool top))] (hpT [] [] []) (badD 16) (hpT [] [] []) := by
  refine call_base (rec := dqRe togS revS) (recT_ok tbDq_ok) (c := bodyOf Tryz.f60) (fn := Tryz.f60) Tryz.func60 (by kernel_rfl) (by kernel_rfl) (false, true) 0 [1, 2, 3, 6, 9, 10] [6, 7, 8] (sB := dqB0 room am top) (by kernel_rfl) (t := dqT0n togS revS room am top) (by delta dqT0n; rfl) ?_
  rw [dqT0_is]
  exact ⟨rfl, rfl, all_nodeT hb (cutF_dn (dq_leftb0 _))⟩
end
section
variable (g : Gt) (r : Gr) (room am : Int) (top : Bool) (z1 z2 : Nat → Int)
theorem dqO0_is : dqO g r 0 room am top z1 z2 = .need true (.need true (.node (decide (am > sumA z1 0)) (.leaf (.inl (.ret, dqYb 0 z1 z2 16))) (elseT (dqO g r 0 room am top z1 z2)))) := by
  cases top with
  | true => kernel_rfl
  | false => kernel_rfl
theorem dq_calle (hb : decide (am > sumA z1 0) = true) : CallAt Tryz.prog 60 [tankA room 0, int am, .one (.lit (.bool top))] (tankH 0 z1 z2) (badD 16) (tankH 0 z1 z2) := by
  refine call_base (rec := dqRe togS revS) (recT_ok tbDq_ok) (c := bodyOf Tryz.f60) (fn := Tryz.f60) Tryz.func60 (by kernel_rfl) (by kernel_rfl) (false, true) 0 [1, 2, 3, 6, 9, 10] [6, 7, 8] (sB := dqB 0 room am top z1 z2) (by kernel_rfl) (t := dqO togS revS 0 room am top z1 z2) (dqO_eq 0 room am top z1 z2) ?_
  rw [dqO0_is]
  exact ⟨rfl, rfl, all_nodeT hb (cutF_dn (dq_leftb 0 z1 z2 16))⟩
end
/-! ### the entries -/
def goodF (mz : Bool) (tT tL : TypeId) (room ht : Int) (m : Nat) (t : T3) : Tree (A × List Blk) := .need (Nat.beq m 0 == mz) (match mz with
  | true => .leaf (goodD0 room ht, [])
  | false => .leaf (goodD room ht t.1, boxT tT room (slC true 2 2 t.1) :: layB tL t))
def drC (e : Int) (mz : Bool) (g : Gt) (d : Gd) : FT
  | [room, am], [top], [], [⟨some _, n, [.int .i64 z1, .int .i64 z2]⟩] => .need (Nat.blt 0 n && Nat.ble n 17) (.need (drE1 n room am z1 z2 == e) (match e != 0 with
    | true => .leaf (badD e, [])
    | false => goodF mz 81 152 room (drH n am top z1 z2) (drL d n am top z1 z2 n).1 (drK g (drL d n am top z1 z2 n))))
  | [room, am], [_], [], [⟨none, 0, [.int .i64 _, .int .i64 _]⟩] => .need (drE1 0 room am zF zF == e && e != 0) (.leaf (badD e, []))
  | _, _, _, _ => .fail 441
def dqC (s mz : Bool) (g : Gt) (d : Gd) : FT
  | [room, am], [top], [], [⟨some _, n, [.int .i64 z1, .int .i64 z2]⟩] => .need ((Nat.blt 0 n || s) && Nat.ble n 1000) (.need (tankE n room z1 z2 == 0) (.need (wW am 1 1000000 == 0) (.need (decide (am > sumA z1 n) == s) (match s with
    | true => .leaf (badD 16, [])
    | false => goodF mz 76 98 room (drH n am top z1 z2) (drL d n am top z1 z2 n).1 (drK g (drL d n am top z1 z2 n))))))
  | [_, am], [_], [], [⟨none, 0, [.int .i64 _, .int .i64 _]⟩] => .need (wW am 1 1000000 == 0) (.leaf (badD 16, []))
  | _, _, _, _ => .fail 442
theorem drC_ok (e : Int) (mz : Bool) : SpecOk Tryz.prog 58 fun args h => specT [tkS, (false, [.i]), (false, [.b])] [] (drC e mz togS delS) args h := by
  refine specT_subN (drF_ok e) fun l m n ts r hr => ?_
  unfold drC at hr
  split at hr
  · rename_i room am top i n z1 z2
    obtain ⟨h1, hr⟩ := Tree.need_some hr
    obtain ⟨h2, hr⟩ := Tree.need_some hr
    simp only [drF, Tree.run, h1, h2]
    split at hr
    · rename_i g
      rw [g]
      exact hr
    · rename_i g
      rw [g]
      unfold goodF at hr
      obtain ⟨h3, hr⟩ := Tree.need_some hr
      have h3 := eq_of_beq h3
      cases mz with
      | true => simp only [Tree.run, h3]; exact hr
      | false => simp only [Tree.run, h3]; exact hr
  · rename_i room am top z1 z2
    obtain ⟨h1, hr⟩ := Tree.need_some hr
    simp only [drF, Tree.run, h1]
    exact hr
  · cases hr
theorem dqC_ok (s mz : Bool) : SpecOk Tryz.prog 60 fun args h => specT [tkS, (false, [.i]), (false, [.b])] [] (dqC s mz togS delS) args h := by
  refine specT_ok rfl (by decide) fun l m n ts v news hl hm hn hts hnil hF => ?_
  unfold dqC at hF
  split at hF
  · rename_i room am top i n z1 z2
    obtain ⟨h1, hF⟩ := Tree.need_some hF
    obtain ⟨h2, hF⟩ := Tree.need_some hF
    obtain ⟨h3, hF⟩ := Tree.need_some hF
    obtain ⟨h4, hF⟩ := Tree.need_some hF
    rw [Bool.and_eq_true] at h1
    have hk := Nat.le_of_ble_eq_true h1.2
    have hT := eq_of_beq h2
    obtain ⟨w1, w2⟩ := wW0 (eq_of_beq h3)
    have h4 := eq_of_beq h4
    have h1 := h1.1
    cases n with
    | zero =>
      obtain rfl : s = true := by rw [Bool.or_eq_true, Nat.blt_eq] at h1; rcases h1 with h | h; exact absurd h (Nat.lt_irrefl _); exact h
      simp only [Tree.run, Option.some.injEq, Prod.mk.injEq] at hF
      obtain ⟨rfl, rfl⟩ := hF
      exact dq_calle room am top z1 z2 h4
    | succ k =>
      have hc := dq_call k room am top z1 z2 hk (fun i hi => tank_rows hT i hi) w1 w2
      unfold dqV at hc
      rw [h4] at hc
      cases s with
      | true =>
        simp only [Tree.run, Option.some.injEq, Prod.mk.injEq] at hF
        obtain ⟨rfl, rfl⟩ := hF
        exact hc
      | false =>
        simp only at hF
        unfold goodF at hF
        obtain ⟨h5, hF⟩ := Tree.need_some hF
        have h5 := eq_of_beq h5
        rw [show Nat.beq (drM (k + 1) am top z1 z2).1 0 = mz from h5] at hc
        cases mz with
        | true =>
          simp only [Tree.run, Option.some.injEq, Prod.mk.injEq] at hF
          obtain ⟨rfl, rfl⟩ := hF
          exact hc
        | false =>
          simp only [Tree.run, Option.some.injEq, Prod.mk.injEq] at hF
          obtain ⟨rfl, rfl⟩ := hF
          exact hc
  · rename_i room am top z1 z2
    obtain ⟨h3, hF⟩ := Tree.need_some hF
    obtain ⟨w1, w2⟩ := wW0 (eq_of_beq h3)
    simp only [Tree.run, Option.some.injEq, Prod.mk.injEq] at hF
    obtain ⟨rfl, rfl⟩ := hF
    exact dq_call0 room am top (by simp only [decide_eq_true_eq]; show am > 0; omega)
  · cases hF
end Go.Ev
