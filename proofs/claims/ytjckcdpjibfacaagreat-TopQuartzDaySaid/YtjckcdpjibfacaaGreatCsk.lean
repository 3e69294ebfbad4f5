/- States for the checks of a sky. Conditions: none. The checks of a sky, by the program and by the reference. Conditions: none. -/
import Derived.Test.YtjckcdpjibfacaaGreatQnm
import Derived.Test.YtjckcdpjibfacaaGreatDyP
namespace Go.Ev
open Go Go.Proofs
set_option maxRecDepth 100000
def skC (g0 g1 g2 g3 : Nat → Int) : List Col := [.int .i64 g0, .int .i64 g1, .int .i64 g2, .int .i64 g3]
def skyA (nm : ByteArray) (n : Nat) : A := .agg [cs nm, slC false 0 4 n]
def tbK : List (FuncId × Spec) := (58, qnSp) :: tb_tiny
theorem tbK_ok : TabOk Tryz.prog (tabOf tbK) := tab_cons tb_tiny_ok qn_ok
noncomputable def reK : Code → St → Tree (X × St) := recT Tryz.prog (tabOf tbK)
theorem reK_ok : RecOk Tryz.prog reK := recT_ok tbK_ok
def skN (size : Nat) (n : Nat) (g0 g1 g2 g3 : Nat → Int) (env : List (Nat × A)) (news : List Blk) : St := stN size (envL env) (bsS [⟨some 0, n, skC g0 g1 g2 g3⟩] []) [] news
def skH (n : Nat) (g0 g1 g2 g3 : Nat → Int) : Hp := hpT [⟨some 0, n, skC g0 g1 g2 g3⟩] [] []
def skyB (t : TypeId) (nm : ByteArray) (n : Nat) : Blk := ⟨false, t, .flat [cs nm, slC false 0 4 n]⟩
def skM (size : Nat) (n : Nat) (g0 g1 g2 g3 : Nat → Int) (env : List (Nat × A)) (news : List Blk) : St := stN size (envL env) (bsS [⟨some 0, n, skC g0 g1 g2 g3⟩] []) [] news true
def baseM (size : Nat) (args : List A) (h : Hp) : St := { size := size, env := initEnv 0 args .nil, hp := { h with low := h.next }, keep := true }
end Go.Ev
namespace Go.Ev
open Go Go.Proofs
set_option maxRecDepth 100000
def ixN (k : Nat) : Nat := 0 + Int.toNat (k : Int)
def prI (k : Nat) : Int := if IntKind.i64.wrap ((k : Int) - 1) > 0 then IntKind.i64.wrap ((k : Int) - 1) else 0
def prN (k : Nat) : Nat := 0 + Int.toNat (prI k)
section
variable (g0 g1 g2 g3 : Nat → Int)
def qrE (b1 b2 : Bool) (i p : Nat) : Int := firstZ [wW (g0 i) 0 10000000, errIf (match b1 with | true => decide (g0 i ≤ g0 p) | false => false) 11, errIf (match b2 with | true => decide (g0 i > IntKind.i64.wrap (g0 p + 200)) | false => false) 14, qrayErr (g1 i) (g2 i) (g3 i)]
def srE (b1 b2 : Bool) (i p : Nat) : Int := firstZ [wW (g0 i) 0 10000000, errIf (match b1 with | true => decide (g0 i ≤ g0 p) | false => false) 11, errIf (match b2 with | true => decide (IntKind.i64.wrap (g0 i - g0 p) > 200) | false => false) 14, rayErr (g1 i) (g2 i) (g3 i)]
def neq0 (i : Nat) : Bool := dotW (g1 i) (g2 i) (g3 i) (g1 i) (g2 i) (g3 i) != dotW (g1 (0 + Int.toNat 0)) (g2 (0 + Int.toNat 0)) (g3 (0 + Int.toNat 0)) (g1 (0 + Int.toNat 0)) (g2 (0 + Int.toNat 0)) (g3 (0 + Int.toNat 0))
def rowF (E : Bool → Bool → Nat → Nat → Int) (k : Nat) : Int := match E (decide ((k : Int) > 0)) (decide ((k : Int) > 0)) k (k - 1) != 0 with
 | true => E (decide ((k : Int) > 0)) (decide ((k : Int) > 0)) k (k - 1)
 | false => errIf (neq0 g1 g2 g3 k) 2
def rowQ : Nat → Int := rowF g1 g2 g3 (qrE g0 g1 g2 g3)
def rowS : Nat → Int := rowF g1 g2 g3 (srE g0 g1 g2 g3)
end
def headE (nm : ByteArray) (n : Nat) : Int := firstZ [errIf (!Tryz.isNameW nm) 8, errIf (decide ((n : Int) < 2)) 16, errIf (decide ((n : Int) > 64)) 5]
def skyF (R : Nat → Int) (nm : ByteArray) (n : Nat) : Int := match headE nm n != 0 with
 | true => headE nm n
 | false => (fnz R n 0).getD 0
def skyE (nm : ByteArray) (n : Nat) (g0 g1 g2 g3 : Nat → Int) : Int := skyF (rowQ g0 g1 g2 g3) nm n
def kB (n : Nat) (k : Nat) : Bool := decide (0 ≤ (k : Int)) && decide ((k : Int) < (n : Int))
def pB (n : Nat) (k : Nat) : Bool := decide (0 ≤ prI k) && decide (prI k < (n : Int))
def zB (n : Nat) : Bool := decide ((0 : Int) ≤ 0) && decide ((0 : Int) < (n : Int))
def need3 (b : Bool) (S : SkX) : SkX := .need b (.need b (.need b S))
section
variable (H Y : Int → St) (E : Bool → Bool → Nat → Nat → Int) (one : Bool) (n : Nat) (g1 g2 g3 : Nat → Int) (k : Nat)
def ckT : SkX := .need (zB n) (need3 (Nat.blt (0 + Int.toNat 0) n) (.need (zB n) (need3 (Nat.blt (0 + Int.toNat 0) n) (.node (neq0 g1 g2 g3 (ixN k)) (.leaf (.ret, Y 2)) (.leaf (.normal, H (IntKind.i64.wrap ((k : Int) + 1))))))))
def ckL (b1 b2 : Bool) : SkX := .node (E b1 b2 (ixN k) (prN k) != 0) (.leaf (.ret, Y (E b1 b2 (ixN k) (prN k)))) (ckT H Y n g1 g2 g3 k)
def ckP (S : SkX) : SkX := match one with
 | true => .need (Nat.blt (prN k) n) S
 | false => .need (Nat.blt (prN k) n) (need3 (Nat.blt (prN k) n) S)
def ckS : SkX := .node (decide ((k : Int) < (n : Int))) (.need (kB n k) (.need (Nat.blt (ixN k) n) (need3 (Nat.blt (ixN k) n) (.need (pB n k) (ckP one n k (.node (decide ((k : Int) > 0)) (.node (decide ((k : Int) > 0)) (ckL H Y E n g1 g2 g3 k true true) (ckL H Y E n g1 g2 g3 k true false)) (.node (decide ((k : Int) > 0)) (ckL H Y E n g1 g2 g3 k false true) (ckL H Y E n g1 g2 g3 k false false))))))))
 (.leaf (.exit 0, Y 0))
theorem need3_ok {p : X × St → Prop} {b : Bool} {S : SkX} (hb : b = true) (h : SkLeads p S) : SkLeads p (need3 b S) := sk_need hb (sk_need hb (sk_need hb h))
theorem ck_step (hn : n ≤ 1000000) (hk : k < n) : SkLeads (Rnd (fun k : Nat => H (k : Int)) (finT Y n (rowF g1 g2 g3 E)) k) (ckS H Y E one n g1 g2 g3 k) := by
 obtain ⟨e1, e2, e3⟩ := rnd_lt hk
 have ei : ixN k = k := idx_nat k
 have ep : prI k = ((k - 1 : Nat) : Int) := by
  unfold prI
  rw [wrap_id (by omega) (by omega)]
  split <;> omega
 have ep2 : prN k = k - 1 := by unfold prN; rw [ep, idx_nat]
 have hz : zB n = true := by unfold zB; simp only [Bool.and_eq_true, decide_eq_true_eq]; omega
 have hp : pB n k = true := by unfold pB; rw [ep]; simp only [Bool.and_eq_true, decide_eq_true_eq]; omega
 have hz2 : Nat.blt (0 + Int.toNat 0) n = true := by rw [Nat.blt_eq]; simp; omega
 have hp2 : Nat.blt (prN k) n = true := by rw [ep2, Nat.blt_eq]; omega
 have hi : Nat.blt (ixN k) n = true := e3
 have ret : ∀ e : Int, e = rowF g1 g2 g3 E k → e ≠ 0 → SkLeads (Rnd (fun k : Nat => H (k : Int)) (finT Y n (rowF g1 g2 g3 E)) k) (.leaf (.ret, Y e)) := fun e he h0 => by
  subst he
  exact sk_leaf (rnd_ret (finT_ret hk h0).symm)
 have key : ∀ b1 b2 : Bool, b1 = decide ((k : Int) > 0) → b2 = decide ((k : Int) > 0) → SkLeads (Rnd (fun k : Nat => H (k : Int)) (finT Y n (rowF g1 g2 g3 E)) k) (ckL H Y E n g1 g2 g3 k b1 b2) := fun b1 b2 h1 h2 => by
  subst h1; subst h2
  have hr : rowF g1 g2 g3 E k = match E (decide ((k : Int) > 0)) (decide ((k : Int) > 0)) k (k - 1) != 0 with | true => E (decide ((k : Int) > 0)) (decide ((k : Int) > 0)) k (k - 1) | false => errIf (neq0 g1 g2 g3 k) 2 := rfl
  unfold ckL
  rw [ei, ep2]
  refine sk_either (fun h => ret _ ?_ (by simpa using h)) fun h => ?_
  ·rw [hr, h]
  ·unfold ckT
   rw [ei]
   refine sk_need hz (need3_ok hz2 (sk_need hz (need3_ok hz2 (sk_either (fun h3 => ret 2 ?_ (by decide)) fun h3 => sk_leaf (rnd_next ?_ ?_)))))
   ·rw [hr, h, h3]; rfl
   ·rw [wrap_succ (by omega)]; exact St.Le.refl _
   ·exact finT_next hk (by rw [hr, h, h3]; rfl)
 have rest : SkLeads (Rnd (fun k : Nat => H (k : Int)) (finT Y n (rowF g1 g2 g3 E)) k) (.node (decide ((k : Int) > 0)) (.node (decide ((k : Int) > 0)) (ckL H Y E n g1 g2 g3 k true true) (ckL H Y E n g1 g2 g3 k true false)) (.node (decide ((k : Int) > 0)) (ckL H Y E n g1 g2 g3 k false true) (ckL H Y E n g1 g2 g3 k false false))) := by
  refine sk_either (fun h1 => sk_yes h1 (key _ _ h1.symm h1.symm)) fun h1 => sk_no h1 (key _ _ h1.symm h1.symm)
 unfold ckS
 refine sk_yes e1 (sk_need e2 (sk_need hi (need3_ok hi (sk_need hp ?_))))
 unfold ckP
 cases one with
 | true => exact sk_need hp2 rest
 | false => exact sk_need hp2 (need3_ok hp2 rest)
theorem ck_last : SkLeads (RndEnd (finT Y n (rowF g1 g2 g3 E) n)) (ckS H Y E one n g1 g2 g3 n) := by
 unfold ckS
 refine sk_no (rnd_end n) (sk_leaf ?_)
 show _ = finT Y n (rowF g1 g2 g3 E) n
 rw [finT_end]
end
section
variable (nm : ByteArray) (n : Nat) (g0 g1 g2 g3 : Nat → Int)
def qkB : St := baseM 94 [skyA nm n] (skH n g0 g1 g2 g3)
def qkH (i : Int) : St := skM 94 n g0 g1 g2 g3 [(1, pt 1), (2, int 0), (4, int i)] [skyB 24 nm n]
def qkX (e : Int) : St := skM 94 n g0 g1 g2 g3 [(2, int e)] []
noncomputable def qkT (k : Nat) : Tree (X × St) := (reK (loopF Tryz.f5) (qkH nm n g0 g1 g2 g3 (k : Int))).bind (canonT [1, 2, 4] [2] (qkB nm n g0 g1 g2 g3))
def qkS (k : Nat) : SkX := ckS (qkH nm n g0 g1 g2 g3) (qkX n g0 g1 g2 g3) (qrE g0 g1 g2 g3) false n g1 g2 g3 k
theorem qk_into (k : Nat) : qkT nm n g0 g1 g2 g3 k = into (qkT nm n g0 g1 g2 g3 k) (qkS nm n g0 g1 g2 g3 k) := by kernel_rfl
theorem qk_fits (k : Nat) : fits (qkT nm n g0 g1 g2 g3 k) (qkS nm n g0 g1 g2 g3 k) = true := by kernel_rfl
noncomputable def qkO : Tree ((X × St) ⊕ (List Bool × St)) := evO reK (bodyOf Tryz.f5) [1, 2, 4] [2] (qkB nm n g0 g1 g2 g3)
noncomputable def qkOS : SkO := .node (headE nm n != 0) (.leaf (.inl (.ret, qkX n g0 g1 g2 g3 (headE nm n)))) (.leaf (.inr (pathF Tryz.f5, qkH nm n g0 g1 g2 g3 ((0 : Nat) : Int))))
theorem qkO_into : qkO nm n g0 g1 g2 g3 = into (qkO nm n g0 g1 g2 g3) (qkOS nm n g0 g1 g2 g3) := by kernel_rfl
theorem qkO_fits : fits (qkO nm n g0 g1 g2 g3) (qkOS nm n g0 g1 g2 g3) = true := by kernel_rfl
noncomputable def qkP (q : X × St) : Tree ((X × St) ⊕ (List Bool × St)) := evO2 reK true (bodyOf Tryz.f5) (pathF Tryz.f5) [] [2] (qkB nm n g0 g1 g2 g3) q
theorem qkP_end : qkP nm n g0 g1 g2 g3 (.exit 0, qkX n g0 g1 g2 g3 0) = .leaf (.inl (.ret, qkX n g0 g1 g2 g3 0)) := by kernel_rfl
theorem qkP_ret (e : Int) : qkP nm n g0 g1 g2 g3 (.ret, qkX n g0 g1 g2 g3 e) = .leaf (.inl (.ret, qkX n g0 g1 g2 g3 e)) := by kernel_rfl
theorem qk_left (e : Int) : Left2 Tryz.prog Tryz.f5 (skH n g0 g1 g2 g3) (int e) (skH n g0 g1 g2 g3) (.ret, qkX n g0 g1 g2 g3 e) := left_of (b := true) (by kernel_rfl)
theorem qk_loop (hn : n ≤ 64) : ComesF Tryz.prog (.loop (loopF Tryz.f5)) (qkB nm n g0 g1 g2 g3) (qkH nm n g0 g1 g2 g3 ((0 : Nat) : Int)) fun q => q = finT (qkX n g0 g1 g2 g3) n (rowQ g0 g1 g2 g3) 0 :=
 loop_count reK_ok rfl [1, 2, 4] [2] (fun k => qkH nm n g0 g1 g2 g3 (k : Int)) (finT (qkX n g0 g1 g2 g3) n (rowQ g0 g1 g2 g3)) n (qkT nm n g0 g1 g2 g3) (qkS nm n g0 g1 g2 g3) (fun k => by delta qkT; rfl) (qk_into nm n g0 g1 g2 g3) (qk_fits nm n g0 g1 g2 g3) (fun k hk => ck_step _ _ _ _ _ _ _ _ _ (by omega) hk) (ck_last _ _ _ _ _ _ _ _)
theorem qk_call : CallAt Tryz.prog 5 [skyA nm n] (skH n g0 g1 g2 g3) (int (skyE nm n g0 g1 g2 g3)) (skH n g0 g1 g2 g3) := by
 refine call_baseS reK_ok (c := bodyOf Tryz.f5) (fn := Tryz.f5) Tryz.func5 (by kernel_rfl) (by kernel_rfl) (false, true) 1 [1, 2, 4] [2] (sB := qkB nm n g0 g1 g2 g3) (by kernel_rfl) (t := qkO nm n g0 g1 g2 g3) (by delta qkO; rfl) (qkO_into nm n g0 g1 g2 g3) (qkO_fits nm n g0 g1 g2 g3) ?_
 unfold skyE skyF
 refine sk_either (fun h => sk_done ?_) fun h => ?_
 ·rw [h]; exact qk_left n g0 g1 g2 g3 _
 ·rw [h]
  have hn : n ≤ 64 := by
   have h0 : headE nm n = 0 := by simpa using h
   unfold headE at h0
   rw [firstZ_zero] at h0
   have := (errIf_zero (by decide)).1 (h0 _ (by simp : errIf (decide ((n : Int) > 64)) 5 ∈ _))
   simp only [decide_eq_false_iff_not] at this
   omega
  refine sk_stop _ true [] [2] (qk_loop nm n g0 g1 g2 g3 hn) fun q hq => ?_
  subst hq
  unfold finT
  rw [Nat.sub_zero]
  cases fnz (rowQ g0 g1 g2 g3) n 0 with
  | some e => exact leads_leaf (show _ = qkP nm n g0 g1 g2 g3 (.ret, qkX n g0 g1 g2 g3 e) by delta qkP; rfl) (qkP_ret nm n g0 g1 g2 g3 e) (cutF_dn (qk_left n g0 g1 g2 g3 e))
  | none => exact leads_leaf (show _ = qkP nm n g0 g1 g2 g3 (.exit 0, qkX n g0 g1 g2 g3 0) by delta qkP; rfl) (qkP_end nm n g0 g1 g2 g3) (cutF_dn (qk_left n g0 g1 g2 g3 0))
end
theorem fnz_cong {f g : Nat → Int} : ∀ (m k : Nat), (∀ j, j < k → g j = 0) → (∀ i, k ≤ i → i < k + m → (∀ j, j < i → g j = 0) → f i = g i) → fnz f m k = fnz g m k
 | 0, _, _, _ => rfl
 | m + 1, k, h0, h => by
  have e := h k (Nat.le_refl _) (by omega) h0
  unfold fnz
  rw [e]
  cases hg : g k != 0 with
  | true => rfl
  | false =>
   have hz : g k = 0 := by simpa using hg
   refine fnz_cong m (k + 1) (fun j hj => ?_) (fun i h1 h2 h3 => h i (by omega) (by omega) h3)
   by_cases ej : j = k
   ·subst ej; exact hz
   ·exact h0 j (by omega)
theorem fnz_none {f : Nat → Int} : ∀ {m k : Nat}, (fnz f m k).getD 0 = 0 → ∀ i, k ≤ i → i < k + m → f i = 0
 | 0, k, _, i, h1, h2 => by omega
 | m + 1, k, h, i, h1, h2 => by
  unfold fnz at h
  cases hg : f k != 0 with
  | true =>
   rw [hg] at h
   have h : f k = 0 := h
   rw [h] at hg
   cases hg
  | false =>
   rw [hg] at h
   by_cases e : i = k
   ·subst e; simpa using hg
   ·exact fnz_none h i (by omega) (by omega)
section
variable {g0 g1 g2 g3 : Nat → Int}
theorem rowF_zero {E : Bool → Bool → Nat → Nat → Int} {k : Nat} (h : rowF g1 g2 g3 E k = 0) : E (decide ((k : Int) > 0)) (decide ((k : Int) > 0)) k (k - 1) = 0 ∧ neq0 g1 g2 g3 k = false := by
 unfold rowF at h
 cases he : E (decide ((k : Int) > 0)) (decide ((k : Int) > 0)) k (k - 1) != 0 with
 | true =>
  rw [he] at h
  have h : E (decide ((k : Int) > 0)) (decide ((k : Int) > 0)) k (k - 1) = 0 := h
  rw [h] at he
  cases he
 | false =>
  rw [he] at h
  exact ⟨by simpa using he, (errIf_zero (by decide)).1 h⟩
theorem rowQ_zero {k : Nat} (h : rowQ g0 g1 g2 g3 k = 0) : (0 ≤ g0 k ∧ g0 k ≤ 10000000) ∧ (0 < k → g0 (k - 1) < g0 k ∧ g0 k ≤ IntKind.i64.wrap (g0 (k - 1) + 200)) ∧ Ray (g1 k) (g2 k) (g3 k) ∧ neq0 g1 g2 g3 k = false := by
 obtain ⟨h1, h2⟩ := rowF_zero h
 unfold qrE at h1
 rw [firstZ_zero] at h1
 simp only [List.mem_cons, List.not_mem_nil, or_false, forall_eq_or_imp, forall_eq, wW_zero, ← ray_eq, ray_zero] at h1
 obtain ⟨a1, a2, a3, a4⟩ := h1
 refine ⟨a1, fun hk => ?_, a4, h2⟩
 have a2 := (errIf_zero (by decide)).1 a2
 have a3 := (errIf_zero (by decide)).1 a3
 have hd : decide ((k : Int) > 0) = true := by simp only [decide_eq_true_eq]; omega
 rw [hd] at a2 a3
 simp only [decide_eq_false_iff_not] at a2 a3
 omega
theorem row_eq {n : Nat} (hn : n ≤ 1000000) : fnz (rowS g0 g1 g2 g3) n 0 = fnz (rowQ g0 g1 g2 g3) n 0 := by
 refine fnz_cong n 0 (fun j hj => by omega) fun i _ hi hp => ?_
 have key : srE g0 g1 g2 g3 (decide ((i : Int) > 0)) (decide ((i : Int) > 0)) i (i - 1) = qrE g0 g1 g2 g3 (decide ((i : Int) > 0)) (decide ((i : Int) > 0)) i (i - 1) := by
  unfold srE qrE
  rw [ray_eq]
  by_cases h0 : i = 0
  ·subst h0; rfl
  ·have hd : decide ((i : Int) > 0) = true := by simp only [decide_eq_true_eq]; omega
   rw [hd]
   obtain ⟨p1, _⟩ := rowQ_zero (hp (i - 1) (by omega))
   by_cases hr : wW (g0 i) 0 10000000 = 0
   ·obtain ⟨b1, b2⟩ := wW_zero.1 hr
    have e : decide (IntKind.i64.wrap (g0 i - g0 (i - 1)) > 200) = decide (g0 i > IntKind.i64.wrap (g0 (i - 1) + 200)) := by
     rw [wrap_id (by omega) (by omega), wrap_id (by omega) (by omega)]
     by_cases h : g0 i > g0 (i - 1) + 200
     ·rw [decide_eq_true h, decide_eq_true (by omega)]
     ·rw [decide_eq_false h, decide_eq_false (by omega)]
    simp only [e]
   ·rw [firstZ_cons1 hr, firstZ_cons1 hr]
 unfold rowS rowQ rowF
 rw [key]
theorem skyS_eq (nm : ByteArray) (n : Nat) : skyE nm n g0 g1 g2 g3 = skyF (rowS g0 g1 g2 g3) nm n := by
 unfold skyE skyF
 cases h : headE nm n != 0 with
 | true => rfl
 | false =>
  have hn : n ≤ 64 := by
   have h0 : headE nm n = 0 := by simpa using h
   unfold headE at h0
   rw [firstZ_zero] at h0
   have := (errIf_zero (by decide)).1 (h0 _ (by simp : errIf (decide ((n : Int) > 64)) 5 ∈ _))
   simp only [decide_eq_false_iff_not] at this
   omega
  simp only []
  rw [row_eq (by omega)]
theorem sky_ok {nm : ByteArray} {n : Nat} (h : skyE nm n g0 g1 g2 g3 = 0) : SkyOk n g0 g1 g2 g3 ∧ Tryz.isNameW nm = true := by
 unfold skyE skyF at h
 cases hh : headE nm n != 0 with
 | true =>
  rw [hh] at h
  have h : headE nm n = 0 := h
  rw [h] at hh
  cases hh
 | false =>
  rw [hh] at h
  have h0 : headE nm n = 0 := by simpa using hh
  unfold headE at h0
  rw [firstZ_zero] at h0
  simp only [List.mem_cons, List.not_mem_nil, or_false, forall_eq_or_imp, forall_eq] at h0
  obtain ⟨a1, a2, a3⟩ := h0
  have a1 := (errIf_zero (by decide)).1 a1
  have a2 := (errIf_zero (by decide)).1 a2
  have a3 := (errIf_zero (by decide)).1 a3
  simp only [decide_eq_false_iff_not] at a2 a3
  have hz : ∀ i, i < n → rowQ g0 g1 g2 g3 i = 0 := fun i hi => fnz_none h i (Nat.zero_le _) (by omega)
  refine ⟨⟨by omega, by omega, fun i hi => (rowQ_zero (hz i hi)).1, fun i hi => ?_, fun i hi => (rowQ_zero (hz i hi)).2.2.1, fun i hi => ?_⟩, by simpa using a1⟩
  ·have h1 := (rowQ_zero (hz (i + 1) hi)).2.1 (by omega)
   have h2 := (rowQ_zero (hz i (by omega))).1
   rw [show i + 1 - 1 = i by omega, wrap_id (by omega) (by omega)] at h1
   exact h1
  ·have h1 := (rowQ_zero (hz i hi)).2.2
   have h2 := (rowQ_zero (hz 0 (by omega))).2.2
   have h3 := h1.2
   unfold neq0 at h3
   have h3 : dotW (g1 i) (g2 i) (g3 i) (g1 i) (g2 i) (g3 i) = dotW (g1 0) (g2 0) (g3 0) (g1 0) (g2 0) (g3 0) := by simpa using h3
   rw [(dot_eq h1.1.1 h1.1.1 (by decide)).1, (dot_eq h2.1.1 h2.1.1 (by decide)).1] at h3
   exact h3
end
section
variable (nm : ByteArray) (n : Nat) (g0 g1 g2 g3 : Nat → Int)
def pkB : St := baseB 92 [skyA nm n] (skH n g0 g1 g2 g3)
def pkH (i : Int) : St := skN 92 n g0 g1 g2 g3 [(1, pt 1), (2, int 0), (29, slT 0 4 n), (30, int n), (31, int i)] [skyB 38 nm n]
def pkX (e : Int) : St := skN 92 n g0 g1 g2 g3 [(2, int e)] []
noncomputable def pkT (k : Nat) : Tree (X × St) := (reK (loopF Tryz.f32) (pkH nm n g0 g1 g2 g3 (k : Int))).bind (canonT [1, 2, 29, 30, 31] [2] (pkB nm n g0 g1 g2 g3))
def pkS (k : Nat) : SkX := ckS (pkH nm n g0 g1 g2 g3) (pkX n g0 g1 g2 g3) (srE g0 g1 g2 g3) true n g1 g2 g3 k
theorem pk_into (k : Nat) : pkT nm n g0 g1 g2 g3 k = into (pkT nm n g0 g1 g2 g3 k) (pkS nm n g0 g1 g2 g3 k) := by kernel_rfl
theorem pk_fits (k : Nat) : fits (pkT nm n g0 g1 g2 g3 k) (pkS nm n g0 g1 g2 g3 k) = true := by kernel_rfl
noncomputable def pkO : Tree ((X × St) ⊕ (List Bool × St)) := evO reK (bodyOf Tryz.f32) [1, 2, 29, 30, 31] [2] (pkB nm n g0 g1 g2 g3)
noncomputable def pkOS : SkO := .node (headE nm n != 0) (.leaf (.inl (.ret, pkX n g0 g1 g2 g3 (headE nm n)))) (.leaf (.inr (pathF Tryz.f32, pkH nm n g0 g1 g2 g3 ((0 : Nat) : Int))))
theorem pkO_into : pkO nm n g0 g1 g2 g3 = into (pkO nm n g0 g1 g2 g3) (pkOS nm n g0 g1 g2 g3) := by kernel_rfl
theorem pkO_fits : fits (pkO nm n g0 g1 g2 g3) (pkOS nm n g0 g1 g2 g3) = true := by kernel_rfl
noncomputable def pkP (q : X × St) : Tree ((X × St) ⊕ (List Bool × St)) := evO2 reK true (bodyOf Tryz.f32) (pathF Tryz.f32) [] [2] (pkB nm n g0 g1 g2 g3) q
theorem pkP_end : pkP nm n g0 g1 g2 g3 (.exit 0, pkX n g0 g1 g2 g3 0) = .leaf (.inl (.ret, pkX n g0 g1 g2 g3 0)) := by kernel_rfl
theorem pkP_ret (e : Int) : pkP nm n g0 g1 g2 g3 (.ret, pkX n g0 g1 g2 g3 e) = .leaf (.inl (.ret, pkX n g0 g1 g2 g3 e)) := by kernel_rfl
theorem pk_left (e : Int) : Left2 Tryz.prog Tryz.f32 (skH n g0 g1 g2 g3) (int e) (skH n g0 g1 g2 g3) (.ret, pkX n g0 g1 g2 g3 e) := left_of (b := true) (by kernel_rfl)
theorem pk_loop (hn : n ≤ 64) : ComesF Tryz.prog (.loop (loopF Tryz.f32)) (pkB nm n g0 g1 g2 g3) (pkH nm n g0 g1 g2 g3 ((0 : Nat) : Int)) fun q => q = finT (pkX n g0 g1 g2 g3) n (rowS g0 g1 g2 g3) 0 :=
 loop_count reK_ok rfl [1, 2, 29, 30, 31] [2] (fun k => pkH nm n g0 g1 g2 g3 (k : Int)) (finT (pkX n g0 g1 g2 g3) n (rowS g0 g1 g2 g3)) n (pkT nm n g0 g1 g2 g3) (pkS nm n g0 g1 g2 g3) (fun k => by delta pkT; rfl) (pk_into nm n g0 g1 g2 g3) (pk_fits nm n g0 g1 g2 g3) (fun k hk => ck_step _ _ _ _ _ _ _ _ _ (by omega) hk) (ck_last _ _ _ _ _ _ _ _)
theorem pk_call : CallAt Tryz.prog 32 [skyA nm n] (skH n g0 g1 g2 g3) (int (skyE nm n g0 g1 g2 g3)) (skH n g0 g1 g2 g3) := by
 refine call_baseS reK_ok (c := bodyOf Tryz.f32) (fn := Tryz.f32) Tryz.func32 (by kernel_rfl) (by kernel_rfl) (false, false) 1 [1, 2, 29, 30, 31] [2] (sB := pkB nm n g0 g1 g2 g3) (by kernel_rfl) (t := pkO nm n g0 g1 g2 g3) (by delta pkO; rfl) (pkO_into nm n g0 g1 g2 g3) (pkO_fits nm n g0 g1 g2 g3) ?_
 rw [skyS_eq]
 unfold skyF
 refine sk_either (fun h => sk_done ?_) fun h => ?_
 ·rw [h]; exact pk_left n g0 g1 g2 g3 _
 ·rw [h]
  have hn : n ≤ 64 := by
   have h0 : headE nm n = 0 := by simpa using h
   unfold headE at h0
   rw [firstZ_zero] at h0
   have := (errIf_zero (by decide)).1 (h0 _ (by simp : errIf (decide ((n : Int) > 64)) 5 ∈ _))
   simp only [decide_eq_false_iff_not] at this
   omega
  refine sk_stop _ true [] [2] (pk_loop nm n g0 g1 g2 g3 hn) fun q hq => ?_
  subst hq
  unfold finT
  rw [Nat.sub_zero]
  cases fnz (rowS g0 g1 g2 g3) n 0 with
  | some e => exact leads_leaf (show _ = pkP nm n g0 g1 g2 g3 (.ret, pkX n g0 g1 g2 g3 e) by delta pkP; rfl) (pkP_ret nm n g0 g1 g2 g3 e) (cutF_dn (pk_left n g0 g1 g2 g3 e))
  | none => exact leads_leaf (show _ = pkP nm n g0 g1 g2 g3 (.exit 0, pkX n g0 g1 g2 g3 0) by delta pkP; rfl) (pkP_end nm n g0 g1 g2 g3) (cutF_dn (pk_left n g0 g1 g2 g3 0))
end
def skyD : List Col := [.int .i64 fun _ => 0, .int .i64 fun _ => 0, .int .i64 fun _ => 0, .int .i64 fun _ => 0]
def ckF (E : ByteArray → Nat → (Nat → Int) → (Nat → Int) → (Nat → Int) → (Nat → Int) → Int) : FT
 | [], [], [nm], [⟨_, n, [.int .i64 g0, .int .i64 g1, .int .i64 g2, .int .i64 g3]⟩] => .leaf (int (E nm n g0 g1 g2 g3), [])
 | _, _, _, _ => .fail 701
def ckSp (E : ByteArray → Nat → (Nat → Int) → (Nat → Int) → (Nat → Int) → (Nat → Int) → Int) : Spec := fun args h => specT [(true, [.s, .t skyD])] [] (ckF E) args h
theorem ck_of {f : FuncId} (h0 : ∀ (nm : ByteArray) (g0 g1 g2 g3 : Nat → Int), CallAt Tryz.prog f [.agg [cs nm, nilC]] (hpT [⟨none, 0, skC g0 g1 g2 g3⟩] [] []) (int (skyE nm 0 g0 g1 g2 g3)) (hpT [⟨none, 0, skC g0 g1 g2 g3⟩] [] []))
  (hc : ∀ (nm : ByteArray) (n : Nat) (g0 g1 g2 g3 : Nat → Int), CallAt Tryz.prog f [skyA nm n] (skH n g0 g1 g2 g3) (int (skyE nm n g0 g1 g2 g3)) (skH n g0 g1 g2 g3)) : SpecOk Tryz.prog f (ckSp skyE) := by
 refine specT_ok rfl (by decide) fun l m n ts v news hl hm hn ht hnil hF => ?_
 unfold ckF at hF
 split at hF
 ·rename_i nm id n g0 g1 g2 g3
  simp only [Tree.run, Option.some.injEq, Prod.mk.injEq] at hF
  obtain ⟨rfl, rfl⟩ := hF
  cases id with
  | none =>
   have h0' : n = 0 := hnil _ (List.mem_singleton.2 rfl) rfl
   subst h0'
   exact h0 nm g0 g1 g2 g3
  | some id => exact hc nm n g0 g1 g2 g3
 ·cases hF
theorem sky_none (nm : ByteArray) (g0 g1 g2 g3 : Nat → Int) : skyE nm 0 g0 g1 g2 g3 = headE nm 0 ∧ (headE nm 0 != 0) = true := by
 have h : headE nm 0 ≠ 0 := by
  unfold headE
  rw [Ne, firstZ_zero]
  intro h
  have := h 16 (by simp [errIf])
  omega
 have h : (headE nm 0 != 0) = true := by simpa using h
 unfold skyE skyF
 rw [h]
 exact ⟨rfl, rfl⟩
theorem qk_none (nm : ByteArray) (g0 g1 g2 g3 : Nat → Int) : CallAt Tryz.prog 5 [.agg [cs nm, nilC]] (hpT [⟨none, 0, skC g0 g1 g2 g3⟩] [] []) (int (skyE nm 0 g0 g1 g2 g3)) (hpT [⟨none, 0, skC g0 g1 g2 g3⟩] [] []) := by
 obtain ⟨e1, e2⟩ := sky_none nm g0 g1 g2 g3
 rw [e1]
 exact call_sk tbK_ok Tryz.func5 (by kernel_rfl) (false, true) (by kernel_rfl) (S := .node (headE nm 0 != 0) (.leaf (.inl (true, int (headE nm 0), hpT [⟨none, 0, skC g0 g1 g2 g3⟩] [] []))) (.ff (.leaf (.inl (true, int 0, hpT [⟨none, 0, skC g0 g1 g2 g3⟩] [] []))))) (by kernel_rfl) (by kernel_rfl)
  (SkLeads.all (sk_yes e2 (sk_leaf rfl)))
theorem pk_none (nm : ByteArray) (g0 g1 g2 g3 : Nat → Int) : CallAt Tryz.prog 32 [.agg [cs nm, nilC]] (hpT [⟨none, 0, skC g0 g1 g2 g3⟩] [] []) (int (skyE nm 0 g0 g1 g2 g3)) (hpT [⟨none, 0, skC g0 g1 g2 g3⟩] [] []) := by
 obtain ⟨e1, e2⟩ := sky_none nm g0 g1 g2 g3
 rw [e1]
 exact call_sk tbK_ok Tryz.func32 (by kernel_rfl) (false, false) (by kernel_rfl) (S := .node (headE nm 0 != 0) (.leaf (.inl (true, int (headE nm 0), hpT [⟨none, 0, skC g0 g1 g2 g3⟩] [] []))) (.ff (.leaf (.inl (true, int 0, hpT [⟨none, 0, skC g0 g1 g2 g3⟩] [] []))))) (by kernel_rfl) (by kernel_rfl)
  (SkLeads.all (sk_yes e2 (sk_leaf rfl)))
theorem qk_ok : SpecOk Tryz.prog 5 (ckSp skyE) := ck_of qk_none qk_call
theorem pk_ok : SpecOk Tryz.prog 32 (ckSp skyE) := ck_of pk_none pk_call
end Go.Ev
