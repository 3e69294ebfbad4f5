/- Layers that are put together, by the program and by the reference: both come to one function. Conditions: few layers. (Printed by gen_tog.py.) -/
import Derived.Test.YtlpchgidkibbeaaGreatDoorTog0
namespace Go.Ev
open Go Go.Proofs
set_option maxRecDepth 100000
theorem loop_countF {P : Program} {c : Code} {sB : St} (head : Nat → St) (fin : Nat → X × St) (n : Nat) (hstep : ∀ k, k < n → ComesF P c sB (head k) (Rnd head fin k)) (hend : ComesF P c sB (head n) (RndEnd (fin n))) : ComesF P (.loop c) sB (head 0) fun q => q = fin 0 := by
 refine comesF_loop head (fun k => n - k) (fun k => k ≤ n ∧ fin k = fin 0) _ (fun k hk => ?_) 0 ⟨Nat.zero_le n, rfl⟩
 rcases Nat.lt_or_eq_of_le hk.1 with h | h
 ·refine (hstep k h).mono fun p hp => ?_
  obtain ⟨x1, st1⟩ := p
  cases x1 with
  | normal => exact ⟨k + 1, hp.1, ⟨h, hp.2.trans hk.2⟩, by omega⟩
  | exit i => exact Eq.trans hp hk.2
  | ret => exact Eq.trans hp hk.2
 ·subst h
  refine hend.mono fun p hp => ?_
  obtain ⟨x1, st1⟩ := p
  cases x1 with
  | normal => exact hp.elim
  | exit i => exact Eq.trans hp hk.2
  | ret => exact Eq.trans hp hk.2
theorem mfacts {m : Nat} (h : decide (((m + 1 : Nat) : Int) > 1) = true) (hm : m ≤ 1000000) : IntKind.i64.wrap (((m + 1 : Nat) : Int) - 2) = ((m - 1 : Nat) : Int) ∧ IntKind.i64.wrap (((m + 1 : Nat) : Int) - 1) = ((m : Nat) : Int) ∧ 1 ≤ m := by
 simp only [decide_eq_true_eq] at h
 refine ⟨?_, ?_, by omega⟩
 ·rw [wrap_id (by omega) (by omega)]; omega
 ·rw [wrap_id (by omega) (by omega)]; omega
theorem canM_eq {m : Nat} {a h : Nat → Int} (hm : decide (((m + 1 : Nat) : Int) > 1) = true) : canM (m + 1, a, h) = !(cold a h (m - 1) m) := by
 unfold canM
 rw [hm]
 rfl
theorem merge_eq {m : Nat} {a h : Nat → Int} (hm : 1 ≤ m) : mergeT (m + 1, a, h) = (m - 1 + 1, putF a (m - 1) (w64 (a (m - 1) + a m)), putF h (m - 1) (w64 (h (m - 1) + h m))) := by
 show (m + 1 - 1, putF a (m + 1 - 2) (w64 (a (m + 1 - 2) + a (m + 1 - 1))), putF h (m + 1 - 2) (w64 (h (m + 1 - 2) + h (m + 1 - 1)))) = _
 rw [show m + 1 - 2 = m - 1 by omega, show m + 1 - 1 = m by omega, show m - 1 + 1 = m by omega]
theorem mergeN_pos : ∀ (f : Nat) (s : T3), 1 ≤ s.1 → 1 ≤ (mergeN f s).1 ∧ (mergeN f s).1 ≤ s.1
 | 0, s, h => ⟨h, Nat.le_refl _⟩
 | f + 1, s, h => by
  unfold mergeN
  cases hc : canM s with
  | false => exact ⟨h, Nat.le_refl _⟩
  | true =>
   have h1 : 1 < s.1 := by
    unfold canM at hc
    split at hc
    ·rename_i hd; simp only [decide_eq_true_eq] at hd; omega
    ·cases hc
   obtain ⟨a, b⟩ := mergeN_pos f (mergeT s) (show 1 ≤ s.1 - 1 by omega)
   have e : (mergeT s).1 = s.1 - 1 := rfl
   exact ⟨a, by simp only []; omega⟩
theorem togS_bd (z1 z2 : Nat → Int) : ∀ k, (togS z1 z2 k).1 ≤ k ∧ (1 ≤ k → 1 ≤ (togS z1 z2 k).1)
 | 0 => ⟨Nat.le_refl _, fun h => by omega⟩
 | k + 1 => by
  obtain ⟨a, b⟩ := mergeN_pos ((togS z1 z2 k).1 + 1) (pushT (togS z1 z2 k) (z1 k) (z2 k)) (show 1 ≤ (togS z1 z2 k).1 + 1 by omega)
  have c := (togS_bd z1 z2 k).1
  have e : (pushT (togS z1 z2 k) (z1 k) (z2 k)).1 = (togS z1 z2 k).1 + 1 := rfl
  exact ⟨by show (mergeN _ _).1 ≤ _; omega, fun _ => a⟩
abbrev SkO2 := Sk ((X × St) ⊕ (List Bool × St))
section
variable (n : Nat) (z1 z2 : Nat → Int)
def tgX (s : T3) : St := tgN n z1 z2 [(3, .one (.fn 140 [])), (4, tgA s.1)] (tgBl 152 s)
noncomputable def tgN2 (m : Nat) (d : Int) (S : Sk (X × St)) : Sk (X × St) := .need (decide (0 ≤ IntKind.i64.wrap (((m + 1 : Nat) : Int) - d)) && decide (IntKind.i64.wrap (((m + 1 : Nat) : Int) - d) < ((m + 1 : Nat) : Int))) (.need (Nat.blt (0 + (IntKind.i64.wrap (((m + 1 : Nat) : Int) - d)).toNat) (m + 1)) S)
noncomputable def tgN3 (m : Nat) (d : Int) (S : Sk (X × St)) : Sk (X × St) := tgN2 m d (.need (Nat.blt (0 + (IntKind.i64.wrap (((m + 1 : Nat) : Int) - d)).toNat) (m + 1)) S)
noncomputable def tgG (m : Nat) (a h : Nat → Int) (i : Int) : Sk (X × St) := tgN3 m 2 (tgN3 m 1 (.need (decide ((0 : Int) ≤ 0) && decide (0 ≤ IntKind.i64.wrap (((m + 1 : Nat) : Int) - 2)) && decide (IntKind.i64.wrap (((m + 1 : Nat) : Int) - 2) ≤ ((m + 1 : Nat) : Int))) (.need (Nat.ble (IntKind.i64.wrap (((m + 1 : Nat) : Int) - 2)).toNat (m + 1) && Nat.blt (((IntKind.i64.wrap (((m + 1 : Nat) : Int) - 2)).toNat + 1) * 16) 140737488355328 && Nat.ble ((IntKind.i64.wrap (((m + 1 : Nat) : Int) - 2)).toNat + 1) 9223372036854775807) (.leaf (.normal, tgI n z1 z2 ((IntKind.i64.wrap (((m + 1 : Nat) : Int) - 2)).toNat + 1, putF a (IntKind.i64.wrap (((m + 1 : Nat) : Int) - 2)).toNat (w64 (a (0 + (IntKind.i64.wrap (((m + 1 : Nat) : Int) - 2)).toNat) + a (0 + (IntKind.i64.wrap (((m + 1 : Nat) : Int) - 1)).toNat))), putF h (IntKind.i64.wrap (((m + 1 : Nat) : Int) - 2)).toNat (w64 (h (0 + (IntKind.i64.wrap (((m + 1 : Nat) : Int) - 2)).toNat) + h (0 + (IntKind.i64.wrap (((m + 1 : Nat) : Int) - 1)).toNat)))) i)))))
noncomputable def tgSk (m : Nat) (a h : Nat → Int) (i : Int) : Sk (X × St) := .node (decide (((m + 1 : Nat) : Int) > 1)) (tgN3 m 2 (tgN3 m 1 (.node (!(cold a h (0 + (IntKind.i64.wrap (((m + 1 : Nat) : Int) - 2)).toNat) (0 + (IntKind.i64.wrap (((m + 1 : Nat) : Int) - 1)).toNat))) (tgG n z1 z2 m a h i) (.leaf (.exit 2, tgS n z1 z2 (m + 1, a, h) i))))) (.ff (.leaf (.exit 2, tgS n z1 z2 (m + 1, a, h) i)))
theorem tgI_into (m : Nat) (a h : Nat → Int) (i : Int) : tgIT n z1 z2 (m + 1, a, h) i = into (tgIT n z1 z2 (m + 1, a, h) i) (tgSk n z1 z2 m a h i) := by kernel_rfl
theorem tgI_fits (m : Nat) (a h : Nat → Int) (i : Int) : fits (tgIT n z1 z2 (m + 1, a, h) i) (tgSk n z1 z2 m a h i) = true := by kernel_rfl
theorem tgN2_ok {p : X × St → Prop} {m d' : Nat} {d : Int} {S : Sk (X × St)} (he : IntKind.i64.wrap (((m + 1 : Nat) : Int) - d) = (d' : Int)) (hd : d' < m + 1) (h : SkLeads p S) : SkLeads p (tgN2 m d S) := by
 have b := rnd_lt hd
 unfold tgN2
 rw [he]
 exact sk_need b.2.1 (sk_need b.2.2 h)
theorem tgN3_ok {p : X × St → Prop} {m d' : Nat} {d : Int} {S : Sk (X × St)} (he : IntKind.i64.wrap (((m + 1 : Nat) : Int) - d) = (d' : Int)) (hd : d' < m + 1) (h : SkLeads p S) : SkLeads p (tgN3 m d S) := by
 refine tgN2_ok he hd ?_
 rw [he]
 exact sk_need (rnd_lt hd).2.2 h
theorem tgI_loop (i : Int) (s : T3) (h1 : 1 ≤ s.1) (hs : s.1 ≤ 1000000) : ComesF Tryz.prog (.loop (nthLoop tgC tgPI)) (tgB n z1 z2) (tgI n z1 z2 s i) fun q => q = (.exit 2, tgS n z1 z2 (mergeN s.1 s) i) := by
 refine loop_all (rec := tgRe) (recT_ok tbT1_ok) rfl [3, 4, 7, 9, 10, 11] [3, 4, 9, 10, 11] (fun s => tgI n z1 z2 s i) (fun s => s.1) (fun s => 1 ≤ s.1 ∧ s.1 ≤ 1000000) (fun s => (.exit 2, tgS n z1 z2 (mergeN s.1 s) i)) (fun s hs => ?_) s ⟨h1, hs⟩
 obtain ⟨m', a, h⟩ := s
 obtain ⟨m, rfl⟩ : ∃ m, m' = m + 1 := ⟨m' - 1, by have := hs.1; simp only at this; omega⟩
 have hm : m + 1 ≤ 1000000 := hs.2
 refine all_into (tgI_into n z1 z2 m a h i) (tgI_fits n z1 z2 m a h i) (SkLeads.all ?_)
 have hfin : canM (m + 1, a, h) = false → mergeN (m + 1) (m + 1, a, h) = (m + 1, a, h) := fun e => by unfold mergeN; rw [e]
 refine sk_either (fun g1 => ?_) fun g1 => sk_ff (sk_leaf ?_)
 ·obtain ⟨e2, e1, hm1⟩ := mfacts g1 (by omega)
  have hG : canM (m + 1, a, h) = true → SkLeads (fun p : X × St => match p.1 with | .normal => ∃ y : T3, p.2.Le (tgI n z1 z2 y i) ∧ (1 ≤ y.1 ∧ y.1 ≤ 1000000) ∧ y.1 < m + 1 ∧ ((.exit 2, tgS n z1 z2 (mergeN y.1 y) i) : X × St) = (.exit 2, tgS n z1 z2 (mergeN (m + 1) (m + 1, a, h)) i) | _ => p = (.exit 2, tgS n z1 z2 (mergeN (m + 1) (m + 1, a, h)) i)) (tgG n z1 z2 m a h i) := fun hc => by
   have hme := merge_eq (a := a) (h := h) hm1
   unfold tgG
   refine tgN3_ok e2 (by omega) (tgN3_ok e1 (by omega) (sk_need (by rw [e2, show decide ((0 : Int) ≤ ((m - 1 : Nat) : Int)) = true by simp only [decide_eq_true_eq]; omega, show decide (((m - 1 : Nat) : Int) ≤ ((m + 1 : Nat) : Int)) = true by simp only [decide_eq_true_eq]; omega]; rfl) (sk_need (by rw [e2, Int.toNat_natCast, ble_lit (by omega), blt_lit (by omega), ble_lit (by omega)]; rfl) (sk_leaf ?_))))
   refine ⟨mergeT (m + 1, a, h), ?_, ⟨?_, ?_⟩, ?_, ?_⟩
   ·rw [e2, e1, idx_nat, idx_nat, Int.toNat_natCast, hme]
    exact St.Le.refl _
   ·show 1 ≤ m + 1 - 1; omega
   ·show m + 1 - 1 ≤ 1000000; omega
   ·show m + 1 - 1 < m + 1; omega
   ·have : mergeN (m + 1) (m + 1, a, h) = mergeN m (mergeT (m + 1, a, h)) := by conv => lhs; unfold mergeN; rw [hc]
    rw [this]; rfl
  refine tgN3_ok e2 (by omega) (tgN3_ok e1 (by omega) ?_)
  rw [e2, e1, idx_nat, idx_nat]
  refine sk_either (fun g2 => hG (by rw [canM_eq g1]; exact g2)) fun g2 => sk_leaf ?_
  show ((.exit 2, tgS n z1 z2 (m + 1, a, h) i) : X × St) = (.exit 2, tgS n z1 z2 (mergeN (m + 1) (m + 1, a, h)) i)
  rw [hfin (by rw [canM_eq g1]; exact g2)]
 ·have hc : canM (m + 1, a, h) = false := by unfold canM; rw [g1]
  show ((.exit 2, tgS n z1 z2 (m + 1, a, h) i) : X × St) = (.exit 2, tgS n z1 z2 (mergeN (m + 1) (m + 1, a, h)) i)
  rw [hfin hc]
noncomputable def tgR1S (s : T3) (k : Nat) : SkO2 := .node (decide ((k : Int) < (n : Int))) (.need (decide (0 ≤ (k : Int)) && decide ((k : Int) < (n : Int))) (.need (Nat.blt (0 + Int.toNat (k : Int)) n) (.need (Nat.blt (0 + Int.toNat (k : Int)) n) (match s with
 | (0, _, _) => .leaf (.inr (tgPI, tgN n z1 z2 [(3, .one (.fn 140 [])), (4, slO 1 2 1), (7, int 1), (9, slT 0 2 n), (10, int n), (11, int (k : Int))] [⟨false, 152, .flat [ci (z1 (0 + Int.toNat (k : Int))), ci (z2 (0 + Int.toNat (k : Int)))]⟩]))
 | (m + 1, a, h) => .need (Nat.ble (m + 1) (m + 1) && Nat.blt ((m + 1 + 1) * 16) 140737488355328 && Nat.ble (m + 1 + 1) 9223372036854775807) (.leaf (.inr (tgPI, tgI n z1 z2 (pushT (m + 1, a, h) (z1 (0 + Int.toNat (k : Int))) (z2 (0 + Int.toNat (k : Int)))) (k : Int))))))))
 (.leaf (.inl (.exit 0, tgX n z1 z2 s)))
theorem tgR1_into (s : T3) (k : Nat) : tgR1 n z1 z2 s k = into (tgR1 n z1 z2 s k) (tgR1S n z1 z2 s k) := by
 obtain ⟨m, a, h⟩ := s
 cases m with
 | zero => kernel_rfl
 | succ m => kernel_rfl
theorem tgR1_fits (s : T3) (k : Nat) : fits (tgR1 n z1 z2 s k) (tgR1S n z1 z2 s k) = true := by
 obtain ⟨m, a, h⟩ := s
 cases m with
 | zero => kernel_rfl
 | succ m => kernel_rfl
theorem tgR2_into (m : Nat) (a h : Nat → Int) (k : Nat) : tgR2 n z1 z2 (m + 1, a, h) k = into (tgR2 n z1 z2 (m + 1, a, h) k) (.leaf (.inl (.normal, tgS n z1 z2 (m + 1, a, h) (IntKind.i64.wrap ((k : Int) + 1))))) := by kernel_rfl
theorem tgR2_fits (m : Nat) (a h : Nat → Int) (k : Nat) : fits (tgR2 n z1 z2 (m + 1, a, h) k) (.leaf (.inl (.normal, tgS n z1 z2 (m + 1, a, h) (IntKind.i64.wrap ((k : Int) + 1))))) = true := by kernel_rfl
theorem tgR1_eq (s : T3) (k : Nat) : (evB tgRe tgC (tgS n z1 z2 s (k : Int))).bind (canO [3, 4, 7, 9, 10, 11] [3, 4] (tgB n z1 z2)) = tgR1 n z1 z2 s k := by delta tgR1; rfl
theorem tgR2_eq (s : T3) (k : Nat) : (evR tgRe true tgC tgPI (.exit 2) (tgS n z1 z2 s (k : Int))).bind (canO [] [3, 4, 9, 10, 11] (tgB n z1 z2)) = tgR2 n z1 z2 s k := by delta tgR2; rfl
theorem tg_zle (a h : Nat → Int) (x y : Int) (k : Nat) : (tgN n z1 z2 [(3, .one (.fn 140 [])), (4, slO 1 2 1), (7, int 1), (9, slT 0 2 n), (10, int n), (11, int (k : Int))] [⟨false, 152, .flat [ci x, ci y]⟩]).Le (tgI n z1 z2 (pushT (0, a, h) x y) (k : Int)) := by
 refine le_news (news := [⟨false, 152, .flat [ci x, ci y]⟩]) (news' := [⟨false, 152, .rows 1 (tkC (putF a 0 x) (putF h 0 y))⟩]) (show 1 + 1 ≤ lim by decide) ⟨⟨rfl, two_rows (putF_same _ _ _).symm (putF_same _ _ _).symm⟩, trivial⟩
theorem tg_stop (s : T3) (k : Nat) (hk : k < n) (hn : n ≤ 100000) (hs : s.1 ≤ k) {S0 : St} (hle : S0.Le (tgI n z1 z2 (pushT s (z1 k) (z2 k)) (k : Int))) {φ : X × St → Prop} (hφ : φ (.normal, tgS n z1 z2 (mergeN (s.1 + 1) (pushT s (z1 k) (z2 k))) (IntKind.i64.wrap ((k : Int) + 1)))) :
  CutF Tryz.prog tgRe tgC (tgB n z1 z2) φ 1 (.inr (tgPI, S0)) := by
 refine ⟨_, true, [], [3, 4, 9, 10, 11], comesF_le hle (tgI_loop n z1 z2 (k : Int) (pushT s (z1 k) (z2 k)) (Nat.succ_le_succ (Nat.zero_le _)) (show s.1 + 1 ≤ 1000000 by omega)), fun q hq => Leads.all ?_⟩
 subst hq
 have hp := (mergeN_pos (s.1 + 1) (pushT s (z1 k) (z2 k)) (Nat.succ_le_succ (Nat.zero_le _))).1
 have e : (pushT s (z1 k) (z2 k)).1 = s.1 + 1 := rfl
 rw [e]
 revert hp hφ
 generalize mergeN (s.1 + 1) (pushT s (z1 k) (z2 k)) = s'
 intro hφ hp
 obtain ⟨m', a, h⟩ := s'
 obtain ⟨m, rfl⟩ : ∃ m, m' = m + 1 := ⟨m' - 1, by simp only at hp; omega⟩
 exact leads_in (tgR2_eq n z1 z2 (m + 1, a, h) k) (tgR2_into n z1 z2 m a h k) (tgR2_fits n z1 z2 m a h k) (sk_leaf hφ)
theorem tg_loop (hn : n ≤ 100000) : ComesF Tryz.prog (.loop tgC) (tgB n z1 z2) (tgS n z1 z2 (togS z1 z2 0) ((0 : Nat) : Int)) fun q => q = (.exit 0, tgX n z1 z2 (togS z1 z2 n)) := by
 refine loop_countF (fun k => tgS n z1 z2 (togS z1 z2 k) (k : Int)) (fun _ => (.exit 0, tgX n z1 z2 (togS z1 z2 n))) n (fun k hk => ?_) ?_
 ·refine comesF_cut (rec := tgRe) (recT_ok tbT1_ok) rfl 1 [3, 4, 7, 9, 10, 11] [3, 4] (Leads.all ?_)
  obtain ⟨a1, a2, a3⟩ := rnd_lt hk
  refine leads_in (tgR1_eq n z1 z2 (togS z1 z2 k) k) (tgR1_into n z1 z2 (togS z1 z2 k) k) (tgR1_fits n z1 z2 (togS z1 z2 k) k) (sk_yes a1 (sk_need a2 (sk_need a3 (sk_need a3 ?_))))
  have hb := (togS_bd z1 z2 k).1
  have hφ : Rnd (fun k => tgS n z1 z2 (togS z1 z2 k) (k : Int)) (fun _ => (.exit 0, tgX n z1 z2 (togS z1 z2 n))) k (.normal, tgS n z1 z2 (mergeN ((togS z1 z2 k).1 + 1) (pushT (togS z1 z2 k) (z1 k) (z2 k))) (IntKind.i64.wrap ((k : Int) + 1))) :=
   rnd_next (by rw [wrap_succ (by omega)]; exact St.Le.refl _) rfl
  revert hb hφ
  generalize togS z1 z2 k = s
  intro hb hφ
  obtain ⟨m, a, h⟩ := s
  rw [idx_nat]
  cases m with
  | zero => exact sk_leaf (tg_stop n z1 z2 (0, a, h) k hk hn hb (tg_zle n z1 z2 a h (z1 k) (z2 k) k) hφ)
  | succ m =>
   have hb : m + 1 ≤ k := hb
   refine sk_need (by rw [ble_self, blt_lit (by omega), ble_lit (by omega)]; rfl) (sk_leaf (tg_stop n z1 z2 (m + 1, a, h) k hk hn hb (St.Le.refl _) hφ))
 ·refine comesF_cut (rec := tgRe) (recT_ok tbT1_ok) rfl 0 [3, 4, 7, 9, 10, 11] [3, 4] (Leads.all ?_)
  exact leads_in (tgR1_eq n z1 z2 (togS z1 z2 n) n) (tgR1_into n z1 z2 (togS z1 z2 n) n) (tgR1_fits n z1 z2 (togS z1 z2 n) n) (sk_no (rnd_end n) (sk_leaf rfl))
def tgRt (s : T3) : St := tgN n z1 z2 [(2, tgA s.1)] (tgBl 152 s)
noncomputable def tgO : Tree ((X × St) ⊕ (List Bool × St)) := evO tgRe (bodyOf Tryz.f107) [3, 4, 9, 10, 11] [2] (tgB n z1 z2)
noncomputable def tgP (s : T3) : Tree ((X × St) ⊕ (List Bool × St)) := evO2 tgRe true (bodyOf Tryz.f107) (pathF Tryz.f107) [] [2] (tgB n z1 z2) (.exit 0, tgX n z1 z2 s)
theorem tgO_into : tgO n z1 z2 = into (tgO n z1 z2) (.leaf (.inr (pathF Tryz.f107, tgS n z1 z2 (togS z1 z2 0) ((0 : Nat) : Int)))) := by kernel_rfl
theorem tgO_fits : fits (tgO n z1 z2) (.leaf (.inr (pathF Tryz.f107, tgS n z1 z2 (togS z1 z2 0) ((0 : Nat) : Int)))) = true := by kernel_rfl
theorem tgP_into (s : T3) : tgP n z1 z2 s = into (tgP n z1 z2 s) (.leaf (.inl (.ret, tgRt n z1 z2 s))) := by
 obtain ⟨m, a, h⟩ := s
 cases m with
 | zero => kernel_rfl
 | succ m => kernel_rfl
theorem tgP_fits (s : T3) : fits (tgP n z1 z2 s) (.leaf (.inl (.ret, tgRt n z1 z2 s))) = true := by
 obtain ⟨m, a, h⟩ := s
 cases m with
 | zero => kernel_rfl
 | succ m => kernel_rfl
theorem tg_left (s : T3) : Left2 Tryz.prog Tryz.f107 (tankH n z1 z2) (tgA s.1) (hpT [⟨some 0, n, tkC z1 z2⟩] [] (tgBl 152 s)) (.ret, tgRt n z1 z2 s) := by
 obtain ⟨m, a, h⟩ := s
 cases m with
 | zero => exact left_of (b := true) (by kernel_rfl)
 | succ m => exact left_of (b := false) (by kernel_rfl)
theorem tg_call (hn : n ≤ 100000) : CallAt Tryz.prog 107 [slT 0 2 n] (tankH n z1 z2) (tgA (togS z1 z2 n).1) (hpT [⟨some 0, n, tkC z1 z2⟩] [] (tgBl 152 (togS z1 z2 n))) := by
 refine call_base (rec := tgRe) (recT_ok tbT1_ok) (c := bodyOf Tryz.f107) (fn := Tryz.f107) Tryz.func107 (by kernel_rfl) (by kernel_rfl) (false, true) 1 [3, 4, 9, 10, 11] [2] (sB := tgB n z1 z2) (by kernel_rfl) (t := tgO n z1 z2) (by delta tgO; rfl) (all_into (tgO_into n z1 z2) (tgO_fits n z1 z2) (SkLeads.all ?_))
 refine sk_leaf ⟨_, true, [], [2], tg_loop n z1 z2 hn, fun q hq => Leads.all ?_⟩
 subst hq
 exact leads_in (show _ = tgP n z1 z2 (togS z1 z2 n) by delta tgP; rfl) (tgP_into n z1 z2 (togS z1 z2 n)) (tgP_fits n z1 z2 (togS z1 z2 n)) (sk_leaf (cutF_dn (tg_left n z1 z2 (togS z1 z2 n))))
end
def tgFG (g : (Nat → Int) → (Nat → Int) → Nat → T3) : FT
 | [], [], [], [⟨_, n, [.int .i64 z1, .int .i64 z2]⟩] => .need (Nat.ble n 100000) (.node (Nat.beq n 0) (.leaf (nilA, [])) (.leaf (slO 1 2 (g z1 z2 n).1, [⟨false, 152, .rows (g z1 z2 n).1 (tkC (g z1 z2 n).2.1 (g z1 z2 n).2.2)⟩])))
 | _, _, _, _ => .fail 382
def tgF : FT := tgFG togS
def tgSp : Spec := fun args h => specT [(false, [.t tkD])] [] tgF args h
theorem tg_ok : SpecOk Tryz.prog 107 tgSp := by
 refine specT_ok rfl (by decide) fun l m n ts v news hl hm hn ht hnil hF => ?_
 unfold tgF tgFG at hF
 split at hF
 ·rename_i id n z1 z2
  obtain ⟨hok, hF⟩ := Tree.need_some hF
  have hok := Nat.le_of_ble_eq_true hok
  cases id with
  | none =>
   have h0 : n = 0 := hnil _ (List.mem_singleton.2 rfl) rfl
   subst h0
   simp only [Tree.run, Nat.beq, Option.some.injEq, Prod.mk.injEq] at hF
   obtain ⟨rfl, rfl⟩ := hF
   exact call_ev tbT1_ok (by kernel_rfl)
  | some id =>
   have hv : v = tgA (togS z1 z2 n).1 ∧ news = tgBl 152 (togS z1 z2 n) := by
    cases n with
    | zero =>
     simp only [Tree.run, Nat.beq, Option.some.injEq, Prod.mk.injEq] at hF
     obtain ⟨rfl, rfl⟩ := hF
     exact ⟨rfl, rfl⟩
    | succ k =>
     simp only [Tree.run, Nat.beq, Option.some.injEq, Prod.mk.injEq] at hF
     obtain ⟨rfl, rfl⟩ := hF
     have h1 := (togS_bd z1 z2 (k + 1)).2 (Nat.succ_le_succ (Nat.zero_le k))
     generalize togS z1 z2 (k + 1) = s at h1
     obtain ⟨m', a, h⟩ := s
     obtain ⟨m, rfl⟩ : ∃ m, m' = m + 1 := ⟨m' - 1, by simp only at h1; omega⟩
     exact ⟨rfl, rfl⟩
   obtain ⟨rfl, rfl⟩ := hv
   exact tg_call n z1 z2 hok
 ·cases hF
section
variable (n : Nat) (z1 z2 : Nat → Int)
def qgX (s : T3) : St := qgN n z1 z2 [(3, tgA s.1)] (tgBl 98 s)
noncomputable def qgN2 (m : Nat) (d : Int) (S : Sk (X × St)) : Sk (X × St) := .need (decide (0 ≤ IntKind.i64.wrap (((m + 1 : Nat) : Int) - d)) && decide (IntKind.i64.wrap (((m + 1 : Nat) : Int) - d) < ((m + 1 : Nat) : Int))) (.need (Nat.blt (0 + (IntKind.i64.wrap (((m + 1 : Nat) : Int) - d)).toNat) (m + 1)) S)
noncomputable def qgN3 (m : Nat) (d : Int) (S : Sk (X × St)) : Sk (X × St) := qgN2 m d (.need (Nat.blt (0 + (IntKind.i64.wrap (((m + 1 : Nat) : Int) - d)).toNat) (m + 1)) S)
noncomputable def qgG (m : Nat) (a h : Nat → Int) (i : Int) : Sk (X × St) := qgN2 m 2 (qgN2 m 1 (qgN2 m 2 (qgN2 m 1 (.need (decide ((0 : Int) ≤ 0) && decide (0 ≤ IntKind.i64.wrap (((m + 1 : Nat) : Int) - 2)) && decide (IntKind.i64.wrap (((m + 1 : Nat) : Int) - 2) ≤ ((m + 1 : Nat) : Int))) (.need (Nat.ble (0 + (IntKind.i64.wrap (((m + 1 : Nat) : Int) - 2)).toNat) (m + 1) && Nat.ble ((IntKind.i64.wrap (((m + 1 : Nat) : Int) - 2)).toNat * 16) 140737488355328 && Nat.ble (IntKind.i64.wrap (((m + 1 : Nat) : Int) - 2)).toNat 9223372036854775807) (.need (Nat.ble (IntKind.i64.wrap (((m + 1 : Nat) : Int) - 2)).toNat (IntKind.i64.wrap (((m + 1 : Nat) : Int) - 2)).toNat && Nat.blt (((IntKind.i64.wrap (((m + 1 : Nat) : Int) - 2)).toNat + 1) * 16) 140737488355328 && Nat.ble ((IntKind.i64.wrap (((m + 1 : Nat) : Int) - 2)).toNat + 1) 9223372036854775807) (.leaf (.normal, qgI n z1 z2 ((IntKind.i64.wrap (((m + 1 : Nat) : Int) - 2)).toNat + 1, putF a (IntKind.i64.wrap (((m + 1 : Nat) : Int) - 2)).toNat (w64 (a (0 + (IntKind.i64.wrap (((m + 1 : Nat) : Int) - 2)).toNat) + a (0 + (IntKind.i64.wrap (((m + 1 : Nat) : Int) - 1)).toNat))), putF h (IntKind.i64.wrap (((m + 1 : Nat) : Int) - 2)).toNat (w64 (h (0 + (IntKind.i64.wrap (((m + 1 : Nat) : Int) - 2)).toNat) + h (0 + (IntKind.i64.wrap (((m + 1 : Nat) : Int) - 1)).toNat)))) i))))))))
noncomputable def qgSk (m : Nat) (a h : Nat → Int) (i : Int) : Sk (X × St) := .node (decide (((m + 1 : Nat) : Int) > 1)) (qgN3 m 2 (qgN3 m 1 (.node (decide (w64 (h (0 + (IntKind.i64.wrap (((m + 1 : Nat) : Int) - 2)).toNat) * a (0 + (IntKind.i64.wrap (((m + 1 : Nat) : Int) - 1)).toNat)) > w64 (h (0 + (IntKind.i64.wrap (((m + 1 : Nat) : Int) - 1)).toNat) * a (0 + (IntKind.i64.wrap (((m + 1 : Nat) : Int) - 2)).toNat)))) (.tt (qgG n z1 z2 m a h i)) (.node (decide (w64 (h (0 + (IntKind.i64.wrap (((m + 1 : Nat) : Int) - 2)).toNat) * a (0 + (IntKind.i64.wrap (((m + 1 : Nat) : Int) - 1)).toNat)) < w64 (h (0 + (IntKind.i64.wrap (((m + 1 : Nat) : Int) - 1)).toNat) * a (0 + (IntKind.i64.wrap (((m + 1 : Nat) : Int) - 2)).toNat)))) (.ff (.leaf (.exit 2, qgS n z1 z2 (m + 1, a, h) i))) (.tt (qgG n z1 z2 m a h i)))))) (.ff (.leaf (.exit 2, qgS n z1 z2 (m + 1, a, h) i)))
theorem qgI_into (m : Nat) (a h : Nat → Int) (i : Int) : qgIT n z1 z2 (m + 1, a, h) i = into (qgIT n z1 z2 (m + 1, a, h) i) (qgSk n z1 z2 m a h i) := by kernel_rfl
theorem qgI_fits (m : Nat) (a h : Nat → Int) (i : Int) : fits (qgIT n z1 z2 (m + 1, a, h) i) (qgSk n z1 z2 m a h i) = true := by kernel_rfl
theorem qgN2_ok {p : X × St → Prop} {m d' : Nat} {d : Int} {S : Sk (X × St)} (he : IntKind.i64.wrap (((m + 1 : Nat) : Int) - d) = (d' : Int)) (hd : d' < m + 1) (h : SkLeads p S) : SkLeads p (qgN2 m d S) := by
 have b := rnd_lt hd
 unfold qgN2
 rw [he]
 exact sk_need b.2.1 (sk_need b.2.2 h)
theorem qgN3_ok {p : X × St → Prop} {m d' : Nat} {d : Int} {S : Sk (X × St)} (he : IntKind.i64.wrap (((m + 1 : Nat) : Int) - d) = (d' : Int)) (hd : d' < m + 1) (h : SkLeads p S) : SkLeads p (qgN3 m d S) := by
 refine qgN2_ok he hd ?_
 rw [he]
 exact sk_need (rnd_lt hd).2.2 h
theorem qgI_loop (i : Int) (s : T3) (h1 : 1 ≤ s.1) (hs : s.1 ≤ 1000000) : ComesF Tryz.prog (.loop (nthLoop qgC qgPI)) (qgB n z1 z2) (qgI n z1 z2 s i) fun q => q = (.exit 2, qgS n z1 z2 (mergeN s.1 s) i) := by
 refine loop_all (rec := tgRe) (recT_ok tbT1_ok) rfl [0, 3, 4, 5] [0, 3, 4] (fun s => qgI n z1 z2 s i) (fun s => s.1) (fun s => 1 ≤ s.1 ∧ s.1 ≤ 1000000) (fun s => (.exit 2, qgS n z1 z2 (mergeN s.1 s) i)) (fun s hs => ?_) s ⟨h1, hs⟩
 obtain ⟨m', a, h⟩ := s
 obtain ⟨m, rfl⟩ : ∃ m, m' = m + 1 := ⟨m' - 1, by have := hs.1; simp only at this; omega⟩
 have hm : m + 1 ≤ 1000000 := hs.2
 refine all_into (qgI_into n z1 z2 m a h i) (qgI_fits n z1 z2 m a h i) (SkLeads.all ?_)
 have hfin : canM (m + 1, a, h) = false → mergeN (m + 1) (m + 1, a, h) = (m + 1, a, h) := fun e => by unfold mergeN; rw [e]
 refine sk_either (fun g1 => ?_) fun g1 => sk_ff (sk_leaf ?_)
 ·obtain ⟨e2, e1, hm1⟩ := mfacts g1 (by omega)
  have hG : canM (m + 1, a, h) = true → SkLeads (fun p : X × St => match p.1 with | .normal => ∃ y : T3, p.2.Le (qgI n z1 z2 y i) ∧ (1 ≤ y.1 ∧ y.1 ≤ 1000000) ∧ y.1 < m + 1 ∧ ((.exit 2, qgS n z1 z2 (mergeN y.1 y) i) : X × St) = (.exit 2, qgS n z1 z2 (mergeN (m + 1) (m + 1, a, h)) i) | _ => p = (.exit 2, qgS n z1 z2 (mergeN (m + 1) (m + 1, a, h)) i)) (qgG n z1 z2 m a h i) := fun hc => by
   have hme := merge_eq (a := a) (h := h) hm1
   unfold qgG
   refine qgN2_ok e2 (by omega) (qgN2_ok e1 (by omega) (qgN2_ok e2 (by omega) (qgN2_ok e1 (by omega) (sk_need (by rw [e2, show decide ((0 : Int) ≤ ((m - 1 : Nat) : Int)) = true by simp only [decide_eq_true_eq]; omega, show decide (((m - 1 : Nat) : Int) ≤ ((m + 1 : Nat) : Int)) = true by simp only [decide_eq_true_eq]; omega]; rfl) (sk_need (by rw [e2, Int.toNat_natCast, ble_lit (by omega), ble_lit (by omega), ble_lit (by omega)]; rfl) (sk_need (by rw [e2, Int.toNat_natCast, ble_self, blt_lit (by omega), ble_lit (by omega)]; rfl) (sk_leaf ?_)))))))
   refine ⟨mergeT (m + 1, a, h), ?_, ⟨?_, ?_⟩, ?_, ?_⟩
   ·rw [e2, e1, idx_nat, idx_nat, Int.toNat_natCast, hme]
    exact St.Le.refl _
   ·show 1 ≤ m + 1 - 1; omega
   ·show m + 1 - 1 ≤ 1000000; omega
   ·show m + 1 - 1 < m + 1; omega
   ·have : mergeN (m + 1) (m + 1, a, h) = mergeN m (mergeT (m + 1, a, h)) := by conv => lhs; unfold mergeN; rw [hc]
    rw [this]; rfl
  refine qgN3_ok e2 (by omega) (qgN3_ok e1 (by omega) ?_)
  rw [e2, e1, idx_nat, idx_nat]
  refine sk_either (fun g2 => sk_tt (hG ?_)) fun g2 => sk_either (fun g3 => sk_ff (sk_leaf ?_)) fun g3 => sk_tt (hG ?_)
  ·rw [canM_eq g1]
   have hc : cold a h (m - 1) m = false := by unfold cold; simp only [decide_eq_true_eq, decide_eq_false_iff_not] at g2 ⊢; omega
   rw [hc]; rfl
  ·show ((.exit 2, qgS n z1 z2 (m + 1, a, h) i) : X × St) = (.exit 2, qgS n z1 z2 (mergeN (m + 1) (m + 1, a, h)) i)
   rw [hfin (by rw [canM_eq g1, show cold a h (m - 1) m = true from g3]; rfl)]
  ·rw [canM_eq g1, show cold a h (m - 1) m = false from g3]; rfl
 ·have hc : canM (m + 1, a, h) = false := by unfold canM; rw [g1]
  show ((.exit 2, qgS n z1 z2 (m + 1, a, h) i) : X × St) = (.exit 2, qgS n z1 z2 (mergeN (m + 1) (m + 1, a, h)) i)
  rw [hfin hc]
noncomputable def qgR1S (s : T3) (k : Nat) : SkO2 := .node (decide ((k : Int) < (n : Int))) (.need (decide (0 ≤ (k : Int)) && decide ((k : Int) < (n : Int))) (.need (Nat.blt (0 + Int.toNat (k : Int)) n) (.need (Nat.blt (0 + Int.toNat (k : Int)) n) (match s with
 | (0, _, _) => .leaf (.inr (qgPI, qgN n z1 z2 [(0, slT 0 2 n), (3, slO 1 2 1), (4, int (k : Int)), (5, int 1)] [⟨false, 98, .flat [ci (z1 (0 + Int.toNat (k : Int))), ci (z2 (0 + Int.toNat (k : Int)))]⟩]))
 | (m + 1, a, h) => .need (Nat.ble (m + 1) (m + 1) && Nat.blt ((m + 1 + 1) * 16) 140737488355328 && Nat.ble (m + 1 + 1) 9223372036854775807) (.leaf (.inr (qgPI, qgI n z1 z2 (pushT (m + 1, a, h) (z1 (0 + Int.toNat (k : Int))) (z2 (0 + Int.toNat (k : Int)))) (k : Int))))))))
 (.leaf (.inl (.exit 0, qgX n z1 z2 s)))
theorem qgR1_into (s : T3) (k : Nat) : qgR1 n z1 z2 s k = into (qgR1 n z1 z2 s k) (qgR1S n z1 z2 s k) := by
 obtain ⟨m, a, h⟩ := s
 cases m with
 | zero => kernel_rfl
 | succ m => kernel_rfl
theorem qgR1_fits (s : T3) (k : Nat) : fits (qgR1 n z1 z2 s k) (qgR1S n z1 z2 s k) = true := by
 obtain ⟨m, a, h⟩ := s
 cases m with
 | zero => kernel_rfl
 | succ m => kernel_rfl
theorem qgR2_into (m : Nat) (a h : Nat → Int) (k : Nat) : qgR2 n z1 z2 (m + 1, a, h) k = into (qgR2 n z1 z2 (m + 1, a, h) k) (.leaf (.inl (.normal, qgS n z1 z2 (m + 1, a, h) (IntKind.i64.wrap ((k : Int) + 1))))) := by kernel_rfl
theorem qgR2_fits (m : Nat) (a h : Nat → Int) (k : Nat) : fits (qgR2 n z1 z2 (m + 1, a, h) k) (.leaf (.inl (.normal, qgS n z1 z2 (m + 1, a, h) (IntKind.i64.wrap ((k : Int) + 1))))) = true := by kernel_rfl
theorem qgR1_eq (s : T3) (k : Nat) : (evB tgRe qgC (qgS n z1 z2 s (k : Int))).bind (canO [0, 3, 4, 5] [3] (qgB n z1 z2)) = qgR1 n z1 z2 s k := by delta qgR1; rfl
theorem qgR2_eq (s : T3) (k : Nat) : (evR tgRe true qgC qgPI (.exit 2) (qgS n z1 z2 s (k : Int))).bind (canO [] [0, 3, 4] (qgB n z1 z2)) = qgR2 n z1 z2 s k := by delta qgR2; rfl
theorem qg_zle (a h : Nat → Int) (x y : Int) (k : Nat) : (qgN n z1 z2 [(0, slT 0 2 n), (3, slO 1 2 1), (4, int (k : Int)), (5, int 1)] [⟨false, 98, .flat [ci x, ci y]⟩]).Le (qgI n z1 z2 (pushT (0, a, h) x y) (k : Int)) := by
 refine le_news (news := [⟨false, 98, .flat [ci x, ci y]⟩]) (news' := [⟨false, 98, .rows 1 (tkC (putF a 0 x) (putF h 0 y))⟩]) (show 1 + 1 ≤ lim by decide) ⟨⟨rfl, two_rows (putF_same _ _ _).symm (putF_same _ _ _).symm⟩, trivial⟩
theorem qg_stop (s : T3) (k : Nat) (hk : k < n) (hn : n ≤ 100000) (hs : s.1 ≤ k) {S0 : St} (hle : S0.Le (qgI n z1 z2 (pushT s (z1 k) (z2 k)) (k : Int))) {φ : X × St → Prop} (hφ : φ (.normal, qgS n z1 z2 (mergeN (s.1 + 1) (pushT s (z1 k) (z2 k))) (IntKind.i64.wrap ((k : Int) + 1)))) :
  CutF Tryz.prog tgRe qgC (qgB n z1 z2) φ 1 (.inr (qgPI, S0)) := by
 refine ⟨_, true, [], [0, 3, 4], comesF_le hle (qgI_loop n z1 z2 (k : Int) (pushT s (z1 k) (z2 k)) (Nat.succ_le_succ (Nat.zero_le _)) (show s.1 + 1 ≤ 1000000 by omega)), fun q hq => Leads.all ?_⟩
 subst hq
 have hp := (mergeN_pos (s.1 + 1) (pushT s (z1 k) (z2 k)) (Nat.succ_le_succ (Nat.zero_le _))).1
 have e : (pushT s (z1 k) (z2 k)).1 = s.1 + 1 := rfl
 rw [e]
 revert hp hφ
 generalize mergeN (s.1 + 1) (pushT s (z1 k) (z2 k)) = s'
 intro hφ hp
 obtain ⟨m', a, h⟩ := s'
 obtain ⟨m, rfl⟩ : ∃ m, m' = m + 1 := ⟨m' - 1, by simp only at hp; omega⟩
 exact leads_in (qgR2_eq n z1 z2 (m + 1, a, h) k) (qgR2_into n z1 z2 m a h k) (qgR2_fits n z1 z2 m a h k) (sk_leaf hφ)
theorem qg_loop (hn : n ≤ 100000) : ComesF Tryz.prog (.loop qgC) (qgB n z1 z2) (qgS n z1 z2 (togS z1 z2 0) ((0 : Nat) : Int)) fun q => q = (.exit 0, qgX n z1 z2 (togS z1 z2 n)) := by
 refine loop_countF (fun k => qgS n z1 z2 (togS z1 z2 k) (k : Int)) (fun _ => (.exit 0, qgX n z1 z2 (togS z1 z2 n))) n (fun k hk => ?_) ?_
 ·refine comesF_cut (rec := tgRe) (recT_ok tbT1_ok) rfl 1 [0, 3, 4, 5] [3] (Leads.all ?_)
  obtain ⟨a1, a2, a3⟩ := rnd_lt hk
  refine leads_in (qgR1_eq n z1 z2 (togS z1 z2 k) k) (qgR1_into n z1 z2 (togS z1 z2 k) k) (qgR1_fits n z1 z2 (togS z1 z2 k) k) (sk_yes a1 (sk_need a2 (sk_need a3 (sk_need a3 ?_))))
  have hb := (togS_bd z1 z2 k).1
  have hφ : Rnd (fun k => qgS n z1 z2 (togS z1 z2 k) (k : Int)) (fun _ => (.exit 0, qgX n z1 z2 (togS z1 z2 n))) k (.normal, qgS n z1 z2 (mergeN ((togS z1 z2 k).1 + 1) (pushT (togS z1 z2 k) (z1 k) (z2 k))) (IntKind.i64.wrap ((k : Int) + 1))) :=
   rnd_next (by rw [wrap_succ (by omega)]; exact St.Le.refl _) rfl
  revert hb hφ
  generalize togS z1 z2 k = s
  intro hb hφ
  obtain ⟨m, a, h⟩ := s
  rw [idx_nat]
  cases m with
  | zero => exact sk_leaf (qg_stop n z1 z2 (0, a, h) k hk hn hb (qg_zle n z1 z2 a h (z1 k) (z2 k) k) hφ)
  | succ m =>
   have hb : m + 1 ≤ k := hb
   refine sk_need (by rw [ble_self, blt_lit (by omega), ble_lit (by omega)]; rfl) (sk_leaf (qg_stop n z1 z2 (m + 1, a, h) k hk hn hb (St.Le.refl _) hφ))
 ·refine comesF_cut (rec := tgRe) (recT_ok tbT1_ok) rfl 0 [0, 3, 4, 5] [3] (Leads.all ?_)
  exact leads_in (qgR1_eq n z1 z2 (togS z1 z2 n) n) (qgR1_into n z1 z2 (togS z1 z2 n) n) (qgR1_fits n z1 z2 (togS z1 z2 n) n) (sk_no (rnd_end n) (sk_leaf rfl))
def qgRt (s : T3) : St := qgN n z1 z2 [(2, tgA s.1)] (tgBl 98 s)
noncomputable def qgO : Tree ((X × St) ⊕ (List Bool × St)) := evO tgRe (bodyOf Tryz.f110) [0, 3, 4] [2] (qgB n z1 z2)
noncomputable def qgP (s : T3) : Tree ((X × St) ⊕ (List Bool × St)) := evO2 tgRe true (bodyOf Tryz.f110) (pathF Tryz.f110) [] [2] (qgB n z1 z2) (.exit 0, qgX n z1 z2 s)
theorem qgO_into : qgO n z1 z2 = into (qgO n z1 z2) (.leaf (.inr (pathF Tryz.f110, qgS n z1 z2 (togS z1 z2 0) ((0 : Nat) : Int)))) := by kernel_rfl
theorem qgO_fits : fits (qgO n z1 z2) (.leaf (.inr (pathF Tryz.f110, qgS n z1 z2 (togS z1 z2 0) ((0 : Nat) : Int)))) = true := by kernel_rfl
theorem qgP_into (s : T3) : qgP n z1 z2 s = into (qgP n z1 z2 s) (.leaf (.inl (.ret, qgRt n z1 z2 s))) := by
 obtain ⟨m, a, h⟩ := s
 cases m with
 | zero => kernel_rfl
 | succ m => kernel_rfl
theorem qgP_fits (s : T3) : fits (qgP n z1 z2 s) (.leaf (.inl (.ret, qgRt n z1 z2 s))) = true := by
 obtain ⟨m, a, h⟩ := s
 cases m with
 | zero => kernel_rfl
 | succ m => kernel_rfl
theorem qg_left (s : T3) : Left2 Tryz.prog Tryz.f110 (tankH n z1 z2) (tgA s.1) (hpT [⟨some 0, n, tkC z1 z2⟩] [] (tgBl 98 s)) (.ret, qgRt n z1 z2 s) := by
 obtain ⟨m, a, h⟩ := s
 cases m with
 | zero => exact left_of (b := true) (by kernel_rfl)
 | succ m => exact left_of (b := false) (by kernel_rfl)
theorem qg_call (hn : n ≤ 100000) : CallAt Tryz.prog 110 [slT 0 2 n] (tankH n z1 z2) (tgA (togS z1 z2 n).1) (hpT [⟨some 0, n, tkC z1 z2⟩] [] (tgBl 98 (togS z1 z2 n))) := by
 refine call_base (rec := tgRe) (recT_ok tbT1_ok) (c := bodyOf Tryz.f110) (fn := Tryz.f110) Tryz.func110 (by kernel_rfl) (by kernel_rfl) (false, true) 1 [0, 3, 4] [2] (sB := qgB n z1 z2) (by kernel_rfl) (t := qgO n z1 z2) (by delta qgO; rfl) (all_into (qgO_into n z1 z2) (qgO_fits n z1 z2) (SkLeads.all ?_))
 refine sk_leaf ⟨_, true, [], [2], qg_loop n z1 z2 hn, fun q hq => Leads.all ?_⟩
 subst hq
 exact leads_in (show _ = qgP n z1 z2 (togS z1 z2 n) by delta qgP; rfl) (qgP_into n z1 z2 (togS z1 z2 n)) (qgP_fits n z1 z2 (togS z1 z2 n)) (sk_leaf (cutF_dn (qg_left n z1 z2 (togS z1 z2 n))))
end
def qgFG (g : (Nat → Int) → (Nat → Int) → Nat → T3) : FT
 | [], [], [], [⟨_, n, [.int .i64 z1, .int .i64 z2]⟩] => .need (Nat.ble n 100000) (.node (Nat.beq n 0) (.leaf (nilA, [])) (.leaf (slO 1 2 (g z1 z2 n).1, [⟨false, 98, .rows (g z1 z2 n).1 (tkC (g z1 z2 n).2.1 (g z1 z2 n).2.2)⟩])))
 | _, _, _, _ => .fail 382
def qgF : FT := qgFG togS
def qgSp : Spec := fun args h => specT [(false, [.t tkD])] [] qgF args h
theorem qg_ok : SpecOk Tryz.prog 110 qgSp := by
 refine specT_ok rfl (by decide) fun l m n ts v news hl hm hn ht hnil hF => ?_
 unfold qgF qgFG at hF
 split at hF
 ·rename_i id n z1 z2
  obtain ⟨hok, hF⟩ := Tree.need_some hF
  have hok := Nat.le_of_ble_eq_true hok
  cases id with
  | none =>
   have h0 : n = 0 := hnil _ (List.mem_singleton.2 rfl) rfl
   subst h0
   simp only [Tree.run, Nat.beq, Option.some.injEq, Prod.mk.injEq] at hF
   obtain ⟨rfl, rfl⟩ := hF
   exact call_ev tbT1_ok (by kernel_rfl)
  | some id =>
   have hv : v = tgA (togS z1 z2 n).1 ∧ news = tgBl 98 (togS z1 z2 n) := by
    cases n with
    | zero =>
     simp only [Tree.run, Nat.beq, Option.some.injEq, Prod.mk.injEq] at hF
     obtain ⟨rfl, rfl⟩ := hF
     exact ⟨rfl, rfl⟩
    | succ k =>
     simp only [Tree.run, Nat.beq, Option.some.injEq, Prod.mk.injEq] at hF
     obtain ⟨rfl, rfl⟩ := hF
     have h1 := (togS_bd z1 z2 (k + 1)).2 (Nat.succ_le_succ (Nat.zero_le k))
     generalize togS z1 z2 (k + 1) = s at h1
     obtain ⟨m', a, h⟩ := s
     obtain ⟨m, rfl⟩ : ∃ m, m' = m + 1 := ⟨m' - 1, by simp only at h1; omega⟩
     exact ⟨rfl, rfl⟩
   obtain ⟨rfl, rfl⟩ := hv
   exact qg_call n z1 z2 hok
 ·cases hF
def tbG (g : (Nat → Int) → (Nat → Int) → Nat → T3) : List (FuncId × Spec) := (107, fun args h => specT [(false, [.t tkD])] [] (tgFG g) args h) :: (110, fun args h => specT [(false, [.t tkD])] [] (qgFG g) args h) :: tbT1
def tbT2 : List (FuncId × Spec) := (107, tgSp) :: (110, qgSp) :: tbT1
theorem tbT2_ok : TabOk Tryz.prog (tabOf tbT2) := tab_cons (tab_cons tbT1_ok qg_ok) tg_ok
end Go.Ev
