/- Air: a copy of its steps, its checks by both. Conditions: none. -/
import Derived.Test.YtkalcencblhlgaaGreatDoorRis
namespace Go.Ev
open Go Go.RowKit Go.Proofs
set_option maxRecDepth 100000
def stC (f l : Nat → Int) : List Col := [.int .i64 f, .int .i64 l]
def arH (n : Nat) (f l : Nat → Int) : Hp := hpT [⟨some 0, n, stC f l⟩] [] []
def arN (size : Nat) (n : Nat) (f l : Nat → Int) (env : List (Nat × A)) (news : List Blk) : St := stN size (envL env) (bsS [⟨some 0, n, stC f l⟩] []) [] news
def arM (size : Nat) (n : Nat) (f l : Nat → Int) (env : List (Nat × A)) (news : List Blk) : St := stN size (envL env) (bsS [⟨some 0, n, stC f l⟩] []) [] news true
section
variable (n : Nat) (f l : Nat → Int)
def caBs : St := baseB 43 [slT 0 2 n] (arH n f l)
def caH (i : Int) : St := arN 43 n f l [(0, slT 0 2 n), (2, int 0), (9, slT 0 2 n), (10, int n), (11, int i)] []
def caX (e : Int) : St := arN 43 n f l [(2, int e)] []
noncomputable def caT (k : Nat) : Tree (X × St) := (reK (loopF Tryz.f78) (caH n f l (k : Int))).bind (canonT [0, 2, 9, 10, 11] [2] (caBs n f l))
noncomputable def caO : Tree ((X × St) ⊕ (List Bool × St)) := evO reK (bodyOf Tryz.f78) [0, 2, 9, 10, 11] [2] (caBs n f l)
noncomputable def caP (q : X × St) : Tree ((X × St) ⊕ (List Bool × St)) := evO2 reK true (bodyOf Tryz.f78) (pathF Tryz.f78) [] [2] (caBs n f l) q
def cqB : St := baseM 49 [slT 0 2 n] (arH n f l)
def cqH (i : Int) : St := arM 49 n f l [(0, slT 0 2 n), (2, int 0), (3, int i)] []
def cqX (e : Int) : St := arM 49 n f l [(2, int e)] []
noncomputable def cqT (k : Nat) : Tree (X × St) := (reK (loopF Tryz.f28) (cqH n f l (k : Int))).bind (canonT [0, 2, 3] [2] (cqB n f l))
noncomputable def cqO : Tree ((X × St) ⊕ (List Bool × St)) := evO reK (bodyOf Tryz.f28) [0, 2, 3] [2] (cqB n f l)
noncomputable def cqP (q : X × St) : Tree ((X × St) ⊕ (List Bool × St)) := evO2 reK true (bodyOf Tryz.f28) (pathF Tryz.f28) [] [2] (cqB n f l) q
def spB : St := baseB 18 [slT 0 2 n] (arH n f l)
def spO : Nat → A
 | 0 => .one nilC
 | k + 1 => .one (.sl true 1 0 2 0 (k + 1))
def spW (k : Nat) : List Blk := match k with
 | 0 => []
 | k + 1 => [⟨false, 150, .rows (k + 1) (stC f l)⟩]
def spH (k : Nat) : St := arN 18 n f l [(3, spO k), (6, slT 0 2 n), (7, int n), (8, int (k : Int))] (spW f l k)
def spX (k : Nat) : St := arN 18 n f l [(3, spO k)] (spW f l k)
noncomputable def spT (k : Nat) : Tree (X × St) := (reK (loopF Tryz.f30) (spH n f l k)).bind (canonT [3, 6, 7, 8] [3] (spB n f l))
noncomputable def spOO : Tree ((X × St) ⊕ (List Bool × St)) := evO reK (bodyOf Tryz.f30) [3, 6, 7, 8] [2] (spB n f l)
noncomputable def spP (q : X × St) : Tree ((X × St) ⊕ (List Bool × St)) := evO2 reK true (bodyOf Tryz.f30) (pathF Tryz.f30) [] [2] (spB n f l) q
end
end Go.Ev
namespace Go.Ev
open Go Go.RowKit Go.Proofs
set_option maxRecDepth 100000
section
variable (f l : Nat → Int)
def aiE (b : Bool) (i p : Nat) : Int := firstZ [wW (f i) (-100000) 100000, wW (l i) 0 16, errIf (match b with | true => decide (f i ≤ f p) | false => false) 11]
def aiR (k : Nat) : Int := aiE f l (decide ((k : Int) > 0)) k (k - 1)
end
def airE (n : Nat) (f l : Nat → Int) : Int := match decide ((n : Int) > 16) with
 | true => 5
 | false => (fnz (aiR f l) n 0).getD 0
section
variable (H : Int → St) (Y : Int → St) (n : Nat) (f l : Nat → Int) (k : Nat)
def aiL (b : Bool) : SkX := .node (aiE f l b (ixN k) (prN k) != 0) (.leaf (.ret, Y (aiE f l b (ixN k) (prN k)))) (.leaf (.normal, H (IntKind.i64.wrap ((k : Int) + 1))))
def aiP (S : SkX) : SkX := .need (pB n k) (.need (Nat.blt (prN k) n) S)
def caS : SkX := .node (decide ((k : Int) < (n : Int))) (.need (kB n k) (.need (Nat.blt (ixN k) n) (.need (Nat.blt (ixN k) n) (.node (decide ((k : Int) > 0)) (aiP n k (aiL H Y f l k true)) (aiL H Y f l k false))))) (.leaf (.exit 0, Y 0))
def cqS : SkX := .node (decide ((k : Int) < (n : Int))) (.need (kB n k) (.need (Nat.blt (ixN k) n) (.need (kB n k) (.need (Nat.blt (ixN k) n) (.node (decide ((k : Int) > 0)) (.need (kB n k) (.need (Nat.blt (ixN k) n) (aiP n k (aiL H Y f l k true)))) (aiL H Y f l k false)))))) (.leaf (.exit 0, Y 0))
theorem pr_facts (hn : n ≤ 1000000) (hk : k < n) : prN k = k - 1 ∧ pB n k = true ∧ Nat.blt (prN k) n = true := by
 have ep : prI k = ((k - 1 : Nat) : Int) := by
  unfold prI
  rw [wrap_id (by omega) (by omega)]
  split <;> omega
 have ep2 : prN k = k - 1 := by unfold prN; rw [ep, idx_nat]
 refine ⟨ep2, ?_, by rw [ep2, Nat.blt_eq]; omega⟩
 unfold pB
 rw [ep]
 simp only [Bool.and_eq_true, decide_eq_true_eq]
 omega
theorem aiL_ok (hn : n ≤ 1000000) (hk : k < n) {b : Bool} (hb : b = decide ((k : Int) > 0)) : SkLeads (Rnd (fun k : Nat => H (k : Int)) (finT Y n (aiR f l)) k) (aiL H Y f l k b) := by
 have e : aiE f l b (ixN k) (prN k) = aiR f l k := by
  rw [show ixN k = k from idx_nat k, (pr_facts n k hn hk).1, hb]
  rfl
 unfold aiL
 rw [e]
 refine sk_either (fun h => ?_) fun h => sk_leaf (rnd_next ?_ (finT_next hk (by simpa using h)))
 ·exact sk_leaf (rnd_ret (finT_ret hk (by simpa using h)).symm)
 ·rw [wrap_succ (by omega)]; exact St.Le.refl _
theorem caS_step (hn : n ≤ 1000000) (hk : k < n) : SkLeads (Rnd (fun k : Nat => H (k : Int)) (finT Y n (aiR f l)) k) (caS H Y n f l k) := by
 obtain ⟨e1, e2, e3⟩ := rnd_lt hk
 obtain ⟨p1, p2, p3⟩ := pr_facts n k hn hk
 have hi : Nat.blt (ixN k) n = true := e3
 exact sk_yes e1 (sk_need e2 (sk_need hi (sk_need hi (sk_either (fun h => sk_need p2 (sk_need p3 (aiL_ok H Y n f l k hn hk h.symm))) fun h => aiL_ok H Y n f l k hn hk h.symm))))
theorem cqS_step (hn : n ≤ 1000000) (hk : k < n) : SkLeads (Rnd (fun k : Nat => H (k : Int)) (finT Y n (aiR f l)) k) (cqS H Y n f l k) := by
 obtain ⟨e1, e2, e3⟩ := rnd_lt hk
 obtain ⟨p1, p2, p3⟩ := pr_facts n k hn hk
 have hi : Nat.blt (ixN k) n = true := e3
 exact sk_yes e1 (sk_need e2 (sk_need hi (sk_need e2 (sk_need hi (sk_either (fun h => sk_need e2 (sk_need hi (sk_need p2 (sk_need p3 (aiL_ok H Y n f l k hn hk h.symm))))) fun h => aiL_ok H Y n f l k hn hk h.symm)))))
end
theorem caS_last (H Y : Int → St) (n : Nat) (f l : Nat → Int) : SkLeads (RndEnd (finT Y n (aiR f l) n)) (caS H Y n f l n) := by
 refine sk_no (rnd_end n) (sk_leaf ?_)
 show _ = finT Y n (aiR f l) n
 rw [finT_end]
theorem cqS_last (H Y : Int → St) (n : Nat) (f l : Nat → Int) : SkLeads (RndEnd (finT Y n (aiR f l) n)) (cqS H Y n f l n) := by
 refine sk_no (rnd_end n) (sk_leaf ?_)
 show _ = finT Y n (aiR f l) n
 rw [finT_end]
section
variable (n : Nat) (f l : Nat → Int)
theorem ca_into (k : Nat) : caT n f l k = into (caT n f l k) (caS (caH n f l) (caX n f l) n f l k) := by kernel_rfl
theorem ca_fits (k : Nat) : fits (caT n f l k) (caS (caH n f l) (caX n f l) n f l k) = true := by kernel_rfl
theorem cq_into (k : Nat) : cqT n f l k = into (cqT n f l k) (cqS (cqH n f l) (cqX n f l) n f l k) := by kernel_rfl
theorem cq_fits (k : Nat) : fits (cqT n f l k) (cqS (cqH n f l) (cqX n f l) n f l k) = true := by kernel_rfl
noncomputable def caOS : SkO := .node (decide ((n : Int) > 16)) (.leaf (.inl (.ret, caX n f l 5))) (.leaf (.inr (pathF Tryz.f78, caH n f l ((0 : Nat) : Int))))
noncomputable def cqOS : SkO := .node (decide ((n : Int) > 16)) (.leaf (.inl (.ret, cqX n f l 5))) (.leaf (.inr (pathF Tryz.f28, cqH n f l ((0 : Nat) : Int))))
theorem caO_into : caO n f l = into (caO n f l) (caOS n f l) := by kernel_rfl
theorem caO_fits : fits (caO n f l) (caOS n f l) = true := by kernel_rfl
theorem cqO_into : cqO n f l = into (cqO n f l) (cqOS n f l) := by kernel_rfl
theorem cqO_fits : fits (cqO n f l) (cqOS n f l) = true := by kernel_rfl
theorem caP_end : caP n f l (.exit 0, caX n f l 0) = .leaf (.inl (.ret, caX n f l 0)) := by kernel_rfl
theorem caP_ret (e : Int) : caP n f l (.ret, caX n f l e) = .leaf (.inl (.ret, caX n f l e)) := by kernel_rfl
theorem cqP_end : cqP n f l (.exit 0, cqX n f l 0) = .leaf (.inl (.ret, cqX n f l 0)) := by kernel_rfl
theorem cqP_ret (e : Int) : cqP n f l (.ret, cqX n f l e) = .leaf (.inl (.ret, cqX n f l e)) := by kernel_rfl
theorem ca_left (e : Int) : Left2 Tryz.prog Tryz.f78 (arH n f l) (int e) (arH n f l) (.ret, caX n f l e) := left_of (b := true) (by kernel_rfl)
theorem cq_left (e : Int) : Left2 Tryz.prog Tryz.f28 (arH n f l) (int e) (arH n f l) (.ret, cqX n f l e) := left_of (b := true) (by kernel_rfl)
theorem ca_call : CallAt Tryz.prog 78 [slT 0 2 n] (arH n f l) (int (airE n f l)) (arH n f l) := by
 refine call_baseS reK_ok (c := bodyOf Tryz.f78) (fn := Tryz.f78) Tryz.func78 (by kernel_rfl) (by kernel_rfl) (false, false) 1 [0, 2, 9, 10, 11] [2] (sB := caBs n f l) (by kernel_rfl) (t := caO n f l) (by delta caO; rfl) (caO_into n f l) (caO_fits n f l) ?_
 unfold airE
 refine sk_either (fun h => sk_done ?_) fun h => ?_
 ·rw [h]; exact ca_left n f l 5
 ·rw [h]
  simp only [decide_eq_false_iff_not] at h
  refine sk_stop _ true [] [2] (loop_count reK_ok rfl [0, 2, 9, 10, 11] [2] (fun k => caH n f l (k : Int)) (finT (caX n f l) n (aiR f l)) n (caT n f l) (fun k => caS (caH n f l) (caX n f l) n f l k) (fun k => by delta caT; rfl) (ca_into n f l) (ca_fits n f l) (fun k hk => caS_step _ _ n f l k (by omega) hk) (caS_last _ _ n f l)) fun q hq => ?_
  subst hq
  unfold finT
  rw [Nat.sub_zero]
  cases fnz (aiR f l) n 0 with
  | some e => exact leads_leaf (show _ = caP n f l (.ret, caX n f l e) by delta caP; rfl) (caP_ret n f l e) (cutF_dn (ca_left n f l e))
  | none => exact leads_leaf (show _ = caP n f l (.exit 0, caX n f l 0) by delta caP; rfl) (caP_end n f l) (cutF_dn (ca_left n f l 0))
theorem cq_call : CallAt Tryz.prog 28 [slT 0 2 n] (arH n f l) (int (airE n f l)) (arH n f l) := by
 refine call_baseS reK_ok (c := bodyOf Tryz.f28) (fn := Tryz.f28) Tryz.func28 (by kernel_rfl) (by kernel_rfl) (false, true) 1 [0, 2, 3] [2] (sB := cqB n f l) (by kernel_rfl) (t := cqO n f l) (by delta cqO; rfl) (cqO_into n f l) (cqO_fits n f l) ?_
 unfold airE
 refine sk_either (fun h => sk_done ?_) fun h => ?_
 ·rw [h]; exact cq_left n f l 5
 ·rw [h]
  simp only [decide_eq_false_iff_not] at h
  refine sk_stop _ true [] [2] (loop_count reK_ok rfl [0, 2, 3] [2] (fun k => cqH n f l (k : Int)) (finT (cqX n f l) n (aiR f l)) n (cqT n f l) (fun k => cqS (cqH n f l) (cqX n f l) n f l k) (fun k => by delta cqT; rfl) (cq_into n f l) (cq_fits n f l) (fun k hk => cqS_step _ _ n f l k (by omega) hk) (cqS_last _ _ n f l)) fun q hq => ?_
  subst hq
  unfold finT
  rw [Nat.sub_zero]
  cases fnz (aiR f l) n 0 with
  | some e => exact leads_leaf (show _ = cqP n f l (.ret, cqX n f l e) by delta cqP; rfl) (cqP_ret n f l e) (cutF_dn (cq_left n f l e))
  | none => exact leads_leaf (show _ = cqP n f l (.exit 0, cqX n f l 0) by delta cqP; rfl) (cqP_end n f l) (cutF_dn (cq_left n f l 0))
noncomputable def spS (k : Nat) : SkX := .node (decide ((k : Int) < (n : Int))) (.need (kB n k) (.need (Nat.blt (ixN k) n) (.need (Nat.blt (ixN k) n) (match k with
 | 0 => .leaf (.normal, arN 18 n f l [(3, .one (.sl true 1 0 2 0 1)), (6, slT 0 2 n), (7, int n), (8, int (IntKind.i64.wrap (((0 : Nat) : Int) + 1)))] [⟨false, 150, .flat [ci (f (ixN 0)), ci (l (ixN 0))]⟩])
 | k + 1 => .need (apN 150 k) (.leaf (.normal, arN 18 n f l [(3, .one (.sl true 1 0 2 0 (k + 1 + 1))), (6, slT 0 2 n), (7, int n), (8, int (IntKind.i64.wrap (((k + 1 : Nat) : Int) + 1)))] [⟨false, 150, .rows (k + 1 + 1) (stC (putK f k) (putK l k))⟩])))))) (.leaf (.exit 0, spX n f l k))
theorem sp_into : ∀ k, spT n f l k = into (spT n f l k) (spS n f l k)
 | 0 => by kernel_rfl
 | k + 1 => by kernel_rfl
theorem sp_fits : ∀ k, fits (spT n f l k) (spS n f l k) = true
 | 0 => by kernel_rfl
 | k + 1 => by kernel_rfl
theorem spOO_is : spOO n f l = .leaf (.inr (pathF Tryz.f30, spH n f l 0)) := by kernel_rfl
end
theorem two_rows {x0 x1 : Int} {g0 g1 : Nat → Int} (h0 : x0 = g0 0) (h1 : x1 = g1 0) {e : TypeId} : ∀ (E : Env) (w : World) (p : Nat × Nat × Nat), blkIs E w p ⟨false, e, .flat [ci x0, ci x1]⟩ → blkIs E w p ⟨false, e, .rows 1 (stC g0 g1)⟩ := by
 subst h0; subst h1
 refine blk_body rfl (fun cs e => by cases e) fun E arr hh => rows_one rfl (fun j c col h1 h2 => ?_) hh
 match j, h1, h2 with
 | 0, h1, h2 => injection h1 with h1; injection h2 with h2; subst h1; subst h2; rfl
 | 1, h1, h2 => injection h1 with h1; injection h2 with h2; subst h1; subst h2; rfl
section
variable (n : Nat) (f l : Nat → Int)
theorem sp_step (hn : n ≤ 1000000) (k : Nat) (hk : k < n) : SkLeads (Rnd (spH n f l) (fun _ => (.exit 0, spX n f l n)) k) (spS n f l k) := by
 obtain ⟨e1, e2, e3⟩ := rnd_lt hk
 have hi : Nat.blt (ixN k) n = true := e3
 cases k with
 | zero =>
  refine sk_yes e1 (sk_need e2 (sk_need hi (sk_need hi (sk_leaf (rnd_next ?_ rfl)))))
  rw [wrap_succ (by omega)]
  exact le_news (show 1 + 1 ≤ lim by decide) ⟨⟨rfl, two_rows (by rw [show ixN 0 = 0 from idx_nat 0]) (by rw [show ixN 0 = 0 from idx_nat 0])⟩, trivial⟩
 | succ k =>
  have d0 : ((Tryz.prog.info? 150).map (·.bytes)).getD 0 = 16 := by kernel_rfl
  refine sk_yes e1 (sk_need e2 (sk_need hi (sk_need hi (sk_need (apN_ok (by rw [d0]; decide) (by omega)) (sk_leaf (rnd_next ?_ rfl))))))
  rw [wrap_succ (by omega), putK_eq, putK_eq]
  exact St.Le.refl _
theorem sp_last : SkLeads (RndEnd (.exit 0, spX n f l n)) (spS n f l n) := sk_no (rnd_end n) (sk_leaf rfl)
theorem sp_loop (hn : n ≤ 1000000) : ComesF Tryz.prog (.loop (loopF Tryz.f30)) (spB n f l) (spH n f l 0) fun q => q = (.exit 0, spX n f l n) :=
 loop_count reK_ok rfl [3, 6, 7, 8] [3] (spH n f l) (fun _ => (.exit 0, spX n f l n)) n (spT n f l) (spS n f l) (fun k => by delta spT; rfl) (sp_into n f l) (sp_fits n f l) (sp_step n f l hn) (sp_last n f l)
end
def spR (n : Nat) (f l : Nat → Int) (k : Nat) : St := arN 18 n f l [(2, spO k)] (spW f l k)
theorem spP_is (n : Nat) (f l : Nat → Int) : ∀ k, spP n f l (.exit 0, spX n f l k) = .leaf (.inl (.ret, spR n f l k))
 | 0 => by kernel_rfl
 | k + 1 => by kernel_rfl
theorem sp_left (n : Nat) (f l : Nat → Int) : ∀ k, Left2 Tryz.prog Tryz.f30 (arH n f l) (spO k) (hpT [⟨some 0, n, stC f l⟩] [] (spW f l k)) (.ret, spR n f l k)
 | 0 => left_of (b := true) (by kernel_rfl)
 | k + 1 => left_of (b := false) (by kernel_rfl)
theorem sp_call (n : Nat) (f l : Nat → Int) (hn : n ≤ 1000000) : CallAt Tryz.prog 30 [slT 0 2 n] (arH n f l) (spO n) (hpT [⟨some 0, n, stC f l⟩] [] (spW f l n)) := by
 refine call_base reK_ok (c := bodyOf Tryz.f30) (fn := Tryz.f30) Tryz.func30 (by kernel_rfl) (by kernel_rfl) (false, false) 1 [3, 6, 7, 8] [2] (sB := spB n f l) (by kernel_rfl) (spOO_is n f l) ?_
 refine (sk_stop _ true [] [2] (sp_loop n f l hn) fun q hq => ?_).all
 subst hq
 exact leads_leaf (show _ = spP n f l (.exit 0, spX n f l n) by delta spP; rfl) (spP_is n f l n) (cutF_dn (sp_left n f l n))
def stD : List Col := [.int .i64 fun _ => 0, .int .i64 fun _ => 0]
abbrev FA := Nat → (Nat → Int) → (Nat → Int) → Int
def caF (E : FA) : FT
 | [], [], [], [⟨_, n, [.int .i64 f, .int .i64 l]⟩] => .leaf (int (E n f l), [])
 | _, _, _, _ => .fail 750
def caSp (E : FA) : Spec := fun args h => specT [(false, [.t stD])] [] (caF E) args h
theorem ca_of {g : FuncId} (h0 : ∀ (f l : Nat → Int), CallAt Tryz.prog g [.one nilC] (hpT [⟨none, 0, stC f l⟩] [] []) (int (airE 0 f l)) (hpT [⟨none, 0, stC f l⟩] [] [])) (hc : ∀ (n : Nat) (f l : Nat → Int), CallAt Tryz.prog g [slT 0 2 n] (arH n f l) (int (airE n f l)) (arH n f l)) : SpecOk Tryz.prog g (caSp airE) := by
 refine specT_ok rfl (by decide) fun l m n ts v news hl hm hn ht hnil hF => ?_
 unfold caF at hF
 split at hF
 ·rename_i id n f l
  simp only [Tree.run, Option.some.injEq, Prod.mk.injEq] at hF
  obtain ⟨rfl, rfl⟩ := hF
  cases id with
  | none =>
   have h0' : n = 0 := hnil _ (List.mem_singleton.2 rfl) rfl
   subst h0'
   exact h0 f l
  | some id => exact hc n f l
 ·cases hF
theorem ca_ok : SpecOk Tryz.prog 78 (caSp airE) := ca_of (fun f l => call_ev tbK_ok (by kernel_rfl)) ca_call
theorem cq_ok : SpecOk Tryz.prog 28 (caSp airE) := ca_of (fun f l => call_ev tbK_ok (by kernel_rfl)) cq_call
def spF : FT
 | [], [], [], [⟨_, n, [.int .i64 f, .int .i64 l]⟩] => .need (Nat.ble n 1000000) (.node (Nat.beq n 0) (.leaf (.one nilC, [])) (.leaf (.one (.sl true 1 0 2 0 n), [⟨false, 150, .rows n (stC f l)⟩])))
 | _, _, _, _ => .fail 751
def spSp : Spec := fun args h => specT [(false, [.t stD])] [] spF args h
theorem sp_ok : SpecOk Tryz.prog 30 spSp := by
 refine specT_ok rfl (by decide) fun l m n ts v news hl hm hn ht hnil hF => ?_
 unfold spF at hF
 split at hF
 ·rename_i id n f l
  obtain ⟨hok, hF⟩ := Tree.need_some hF
  have hok := Nat.le_of_ble_eq_true hok
  have hv : v = spO n ∧ news = spW f l n := by
   cases n <;> (simp only [Tree.run, Nat.beq, Option.some.injEq, Prod.mk.injEq] at hF; obtain ⟨rfl, rfl⟩ := hF; exact ⟨rfl, rfl⟩)
  obtain ⟨rfl, rfl⟩ := hv
  cases id with
  | none =>
   have h0 : n = 0 := hnil _ (List.mem_singleton.2 rfl) rfl
   subst h0
   exact call_ev tbK_ok (by kernel_rfl)
  | some id => exact sp_call n f l hok
 ·cases hF
end Go.Ev
