/- Facts on this program that the evaluator's soundness asks. Conditions: none. -/
import Derived.Test.YtjckcdpjibfacaaGreatTab
import Derived.Test.YtjckcdpjibfacaaGreatLoops
namespace Go.Ev
open Go
theorem mixed : Go.Proofs.Tryz.prog.follows .mixedOrders = true := by kernel_rfl
theorem noOwn : NoOwn Go.Proofs.Tryz.prog := fun f fn h => by
 have key : (Go.Proofs.Tryz.prog.funcs.toList.all fun fn => !(fn.name == "runtime.NumGoroutine")) = true := by kernel_rfl
 have hm : fn ∈ Go.Proofs.Tryz.prog.funcs.toList := by
  rw [Array.mem_toList_iff]
  exact Array.mem_of_getElem? h
 have := List.all_eq_true.1 key fn hm
 simpa using this
def modes (f : FuncId) : Bool × Bool := (Nat.beq f 30 || Nat.beq f 63, Nat.beq f 30 || Nat.beq f 63)
end Go.Ev
namespace Go.Ev
open Go Go.Proofs
def int (a : Int) : A := .one (.lit (.int .i64 a))
def boo (a : Bool) : A := .one (.lit (.bool a))
def ci (a : Int) : C := .lit (.int .i64 a)
def vec (x y z : Int) : A := .agg [ci x, ci y, ci z]
def noTab : FuncId → Option Spec := fun _ => none
def recT (P : Program) (T : FuncId → Option Spec) : Code → St → Tree (X × St) := evCode P T modes 100
theorem recT_ok {T : FuncId → Option Spec} (hT : TabOk Tryz.prog T) : RecOk Tryz.prog (recT Tryz.prog T) := (code_ok hT noOwn mixed 100).1
theorem noTab_ok : TabOk Tryz.prog noTab := tab_none
theorem rec0 : RecOk Tryz.prog (recT Tryz.prog noTab) := recT_ok tab_none
def bodyOf (fn : Func) : Code := fn.body.getD .skip
def pathF (fn : Func) : List Bool := pathOf (bodyOf fn) 0
def loopF (fn : Func) : Code := nthLoop (bodyOf fn) (pathF fn)
def preT (P : Program) (T : FuncId → Option Spec) (fn : Func) (args : List A) (h : Hp) (slots : List Nat) : Tree ((Bool × A × Hp) ⊕ (List Bool × St)) := (evB (recT P T) (bodyOf fn) (st0 fn args h (false, false))).bind (cutO P fn h slots)
def postT (P : Program) (T : FuncId → Option Spec) (fn : Func) (x : X) (st : St) (h : Hp) (slots : List Nat) : Tree ((Bool × A × Hp) ⊕ (List Bool × St)) := (evR (recT P T) true (bodyOf fn) (pathF fn) x st).bind (cutO P fn h slots)
def roundF (P : Program) (T : FuncId → Option Spec) (fn : Func) (slots slotsX : List Nat) (st : St) : Tree (X × St) := roundT (recT P T) slots slotsX (loopF fn) st
def stE (size : Nat) (env : Tr A) : St := { size := size, env := env, hp := hp0 }
def envL : List (Nat × A) → Tr A
 | [] => .nil
 | (t, a) :: l => (envL l).set D t (some a)
def CutP (P : Program) (T : FuncId → Option Spec) (fn : Func) (h : Hp) (v : A) (h' : Hp) (k : Nat) (o : (Bool × A × Hp) ⊕ (List Bool × St)) : Prop := CutIs P (recT P T) fn (bodyOf fn) h v h' k o
theorem cut_done {P : Program} {T : FuncId → Option Spec} {fn : Func} {h : Hp} {v : A} {h' : Hp} {k : Nat} {b : Bool} : CutP P T fn h v h' k (.inl (b, v, h')) := by
 cases k <;> rfl
theorem cut_stop {P : Program} {T : FuncId → Option Spec} {fn : Func} {h : Hp} {v : A} {h' : Hp} {k : Nat} {st : St} (q : X × St) (slots : List Nat) (hs : SumAt P (loopF fn) st q) (hz : q.2.size = st.size) (hp : (postT P T fn q.1 q.2 h slots).All (CutP P T fn h v h' k)) :
  CutP P T fn h v h' (k + 1) (.inr (pathF fn, st)) := ⟨q, slots, true, hs, hz, hp⟩
theorem call_pre {T : FuncId → Option Spec} (hT : TabOk Tryz.prog T) {f : FuncId} {fn : Func} (hfn : Tryz.prog.funcs[f]? = some fn) (hc : fn.body = some (bodyOf fn)) {args : List A} {h : Hp} {v : A} {h' : Hp} (k : Nat) (slots : List Nat)
  (hsz : (Nat.ble args.length fn.ntmps && Nat.ble args.length lim) = true) (hall : (preT Tryz.prog T fn args h slots).All (CutP Tryz.prog T fn h v h' k)) : CallAt Tryz.prog f args h v h' :=
 call_cut (recT_ok hT) hfn hc hsz (false, false) k slots hall
theorem lift0 {P : Program} {f : FuncId} {args : List A} {v : A} (hc : CallAt P f args hp0 v hp0) (hv : v.noId = true) (ha : args.all A.noId = true) {E : Env} {h : Hp} {w : World} {vals : List Value} (rh : RH E h w) (hargs : All2 (A.Is E) args vals) :
  Calls P f vals.toArray w fun e w' => ∃ x E', e = .returned x ∧ v.Is E' x ∧ Stp E h w E' h w' := by
 refine (hc (fun _ => none) w vals (rh_none w) (all_noId hargs ha)).mono ?_
 rintro e w' ⟨x, E', he', hx, hst⟩
 exact ⟨x, E, he', hx.noId hv, stp_below rh ⟨hst.fr.os, hst.fr.tape, hst.fr.output, hst.fr.size, fun k hk => hst.fr.keep k hk fun _ _ hp _ => (by cases hp)⟩⟩
def Tree.goes {α : Type} (p : α → Bool) : Tree α → Bool
 | .leaf a => p a
 | .node b t e => match b with | true => t.goes p | false => e.goes p
 | .need b t => match b with | true => t.goes p | false => false
 | .amb l r => match l.goes p with | true => r.goes p | false => false
 | .fail _ => false
theorem Tree.goes_all {α : Type} {p : α → Bool} {q : α → Prop} : ∀ {t : Tree α}, t.goes p = true → t.Hits q → t.All fun a => p a = true ∧ q a
 | .leaf a, h, hq => ⟨h, hq⟩
 | .node true t e, h, hq => Tree.goes_all (t := t) h hq
 | .node false t e, h, hq => Tree.goes_all (t := e) h hq
 | .need true t, h, hq => ⟨rfl, Tree.goes_all (t := t) h (hq rfl)⟩
 | .need false t, h, _ => by cases h
 | .amb _ _, h, hq => by
  unfold Tree.goes at h
  split at h
  ·rename_i hl; exact ⟨Tree.goes_all hl hq.1, Tree.goes_all h hq.2⟩
  ·cases h
 | .fail _, h, _ => by cases h
theorem Tree.hits_then {α β : Type} {p : α → Prop} {q : β → Prop} {f : α → Tree β} (hf : ∀ a, p a → (f a).Hits q) : ∀ {t : Tree α}, t.Hits p → (t.bind f).Hits q
 | .leaf a, h => hf a h
 | .node true t _, h => Tree.hits_then hf (t := t) h
 | .node false _ e, h => Tree.hits_then hf (t := e) h
 | .need _ t, h => fun hb => Tree.hits_then hf (t := t) (h hb)
 | .amb l r, h => ⟨Tree.hits_then hf h.1, Tree.hits_then hf h.2⟩
 | .fail _, _ => trivial
def isTrue : (Bool × A × Hp) ⊕ (List Bool × St) → Bool
 | .inl (true, .one (.lit (.bool b)), _) => b
 | _ => false
def Lvs (h : Hp) : (Bool × A × Hp) ⊕ (List Bool × St) → Prop
 | .inl r => LeaveIs h r
 | .inr _ => True
def preM (P : Program) (T : FuncId → Option Spec) (fn : Func) (args : List A) (h : Hp) (m : Bool × Bool) : Tree ((Bool × A × Hp) ⊕ (List Bool × St)) := (evB (recT P T) (bodyOf fn) (st0 fn args h m)).bind (cutO P fn h [])
theorem cutO_leave {P : Program} {fn : Func} {h : Hp} {slots : List Nat} (o : O) : (cutO P fn h slots o).Hits (Lvs h) := by
 cases o with
 | done x st =>
  simp only [cutO]
  refine Tree.hits_then (p := LeaveIs h) (q := Lvs h) (f := fun r => Tree.leaf (.inl r)) (fun a ha => ha) ?_
  unfold exitS
  split
  ·trivial
  ·exact Tree.hits_bind (p := LeaveIs h) (f := fun a => Tree.leaf (leaveS h a st.hp)) (fun a => leaveS_is h a st.hp) _
 | stop p st =>
  simp only [cutO]
  split <;> trivial
theorem call_goes {T : FuncId → Option Spec} (hT : TabOk Tryz.prog T) {f : FuncId} {fn : Func} (hfn : Tryz.prog.funcs[f]? = some fn) (hc : fn.body = some (bodyOf fn)) {args : List A} {h : Hp} (m : Bool × Bool)
  (hsz : (Nat.ble args.length fn.ntmps && Nat.ble args.length lim) = true) (hg : (preM Tryz.prog T fn args h m).goes isTrue = true) : CallAt Tryz.prog f args h (boo true) h := by
 refine call_cut (recT_ok hT) hfn hc hsz m 0 [] ?_
 refine Tree.All_mono (fun o ho => ?_) (Tree.goes_all hg (Tree.hits_bind (fun o => cutO_leave o) _))
 obtain ⟨h1, h2⟩ := ho
 match o, h1, h2 with
 | .inl (true, .one (.lit (.bool b)), h'), h1, h2 =>
  have e1 : b = true := h1
  have e2 : h' = h := h2 rfl
  rw [e1, e2]
  rfl
def preA (P : Program) (T : FuncId → Option Spec) (fn : Func) (args : List A) (h : Hp) (m : Bool × Bool) : Tree ((Bool × A × Hp) ⊕ (List Bool × St)) := (evA (recT P T) (bodyOf fn) (st0 fn args h m)).bind (cutO P fn h [])
theorem call_goesA {T : FuncId → Option Spec} (hT : TabOk Tryz.prog T) {f : FuncId} {fn : Func} (hfn : Tryz.prog.funcs[f]? = some fn) (hc : fn.body = some (bodyOf fn)) {args : List A} {h : Hp} (m : Bool × Bool)
  (hsz : (Nat.ble args.length fn.ntmps && Nat.ble args.length lim) = true) (hg : (preA Tryz.prog T fn args h m).goes isTrue = true) : CallAt Tryz.prog f args h (boo true) h := by
 refine call_all (recT_ok hT) hfn hc hsz m ?_
 refine Tree.All_mono (fun o ho => ?_) (Tree.goes_all hg (Tree.hits_bind (fun o => cutO_leave o) _))
 obtain ⟨h1, h2⟩ := ho
 match o, h1, h2 with
 | .inl (true, .one (.lit (.bool b)), h'), h1, h2 =>
  have e1 : b = true := h1
  have e2 : h' = h := h2 rfl
  rw [e1, e2]
  rfl
def layL : Nat → List Blk → Tr Blk → Tr Blk
 | _, [], t => t
 | i, b :: bs, t => layL (i + 1) bs (t.set D i (some b))
theorem layL_get : ∀ {bs : List Blk} {i j : Nat} {t : Tr Blk}, i + bs.length ≤ lim → (layL i bs t).get D j = (match decide (i ≤ j) with | true => (match nth bs (j - i) with | some b => some b | none => t.get D j) | false => t.get D j)
 | [], i, j, t, _ => by
  simp only [layL, nth]
  split <;> rfl
 | b :: bs, i, j, t, h => by
  simp only [List.length_cons] at h
  rw [layL, layL_get (by omega), Tr.get_set_D _ _ _ _ (by omega)]
  by_cases h1 : i + 1 ≤ j
  ·have h2 : i ≤ j := by omega
   rw [decide_eq_true h1, decide_eq_true h2, show j - i = (j - (i + 1)) + 1 by omega]
   simp only [nth]
   rw [if_neg (by omega)]
  ·rw [decide_eq_false h1]
   by_cases h2 : i = j
   ·subst h2
    simp [nth]
   ·have h3 : ¬ i ≤ j := by omega
    rw [decide_eq_false h3, if_neg h2]
def hpL (bs : List Blk) (globs : List (Nat × Nat)) : Hp := { heap := layL 0 bs .nil, next := bs.length, low := bs.length, globs := globs }
theorem hpL_get {bs : List Blk} {globs : List (Nat × Nat)} (h : bs.length ≤ lim) (j : Nat) : (hpL bs globs).heap.get D j = nth bs j := by
 have := layL_get (bs := bs) (i := 0) (j := j) (t := .nil) (by omega)
 rw [decide_eq_true (Nat.zero_le _)] at this
 simp only [Nat.sub_zero] at this
 show (layL 0 bs .nil).get D j = _
 rw [this]
 split
 ·rename_i b hb; exact hb.symm
 ·rename_i hb; rw [hb, Tr.get_nil]
def Sub (b b1 : Blk) : Prop := b1.ro = b.ro ∧ (b.ro = false → b1.elem = b.elem) ∧ (∀ E E' arr, b.body.Is E arr → b1.body.Is E' arr) ∧ (b.ro = true → ∀ cs1, b1.body = .flat cs1 → ∃ cs, b.body = .flat cs ∧ cs.length = cs1.length) ∧ b.body.isMap = false
def subEnv (E : Env) (ids : List Nat) : Env := fun i => match nth ids i with | some id => E id | none => none
theorem rh_sub {E : Env} {h : Hp} {w : World} (rh : RH E h w) {ids : List Nat} {bs : List Blk} {globs : List (Nat × Nat)} (hlen : ids.length = bs.length) (hlim : bs.length ≤ lim) (hnd : ids.Nodup)
  (hbs : ∀ i id b1, nth ids i = some id → nth bs i = some b1 → ∃ b, h.blk id = some b ∧ Sub b b1) (hg : ∀ g i, lookupN globs g = some i → ∃ id, nth ids i = some id ∧ lookupN h.globs g = some id) :
  RH (subEnv E ids) (hpL bs globs) w where
 nlim := hlim
 dom := fun id hid => by
  have hid : bs.length ≤ id := hid
  unfold subEnv
  rw [nth_eq, List.getElem?_eq_none (by omega)]
 lt := fun id p hp => by
  unfold subEnv at hp
  split at hp
  ·exact rh.lt _ _ hp
  ·cases hp
 blk := fun i b1 hb => by
  rw [hpL_get hlim] at hb
  have hi : i < ids.length := by rw [hlen]; rw [nth_eq] at hb; exact (List.getElem?_eq_some_iff.1 hb).1
  have hid : nth ids i = some ids[i] := by rw [nth_eq]; exact List.getElem?_eq_getElem hi
  obtain ⟨b, hbb, s1, s2, s3, s4, s5⟩ := hbs i _ b1 hid hb
  obtain ⟨p, hp, arr, fz, ⟨ty, h1, ht⟩, h2, h3, h4⟩ := rh.cells hbb s5
  refine ⟨p, by unfold subEnv; rw [hid]; exact hp, .inl ⟨arr, fz, ⟨ty, h1, fun hf => (ht (by rw [← s1]; exact hf)).trans (s2 (by rw [← s1]; exact hf)).symm⟩, h2, ⟨fun hf => h3.1 (by rw [← s1]; exact hf), s3 _ _ _ h3.2⟩, ?_⟩⟩
  unfold roIs at h4 ⊢
  rw [s1]
  cases hro : b.ro with
  | false => rw [hro] at h4; exact h4
  | true =>
   rw [hro] at h4
   intro cs1 hcs1
   obtain ⟨cs, e1, e2⟩ := s4 hro cs1 hcs1
   rw [h4 cs e1, e2]
 inj := fun i i' b1 b1' p p' hb hb' hro hp hp' he => by
  rw [hpL_get hlim] at hb hb'
  have hi : i < ids.length := by rw [hlen]; rw [nth_eq] at hb; exact (List.getElem?_eq_some_iff.1 hb).1
  have hi' : i' < ids.length := by rw [hlen]; rw [nth_eq] at hb'; exact (List.getElem?_eq_some_iff.1 hb').1
  have hid : nth ids i = some ids[i] := by rw [nth_eq]; exact List.getElem?_eq_getElem hi
  have hid' : nth ids i' = some ids[i'] := by rw [nth_eq]; exact List.getElem?_eq_getElem hi'
  obtain ⟨b, hbb, s1, _⟩ := hbs i _ b1 hid hb
  obtain ⟨b', hbb', s1', _⟩ := hbs i' _ b1' hid' hb'
  unfold subEnv at hp hp'
  rw [hid] at hp
  rw [hid'] at hp'
  have := rh.inj _ _ b b' p p' hbb hbb' (by rw [← s1]; exact hro) hp hp' he
  rcases Nat.lt_trichotomy i i' with hlt | e | hlt
  ·exact absurd this (List.pairwise_iff_getElem.1 hnd i i' hi hi' hlt)
  ·exact e
  ·exact absurd this.symm (List.pairwise_iff_getElem.1 hnd i' i hi' hi hlt)
 glob := fun g i hgi => by
  obtain ⟨id, h1, h2⟩ := hg g i hgi
  obtain ⟨s, hs⟩ := rh.glob g id h2
  exact ⟨s, by unfold subEnv; rw [h1]; exact hs⟩
 lp := fun _ _ e => by cases e
theorem lift_sub {P : Program} {f : FuncId} {args1 : List A} {v : A} {bs : List Blk} {globs : List (Nat × Nat)} (hc : CallAt P f args1 (hpL bs globs) v (hpL bs globs)) (hv : v.noId = true) {E : Env} {h : Hp} {w : World} (rh : RH E h w) {ids : List Nat} (hlen : ids.length = bs.length) (hlim : bs.length ≤ lim) (hnd : ids.Nodup)
  (hbs : ∀ i id b1, nth ids i = some id → nth bs i = some b1 → ∃ b, h.blk id = some b ∧ Sub b b1) (hg : ∀ g i, lookupN globs g = some i → ∃ id, nth ids i = some id ∧ lookupN h.globs g = some id)
  {vals : List Value} (hargs : All2 (A.Is (subEnv E ids)) args1 vals) : Calls P f vals.toArray w fun e w' => ∃ x E', e = .returned x ∧ v.Is E' x ∧ Stp E h w E' h w' := by
 refine (hc _ w vals (rh_sub rh hlen hlim hnd hbs hg) hargs).mono ?_
 rintro e w' ⟨x, E', he', hx, hst⟩
 refine ⟨x, E, he', hx.noId hv, stp_below rh ⟨hst.fr.os, hst.fr.tape, hst.fr.output, hst.fr.size, fun k hk => hst.fr.keep k hk fun id p hp _ => ?_⟩⟩
 have : (hpL bs globs).low = bs.length := rfl
 unfold subEnv at hp
 split at hp
 ·rename_i id' hid
  rw [nth_eq] at hid
  have := (List.getElem?_eq_some_iff.1 hid).1
  omega
 ·cases hp
theorem call_ev {T : FuncId → Option Spec} (hT : TabOk Tryz.prog T) {f : FuncId} {args : List A} {v : A} {h h' : Hp} (hr : (evFun Tryz.prog T modes 100 f args h).run = some (v, h')) (hf : f < yieldBase := by decide) : CallAt Tryz.prog f args h v h' :=
 fun E w vals rh ha => (fun_ok hT noOwn mixed 100 f args h v h' hr E w vals rh ha).1 hf
end Go.Ev
