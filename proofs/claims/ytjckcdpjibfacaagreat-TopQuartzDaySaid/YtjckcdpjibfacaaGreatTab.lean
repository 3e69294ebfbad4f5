/- Functions of the library that the evaluator takes by their contracts: light.IsName. Conditions: none. -/
import Derived.Test.YtjckcdpjibfacaaGreatEvRun
import Derived.Test.YtjckcdpjibfacaaGreatName
import Derived.Below
namespace Go.Ev
open Go Go.RowKit
theorem stp_below {E : Env} {h : Hp} {w w' : World} (r : RH E h w) (b : Below w.heap.size w w') : Stp E h w E h w' :=
 Stp.forget (h' := { h with low := h.next }) r ⟨Env.le.refl E, b.os, b.tape, b.output, b.size, fun k hk _ => b.block k hk, fun _ _ hp => .inl hp, fun k o hk _ => (b.block k (Array.getElem?_eq_some_iff.1 hk).1).trans hk⟩ (Nat.le_refl _)
def SpecOk (P : Program) (f : FuncId) (s : Spec) : Prop := ∀ args h v h', (s args h).run = some (v, h') → ∀ (E : Env) (w : World) (vals : List Value), RH E h w → All2 (A.Is E) args vals →
 Calls P f vals.toArray w fun e w' => ∃ x E', e = .returned x ∧ v.Is E' x ∧ Stp E h w E' h' w'
theorem pure_calls {P : Program} {f : FuncId} {E : Env} {h : Hp} {w : World} {args : Array Value} {x : Value} {v : A} (r : RH E h w) (hx : v.Is E x)
  (hc : Calls P f args w fun e w' => e = .returned x ∧ Below w.heap.size w w') : Calls P f args w fun e w' => ∃ x E', e = .returned x ∧ v.Is E' x ∧ Stp E h w E' h w' :=
 hc.mono fun _ _ ⟨he, hb⟩ => ⟨x, E, he, hx, stp_below r hb⟩
def specName : Spec := fun args h => match args with
 | [.one (.lit (.string s))] => .leaf (.one (.lit (.bool (Go.Proofs.Tryz.isNameW s))), h)
 | _ => .fail 200
theorem specName_ok : SpecOk Go.Proofs.Tryz.prog 69 specName := by
 intro args h v h' hr E w vals rh hargs
 unfold specName at hr
 split at hr
 ·rename_i s
  simp only [Tree.run, Option.some.injEq, Prod.mk.injEq] at hr
  obtain ⟨rfl, rfl⟩ := hr
  match vals, hargs with
  | [y], ⟨⟨hy, _⟩, _⟩ =>
   subst hy
   exact pure_calls rh ⟨rfl, rfl⟩ (Go.Proofs.Tryz.isName_walk s w)
 ·cases hr
def tabOf : List (FuncId × Spec) → FuncId → Option Spec
 | [], _ => none
 | (g, s) :: l, f => match Nat.beq g f with
  | true => some s
  | false => tabOf l f
theorem tabOf_ok {P : Program} : ∀ {l : List (FuncId × Spec)}, (∀ e ∈ l, SpecOk P e.1 e.2) → TabOk P (tabOf l)
 | [], _, f, s, h => by cases h
 | (g, s') :: l, hl, f, s, h => by
  unfold tabOf at h
  split at h
  ·rename_i e
   obtain rfl := Nat.eq_of_beq_eq_true e
   simp only [Option.some.injEq] at h
   subst h
   exact hl (g, s') (by simp)
  ·exact tabOf_ok (fun e he => hl e (by simp [he])) f s h
def libTab : List (FuncId × Spec) := [(69, specName)]
theorem libTab_ok : TabOk Go.Proofs.Tryz.prog (tabOf libTab) := tabOf_ok fun e he => by
 simp only [libTab, List.mem_cons, List.not_mem_nil, or_false] at he
 subst he
 exact specName_ok
theorem spec_of_fun {P : Program} {T : FuncId → Option Spec} {W : FuncId → Bool × Bool} (hT : TabOk P T) (hno : NoOwn P) (hm : P.follows .mixedOrders = true) (n : Nat) (f : FuncId) (hf : f < yieldBase := by decide) : SpecOk P f (evFun P T W n f) :=
 fun args h v h' hr E w vals rh ha => (fun_ok hT hno hm n f args h v h' hr E w vals rh ha).1 hf
def eqAs : List A → List A → Bool
 | [], [] => true
 | a :: xs, b :: bs => eqA a b && eqAs xs bs
 | _, _ => false
theorem eqAs_eq : ∀ {a b : List A}, eqAs a b = true → a = b
 | [], [], _ => rfl
 | a :: xs, b :: bs, h => by
  simp only [eqAs, Bool.and_eq_true] at h
  rw [eqA_eq h.1, eqAs_eq h.2]
 | [], _ :: _, h => by cases h
 | _ :: _, [], h => by cases h
theorem all_noId {E E' : Env} : ∀ {xs : List A} {vs : List Value}, All2 (A.Is E) xs vs → xs.all A.noId = true → All2 (A.Is E') xs vs
 | [], [], _, _ => trivial
 | a :: xs, v :: vs, h, hn => by
  simp only [List.all_cons, Bool.and_eq_true] at hn
  exact ⟨h.1.noId hn.1, all_noId h.2 hn.2⟩
 | [], _ :: _, h, _ => h.elim
 | _ :: _, [], h, _ => h.elim
theorem rh_none (w : World) : RH (fun _ => none) hp0 w :=
 ⟨Nat.zero_le _, fun _ _ => rfl, fun _ _ h => (by cases h), fun id b hb => (by rw [show hp0.heap = Tr.nil from rfl, Tr.get_nil] at hb; cases hb), fun id _ b _ _ _ hb => (by rw [show hp0.heap = Tr.nil from rfl, Tr.get_nil] at hb; cases hb), fun g id h => (by cases h), fun _ _ h => (by cases h)⟩
def memo (args0 : List A) (v : A) : Spec := fun args h => match eqAs args args0 with
 | true => .leaf (v, h)
 | false => .fail 210
theorem memo_ok {P : Program} {f : FuncId} {s : Spec} (hs : SpecOk P f s) {args0 : List A} {v : A} (hr : (s args0 hp0).run = some (v, hp0)) (hv : v.noId = true) (ha : args0.all A.noId = true) : SpecOk P f (memo args0 v) := by
 intro args h v' h' hm E w vals rh hargs
 unfold memo at hm
 split at hm
 ·rename_i he
  obtain rfl := eqAs_eq he
  simp only [Tree.run, Option.some.injEq, Prod.mk.injEq] at hm
  obtain ⟨rfl, rfl⟩ := hm
  refine (hs args hp0 v hp0 hr (fun _ => none) w vals (rh_none w) (all_noId hargs ha)).mono ?_
  rintro e w' ⟨x, E', he', hx, hst⟩
  exact ⟨x, E, he', hx.noId hv, stp_below rh ⟨hst.fr.os, hst.fr.tape, hst.fr.output, hst.fr.size, fun k hk => hst.fr.keep k hk fun _ _ hp _ => (by cases hp)⟩⟩
 ·cases hm
end Go.Ev
