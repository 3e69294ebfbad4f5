/- A function that is cut at its first loop alone, which may write into known memory; behind it the code is run as a whole. Conditions: none. -/
import Derived.Test.YtfdfpfojiilcgaaGreatDoorBas2
namespace Go.Ev
open Go Go.Proofs

/-- a tree without the conditions that are met -/
def Tree.slim {α : Type} : Tree α → Tree α
  | .leaf a => .leaf a
  | .node b t e => match b with | true => t.slim | false => e.slim
  | .need b t => match b with | true => t.slim | false => .fail 0
  | .amb l r => .amb l.slim r.slim
  | .fail n => .fail n
theorem Tree.slim_all {α : Type} {φ : α → Prop} : ∀ {t : Tree α}, t.slim.All φ → t.All φ
  | .leaf _, h => h
  | .node true t _, h => Tree.slim_all (t := t) h
  | .node false _ e, h => Tree.slim_all (t := e) h
  | .need true t, h => ⟨rfl, Tree.slim_all (t := t) h⟩
  | .need false _, h => h.elim
  | .amb _ _, h => ⟨Tree.slim_all h.1, Tree.slim_all h.2⟩
  | .fail _, h => h.elim
theorem goes_cut {P : Program} {rec : Code → St → Tree (X × St)} {fn : Func} {c : Code} {h : Hp} {k : Nat} {slots : List Nat} {t : Tree O} (hg : (t.bind (cutO P fn h slots)).goes isTrue = true) : (t.bind (cutO P fn h slots)).All (CutIs P rec fn c h (boo true) h k) := by
  refine Tree.All_mono (fun o ho => ?_) (Tree.goes_all hg (Tree.hits_bind (fun o => cutO_leave o) _))
  obtain ⟨h1, h2⟩ := ho
  match o, h1, h2 with
  | .inl (true, .one (.lit (.bool b)), h'), h1, h2 =>
    have e1 : b = true := h1
    have e2 : h' = h := h2 rfl
    rw [e1, e2]
    cases k <;> rfl
/-- up to the first loop -/
def begT (P : Program) (T : FuncId → Option Spec) (fn : Func) (args : List A) (h : Hp) (m : Bool × Bool) (slots : List Nat) : Tree ((Bool × A × Hp) ⊕ (List Bool × St)) := (evB (recT P T) (bodyOf fn) (st0 fn args h m)).bind (cutO P fn h slots)
/-- a round of it, memory and all -/
def memF (P : Program) (T : FuncId → Option Spec) (fn : Func) (slots : List Nat) (st : St) : Tree (X × St) := memT (recT P T) slots (loopF fn) st
/-- behind it -/
def endT (P : Program) (T : FuncId → Option Spec) (fn : Func) (h : Hp) (q : X × St) : Tree ((Bool × A × Hp) ⊕ (List Bool × St)) := (evR (recT P T) false (bodyOf fn) (pathF fn) q.1 q.2).bind (cutO P fn h [])
theorem call_first {T : FuncId → Option Spec} (hT : TabOk Tryz.prog T) {f : FuncId} {fn : Func} (hfn : Tryz.prog.funcs[f]? = some fn) (hc : fn.body = some (bodyOf fn)) {args : List A} {h : Hp} (m : Bool × Bool) (slots : List Nat)
    (hsz : (Nat.ble args.length fn.ntmps && Nat.ble args.length lim) = true) {S : St} (q : X × St) (hpre : ∀ φ : (Bool × A × Hp) ⊕ (List Bool × St) → Prop, (begT Tryz.prog T fn args h m slots).All φ = φ (.inr (pathF fn, S)))
    (hsum : SumAt Tryz.prog (loopF fn) S q) (hz : q.2.size = S.size) (hpost : (endT Tryz.prog T fn h q).goes isTrue = true) : CallAt Tryz.prog f args h (boo true) h := by
  refine call_cut (recT_ok hT) hfn hc hsz m 1 slots ?_
  have := hpre (CutIs Tryz.prog (recT Tryz.prog T) fn (bodyOf fn) h (boo true) h 1)
  unfold begT at this
  rw [this]
  exact ⟨q, [], false, hsum, hz, goes_cut hpost⟩
theorem sum_memF {T : FuncId → Option Spec} (hT : TabOk Tryz.prog T) {fn : Func} {slots : List Nat} {ι : Type} (head : ι → St) (μ : ι → Nat) (good : ι → Prop) (fin : ι → X × St)
    (hdec : ∀ x, good x → (memF Tryz.prog T fn slots (head x)).slim.All fun p => match p.1 with
      | .normal => ∃ y, p.2 = head y ∧ good y ∧ μ y < μ x ∧ fin y = fin x
      | _ => p = fin x) : ∀ (x : ι), good x → SumAt Tryz.prog (loopF fn) (head x) (fin x) :=
  sum_mem (recT_ok hT) head μ good fin (fun x hx => Tree.slim_all (hdec x hx))
def thrice {α : Type} (x : α) : Tree α := .amb (.amb (.leaf x) (.leaf x)) (.leaf x)
theorem thrice_all {α : Type} {x : α} {φ : α → Prop} (hx : φ x) : (thrice x).All φ := ⟨⟨hx, hx⟩, hx⟩
end Go.Ev
