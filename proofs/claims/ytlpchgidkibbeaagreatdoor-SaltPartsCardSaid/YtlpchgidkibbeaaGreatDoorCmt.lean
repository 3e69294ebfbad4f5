/- Entries that are committed to what is known: nil lists, entries that say less, needs as one. Conditions: none. -/
import Derived.Test.YtlpchgidkibbeaaGreatDoorLift
namespace Go.Ev
open Go Go.Proofs
set_option maxRecDepth 100000

/-! ### nil arguments, told as lists without rows at a block that is there -/
def fixA (d : Nat × Nat) : A → A
  | .one (.lit (.slice none 0 0)) => .one (.sl false d.1 0 d.2 0 0)
  | a => a
def fixAs : List (Nat × Nat) → List A → List A
  | d :: ds, a :: az => fixA d a :: fixAs ds az
  | _, az => az
theorem fixA_is {E : Env} {d : Nat × Nat} {a : A} {x : Value} (h : a.Is E x) : (fixA d a).Is E x := by
  unfold fixA
  split
  · obtain ⟨rfl, _⟩ := h
    exact .inr ⟨rfl, rfl, rfl⟩
  · exact h
theorem fixAs_is {E : Env} : ∀ {ds : List (Nat × Nat)} {az : List A} {xs : List Value}, All2 (A.Is E) az xs → All2 (A.Is E) (fixAs ds az) xs
  | [], _, _, h => by unfold fixAs; exact h
  | _ :: _, [], _, h => by unfold fixAs; exact h
  | d :: ds, a :: az, x :: xs, h => ⟨fixA_is h.1, fixAs_is h.2⟩
  | _ :: _, _ :: _, [], h => h.elim
theorem fix_ok {P : Program} {f : FuncId} {S : Spec} (h : SpecOk P f S) (ds : List (Nat × Nat)) : SpecOk P f fun args hp => S (fixAs ds args) hp :=
  fun args hp v h' hr E w vals rh hargs => h (fixAs ds args) hp v h' hr E w vals rh (fixAs_is hargs)
/-! ### entries that say less -/
theorem specT_subN {P : Program} {f : FuncId} {sh : Shp} {gl : List (Nat × List C)} {F F' : FT} (h : SpecOk P f fun args h => specT sh gl F args h) (hF : ∀ l m n ts r, (F' l m n ts).run = some r → (F l m n ts).run = some r) : SpecOk P f fun args h => specT sh gl F' args h := by
  intro args hp v h' hr
  refine h args hp v h' ?_
  simp only at hr ⊢
  unfold specT at hr ⊢
  split at hr
  · rename_i d gids hd hgi
    obtain ⟨hok, hr⟩ := Tree.need_some hr
    obtain ⟨r, hF', hr⟩ := Tree.bind_some hr
    simp only [Tree.run, hok, Tree.run_bind, hF _ _ _ _ _ hF', Option.bind_some]
    exact hr
  · cases hr
/-! ### needs that stand ahead, as one -/
def strip {α : Type} : Tree α → Tree α
  | .need b t => match strip t with
    | .need c u => .need (b && c) u
    | .leaf a => .need b (.leaf a)
    | .node c u v => .need b (.node c u v)
    | .amb u v => .need b (.amb u v)
    | .fail n => .need b (.fail n)
  | t => t
theorem strip_run {α : Type} : ∀ t : Tree α, (strip t).run = t.run
  | .need b t => by
    have ih := strip_run t
    unfold strip
    cases hs : strip t with
    | need c u =>
      rw [hs] at ih
      cases b with
      | true => exact ih
      | false => rfl
    | leaf a => rw [hs] at ih; cases b with | true => exact ih | false => rfl
    | node c u v => rw [hs] at ih; cases b with | true => exact ih | false => rfl
    | amb u v => rw [hs] at ih; cases b with | true => exact ih | false => rfl
    | fail n => rw [hs] at ih; cases b with | true => exact ih | false => rfl
  | .leaf _ => rfl
  | .node .. => rfl
  | .amb .. => rfl
  | .fail _ => rfl
def stpL (l : List (FuncId × Spec)) : List (FuncId × Spec) := l.map fun x => (x.1, fun args h => strip (x.2 args h))
theorem stpL_tab : ∀ (l : List (FuncId × Spec)) (f : FuncId), tabOf (stpL l) f = (tabOf l f).map fun s args h => strip (s args h)
  | [], _ => rfl
  | (g, s) :: l, f => by
    show (match Nat.beq g f with | true => _ | false => _) = Option.map _ (match Nat.beq g f with | true => _ | false => _)
    cases Nat.beq g f with
    | true => rfl
    | false => exact stpL_tab l f
theorem stpL_ok {P : Program} {l : List (FuncId × Spec)} (h : TabOk P (tabOf l)) : TabOk P (tabOf (stpL l)) := by
  intro f s hs
  rw [stpL_tab] at hs
  cases hl : tabOf l f with
  | none => rw [hl] at hs; cases hs
  | some s0 =>
    rw [hl] at hs
    simp only [Option.map_some, Option.some.injEq] at hs
    subst hs
    intro args hp v h' hr
    refine h f s0 hl args hp v h' ?_
    rw [strip_run] at hr
    exact hr
end Go.Ev
