/- Entries that are committed to what is known: nil lists, entries that say less, needs as one. Conditions: none. -/
import Derived.Test.YtlpchgidkibbeaaGreatDoorLift
namespace Go.Ev
open Go Go.Proofs
set_option maxRecDepth 100000
def strip {α : Type} : Tree α → Tree α
 | .need b t => match strip t with
  | .need c u => .need (b && c) u
  | .leaf a => .need b (.leaf a)
  | .node c u v => .need b (.node c u v)
  | .amb u v => .need b (.amb u v)
  | .fail n => .need b (.fail n)
 | t => t
theorem strip_run {α : Type} : ∀ t : Tree α, (strip t).run = t.run
 | .need b t => by
  have ih := strip_run t
  unfold strip
  cases hs : strip t with
  | need c u =>
   rw [hs] at ih
   cases b with
   | true => exact ih
   | false => rfl
  | leaf a => rw [hs] at ih; cases b with | true => exact ih | false => rfl
  | node c u v => rw [hs] at ih; cases b with | true => exact ih | false => rfl
  | amb u v => rw [hs] at ih; cases b with | true => exact ih | false => rfl
  | fail n => rw [hs] at ih; cases b with | true => exact ih | false => rfl
 | .leaf _ => rfl
 | .node .. => rfl
 | .amb .. => rfl
 | .fail _ => rfl
def stpL (l : List (FuncId × Spec)) : List (FuncId × Spec) := l.map fun x => (x.1, fun args h => strip (x.2 args h))
theorem stpL_tab : ∀ (l : List (FuncId × Spec)) (f : FuncId), tabOf (stpL l) f = (tabOf l f).map fun s args h => strip (s args h)
 | [], _ => rfl
 | (g, s) :: l, f => by
  show (match Nat.beq g f with | true => _ | false => _) = Option.map _ (match Nat.beq g f with | true => _ | false => _)
  cases Nat.beq g f with
  | true => rfl
  | false => exact stpL_tab l f
theorem stpL_ok {P : Program} {l : List (FuncId × Spec)} (h : TabOk P (tabOf l)) : TabOk P (tabOf (stpL l)) := by
 intro f s hs
 rw [stpL_tab] at hs
 cases hl : tabOf l f with
 | none => rw [hl] at hs; cases hs
 | some s0 =>
  rw [hl] at hs
  simp only [Option.map_some, Option.some.injEq] at hs
  subst hs
  intro args hp v h' hr
  refine h f s0 hl args hp v h' ?_
  rw [strip_run] at hr
  exact hr
end Go.Ev
