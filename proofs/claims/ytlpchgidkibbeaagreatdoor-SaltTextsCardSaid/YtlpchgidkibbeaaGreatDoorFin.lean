/- Helps for loops that end at the first error, and for goals about trees. Conditions: none. -/
import Derived.Test.YtlpchgidkibbeaaGreatDoorSk1
namespace Go.Ev
open Go Go.Proofs
set_option maxRecDepth 100000

theorem prev_facts {k n : Nat} (h0 : decide ((k : Int) > 0) = true) (hk : k < n) (hn : n ≤ 1000000) : IntKind.i64.wrap ((k : Int) - 1) = ((k - 1 : Nat) : Int) ∧ 0 < k := by
  simp only [decide_eq_true_eq] at h0
  refine ⟨?_, by omega⟩
  rw [wrap_id (by omega) (by omega)]
  omega
/-- the first error from a layer on -/
def finT (Y : Int → St) (n : Nat) (g : Nat → Int) (k : Nat) : X × St := match fnz g (n - k) k with
  | some e => (.ret, Y e)
  | none => (.exit 0, Y 0)
theorem finT_next {Y : Int → St} {n : Nat} {g : Nat → Int} {k : Nat} (hk : k < n) (h : g k = 0) : finT Y n g (k + 1) = finT Y n g k := by
  unfold finT
  rw [show n - k = (n - (k + 1)) + 1 by omega, fnz, h]
  rfl
theorem finT_ret {Y : Int → St} {n : Nat} {g : Nat → Int} {k : Nat} (hk : k < n) (h : g k ≠ 0) : finT Y n g k = (.ret, Y (g k)) := by
  unfold finT
  rw [show n - k = (n - (k + 1)) + 1 by omega, fnz, show (g k != 0) = true by simpa using h]
theorem finT_end {Y : Int → St} {n : Nat} {g : Nat → Int} : finT Y n g n = (.exit 0, Y 0) := by
  unfold finT
  rw [Nat.sub_self]
  rfl
theorem rnd_ret {head : Nat → St} {fin : Nat → X × St} {k : Nat} {st : St} (h : (.ret, st) = fin k) : Rnd head fin k (.ret, st) := h
theorem cutF_dn {P : Program} {rec : Code → St → Tree (X × St)} {c : Code} {sB : St} {φ : X × St → Prop} {k : Nat} {q : X × St} (h : φ q) : CutF P rec c sB φ k (.inl q) := by cases k <;> exact h
structure Leads {α : Type} (p : α → Prop) (T : Tree α) : Prop where
  all : T.All p
theorem leads_in {α : Type} {p : α → Prop} {T0 T : Tree α} {S : Sk α} (e : T0 = T) (h1 : T = into T S) (h2 : fits T S = true) (h3 : SkLeads p S) : Leads p T0 := by
  subst e
  exact ⟨all_into h1 h2 h3.all⟩
end Go.Ev
