/- Helps for laws with lists: a function's whole code by a sketch, the memory at which such a law begins, what a step leaves. Conditions: as each says. -/
import Derived.Test.YtlpchgidkibbeaaGreatDoorScan
import Derived.Test.YtlpchgidkibbeaaGreatDoorLaw0
import Derived.Test.YtlpchgidkibbeaaGreatDoorRfs
namespace Go.Ev
open Go Go.Proofs
set_option maxRecDepth 100000
theorem call_sk {T : FuncId → Option Spec} (hT : TabOk Tryz.prog T) {f : FuncId} {fn : Func} (hfn : Tryz.prog.funcs[f]? = some fn) (hc : fn.body = some (bodyOf fn)) {args : List A} {h : Hp} (m : Bool × Bool) {v : A} {h' : Hp}
  (hsz : (Nat.ble args.length fn.ntmps && Nat.ble args.length lim) = true) {S : Sk ((Bool × A × Hp) ⊕ (List Bool × St))} (h1 : preA Tryz.prog T fn args h m = into (preA Tryz.prog T fn args h m) S) (h2 : fits (preA Tryz.prog T fn args h m) S = true)
  (h3 : S.All fun o => match o with | .inl r => r.2 = (v, h') | .inr _ => False) : CallAt Tryz.prog f args h v h' := by
 refine call_all (recT_ok hT) hfn hc hsz m (Tree.All_mono (fun o ho => ?_) (all_into h1 h2 h3))
 cases o with
 | inl r => exact ho
 | inr x => exact ho.elim
def glS : List (Nat × List C) := [(0, actsL), (2, Lib.pow10Tab.map fun n => .lit (.int .u64 n))]
def hpL1 (n : Nat) (cols : List Col) : Hp := hpT [⟨some 0, n, cols⟩] glS []
abbrev SkL := Sk ((Bool × A × Hp) ⊕ (List Bool × St))
def okN (n : Nat) : Bool := (Nat.ble n n && true) && true
theorem okN_ok (n : Nat) : okN n = true := by unfold okN; rw [ble_self]; rfl
end Go.Ev
namespace Go.Ev
open Go Go.Proofs
set_option maxRecDepth 100000
theorem prev_facts {k n : Nat} (h0 : decide ((k : Int) > 0) = true) (hk : k < n) (hn : n ≤ 1000000) : IntKind.i64.wrap ((k : Int) - 1) = ((k - 1 : Nat) : Int) ∧ 0 < k := by
 simp only [decide_eq_true_eq] at h0
 refine ⟨?_, by omega⟩
 rw [wrap_id (by omega) (by omega)]
 omega
def finT (Y : Int → St) (n : Nat) (g : Nat → Int) (k : Nat) : X × St := match fnz g (n - k) k with
 | some e => (.ret, Y e)
 | none => (.exit 0, Y 0)
theorem finT_next {Y : Int → St} {n : Nat} {g : Nat → Int} {k : Nat} (hk : k < n) (h : g k = 0) : finT Y n g (k + 1) = finT Y n g k := by
 unfold finT
 rw [show n - k = (n - (k + 1)) + 1 by omega, fnz, h]
 rfl
theorem finT_ret {Y : Int → St} {n : Nat} {g : Nat → Int} {k : Nat} (hk : k < n) (h : g k ≠ 0) : finT Y n g k = (.ret, Y (g k)) := by
 unfold finT
 rw [show n - k = (n - (k + 1)) + 1 by omega, fnz, show (g k != 0) = true by simpa using h]
theorem finT_end {Y : Int → St} {n : Nat} {g : Nat → Int} : finT Y n g n = (.exit 0, Y 0) := by
 unfold finT
 rw [Nat.sub_self]
 rfl
theorem rnd_ret {head : Nat → St} {fin : Nat → X × St} {k : Nat} {st : St} (h : (.ret, st) = fin k) : Rnd head fin k (.ret, st) := h
theorem cutF_dn {P : Program} {rec : Code → St → Tree (X × St)} {c : Code} {sB : St} {φ : X × St → Prop} {k : Nat} {q : X × St} (h : φ q) : CutF P rec c sB φ k (.inl q) := by cases k <;> exact h
structure Leads {α : Type} (p : α → Prop) (T : Tree α) : Prop where
 all : T.All p
theorem leads_in {α : Type} {p : α → Prop} {T0 T : Tree α} {S : Sk α} (e : T0 = T) (h1 : T = into T S) (h2 : fits T S = true) (h3 : SkLeads p S) : Leads p T0 := by
 subst e
 exact ⟨all_into h1 h2 h3.all⟩
end Go.Ev
