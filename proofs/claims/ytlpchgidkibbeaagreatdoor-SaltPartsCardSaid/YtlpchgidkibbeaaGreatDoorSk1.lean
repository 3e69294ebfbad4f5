/- Helps for laws with lists: a function's whole code by a sketch, the memory at which such a law begins, what a step leaves. Conditions: as each says. -/
import Derived.Test.YtlpchgidkibbeaaGreatDoorScan
import Derived.Test.YtlpchgidkibbeaaGreatDoorLaw0
import Derived.Test.YtlpchgidkibbeaaGreatDoorLaw2
namespace Go.Ev
open Go Go.Proofs
set_option maxRecDepth 100000

/-- a function's whole code, by a sketch -/
theorem call_sk {T : FuncId → Option Spec} (hT : TabOk Tryz.prog T) {f : FuncId} {fn : Func} (hfn : Tryz.prog.funcs[f]? = some fn) (hc : fn.body = some (bodyOf fn)) {args : List A} {h : Hp} (m : Bool × Bool) {v : A} {h' : Hp}
    (hsz : (Nat.ble args.length fn.ntmps && Nat.ble args.length lim) = true) {S : Sk ((Bool × A × Hp) ⊕ (List Bool × St))} (h1 : preA Tryz.prog T fn args h m = into (preA Tryz.prog T fn args h m) S) (h2 : fits (preA Tryz.prog T fn args h m) S = true)
    (h3 : S.All fun o => match o with | .inl r => r.2 = (v, h') | .inr _ => False) : CallAt Tryz.prog f args h v h' := by
  refine call_all (recT_ok hT) hfn hc hsz m (Tree.All_mono (fun o ho => ?_) (all_into h1 h2 h3))
  cases o with
  | inl r => exact ho
  | inr x => exact ho.elim
def glS : List (Nat × List C) := [(0, actsL), (2, Lib.pow10Tab.map fun n => .lit (.int .u64 n))]
/-- the memory of a law with one table -/
def hpL1 (n : Nat) (cols : List Col) : Hp := hpT [⟨some 0, n, cols⟩] glS []
abbrev SkL := Sk ((Bool × A × Hp) ⊕ (List Bool × St))
def lfT (H : Hp) (b : Bool) : SkL := .leaf (.inl (true, boo b, H))
def okN (n : Nat) : Bool := (Nat.ble n n && true) && true
def one2 (r0 r1 r2 r3 r4 r5 : Int) (s : ByteArray) (heat : Int) : Int := firstZ [qrulesErr r0 r1 r2 r3 r4 r5, qrecvErr s heat]
def isTrueL (H : Hp) (o : (Bool × A × Hp) ⊕ (List Bool × St)) : Prop := match o with | .inl r => r.2 = (boo true, H) | .inr _ => False
theorem okN_ok (n : Nat) : okN n = true := by unfold okN; rw [ble_self]; rfl
end Go.Ev
