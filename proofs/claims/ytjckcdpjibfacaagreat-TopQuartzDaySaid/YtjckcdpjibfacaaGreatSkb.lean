/- Helps for functions on lists at this program: states, whole functions by sketches, loops that end at the first error. Conditions: as each says. -/
import Derived.Test.YtjckcdpjibfacaaGreatVec4
import Derived.Test.YtjckcdpjibfacaaGreatRng
namespace Go.Ev
open Go Go.Proofs
set_option maxRecDepth 100000
def slT (j m n : Nat) : A := .one (.sl false j 0 m 0 n)
def slO (j m n : Nat) : A := .one (.sl true j 0 m 0 n)
def slC (own : Bool) (id m n : Nat) : C := .sl own id 0 m 0 n
def nilC : C := .lit (.slice none 0 0)
def cs (s : ByteArray) : C := .lit (.string s)
def str (s : ByteArray) : A := .one (.lit (.string s))
def pt (id : Nat) : A := .one (.ptr id 0 1 0)
def baseB (size : Nat) (args : List A) (h : Hp) : St := { size := size, env := initEnv 0 args .nil, hp := { h with low := h.next } }
abbrev SkL := Sk ((Bool × A × Hp) ⊕ (List Bool × St))
abbrev SkX := Sk (X × St)
abbrev SkO := Sk ((X × St) ⊕ (List Bool × St))
theorem call_sk {T : FuncId → Option Spec} (hT : TabOk Tryz.prog T) {f : FuncId} {fn : Func} (hfn : Tryz.prog.funcs[f]? = some fn) (hc : fn.body = some (bodyOf fn)) {args : List A} {h : Hp} (m : Bool × Bool) {v : A} {h' : Hp}
  (hsz : (Nat.ble args.length fn.ntmps && Nat.ble args.length lim) = true) {S : SkL} (h1 : preA Tryz.prog T fn args h m = into (preA Tryz.prog T fn args h m) S) (h2 : fits (preA Tryz.prog T fn args h m) S = true)
  (h3 : S.All fun o => match o with | .inl r => r.2 = (v, h') | .inr _ => False) : CallAt Tryz.prog f args h v h' := by
 refine call_all (recT_ok hT) hfn hc hsz m (Tree.All_mono (fun o ho => ?_) (all_into h1 h2 h3))
 cases o with
 | inl r => exact ho
 | inr x => exact ho.elim
def okN (n : Nat) : Bool := (Nat.ble n n && true) && true
theorem okN_ok (n : Nat) : okN n = true := by unfold okN; rw [ble_self]; rfl
theorem bne_eq {a : Int} {b : Bool} (h : (a == 0) = b) : (a != 0) = !b := by rw [bne, h]
theorem prev_facts {k n : Nat} (h0 : decide ((k : Int) > 0) = true) (hk : k < n) (hn : n ≤ 1000000) : IntKind.i64.wrap ((k : Int) - 1) = ((k - 1 : Nat) : Int) ∧ 0 < k := by
 simp only [decide_eq_true_eq] at h0
 refine ⟨?_, by omega⟩
 rw [wrap_id (by omega) (by omega)]
 omega
def finT (Y : Int → St) (n : Nat) (g : Nat → Int) (k : Nat) : X × St := match fnz g (n - k) k with
 | some e => (.ret, Y e)
 | none => (.exit 0, Y 0)
theorem finT_next {Y : Int → St} {n : Nat} {g : Nat → Int} {k : Nat} (hk : k < n) (h : g k = 0) : finT Y n g (k + 1) = finT Y n g k := by
 unfold finT
 rw [show n - k = (n - (k + 1)) + 1 by omega, fnz, h]
 rfl
theorem finT_ret {Y : Int → St} {n : Nat} {g : Nat → Int} {k : Nat} (hk : k < n) (h : g k ≠ 0) : finT Y n g k = (.ret, Y (g k)) := by
 unfold finT
 rw [show n - k = (n - (k + 1)) + 1 by omega, fnz, show (g k != 0) = true by simpa using h]
theorem finT_end {Y : Int → St} {n : Nat} {g : Nat → Int} : finT Y n g n = (.exit 0, Y 0) := by
 unfold finT
 rw [Nat.sub_self]
 rfl
theorem rnd_ret {head : Nat → St} {fin : Nat → X × St} {k : Nat} {st : St} (h : (.ret, st) = fin k) : Rnd head fin k (.ret, st) := h
theorem cutF_dn {P : Program} {rec : Code → St → Tree (X × St)} {c : Code} {sB : St} {φ : X × St → Prop} {k : Nat} {q : X × St} (h : φ q) : CutF P rec c sB φ k (.inl q) := by cases k <;> exact h
structure Leads {α : Type} (p : α → Prop) (T : Tree α) : Prop where
 all : T.All p
theorem leads_in {α : Type} {p : α → Prop} {T0 T : Tree α} {S : Sk α} (e : T0 = T) (h1 : T = into T S) (h2 : fits T S = true) (h3 : SkLeads p S) : Leads p T0 := by
 subst e
 exact ⟨all_into h1 h2 h3.all⟩
theorem call_baseS {P : Program} {rec : Code → St → Tree (X × St)} (hrec : RecOk P rec) {f : FuncId} {fn : Func} {c : Code} (hfn : P.funcs[f]? = some fn) (hc : fn.body = some c) {args : List A} (hsz : (Nat.ble args.length fn.ntmps && Nat.ble args.length lim) = true) {h : Hp} (m : Bool × Bool) {v : A} {h' : Hp} (k : Nat) (slots slotsR : List Nat)
  {sB : St} (hsB : sB = st0 fn args h m) {t : Tree ((X × St) ⊕ (List Bool × St))} (hpre : evO rec c slots slotsR sB = t) {S : SkO} (h1 : t = into t S) (h2 : fits t S = true) (h3 : SkLeads (CutF P rec c sB (Left2 P fn h v h') k) S) : CallAt P f args h v h' :=
 call_base hrec hfn hc hsz m k slots slotsR hsB hpre (all_into h1 h2 h3.all)
theorem sk_stop {P : Program} {rec : Code → St → Tree (X × St)} {c : Code} {sB : St} {φ : X × St → Prop} {k : Nat} {p : List Bool} {S : St} (ψ : X × St → Prop) (cut : Bool) (slots slotsR : List Nat) (hl : ComesF P (.loop (nthLoop c p)) sB S ψ) (hr : ∀ q, ψ q → Leads (CutF P rec c sB φ k) (evO2 rec cut c p slots slotsR sB q)) : SkLeads (CutF P rec c sB φ (k + 1)) (.leaf (.inr (p, S))) :=
 ⟨⟨ψ, cut, slots, slotsR, hl, fun q hq => (hr q hq).all⟩⟩
theorem sk_done {P : Program} {rec : Code → St → Tree (X × St)} {c : Code} {sB : St} {φ : X × St → Prop} {k : Nat} {q : X × St} (h : φ q) : SkLeads (CutF P rec c sB φ k) (.leaf (.inl q)) := ⟨cutF_dn h⟩
theorem call_baseRS {P : Program} {rec : Code → St → Tree (X × St)} (hrec : RecOk P rec) {f : FuncId} {fn : Func} {c : Code} (hfn : P.funcs[f]? = some fn) (hc : fn.body = some c) {args : List A} (hsz : (Nat.ble args.length fn.ntmps && Nat.ble args.length lim) = true) {h : Hp} (m : Bool × Bool) {v : A} {h' : Hp} (k : Nat) (slots slotsR : List Nat)
  {sB : St} (hsB : sB = st0 fn args h m) {t : Tree ((X × St) ⊕ (List Bool × St))} (hpre : evOr rec c slots slotsR sB = t) {S : SkO} (h1 : t = into t S) (h2 : fits t S = true) (h3 : SkLeads (CutR P rec c sB (Left2 P fn h v h') k) S) : CallAt P f args h v h' :=
 call_baseR hrec hfn hc hsz m k slots slotsR hsB hpre (all_into h1 h2 h3.all)
theorem sk_stopR {P : Program} {rec : Code → St → Tree (X × St)} {c : Code} {sB : St} {φ : X × St → Prop} {k : Nat} {p : List Bool} {S : St} (ψ : X × St → Prop) (cut : Bool) (slots slotsR : List Nat) (hl : ComesF P (nthRng c p) sB S ψ) (hr : ∀ q, ψ q → Leads (CutR P rec c sB φ k) (evOr2 rec cut c p slots slotsR sB q)) : SkLeads (CutR P rec c sB φ (k + 1)) (.leaf (.inr (p, S))) :=
 ⟨⟨ψ, cut, slots, slotsR, hl, fun q hq => (hr q hq).all⟩⟩
theorem leads_leaf {α : Type} {p : α → Prop} {T0 T : Tree α} {a : α} (e : T0 = T) (h : T = .leaf a) (hp : p a) : Leads p T0 := by
 subst e; subst h
 exact ⟨hp⟩
end Go.Ev
