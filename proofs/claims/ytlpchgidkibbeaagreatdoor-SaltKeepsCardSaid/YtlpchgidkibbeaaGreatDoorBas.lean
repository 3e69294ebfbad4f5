/- Functions of the library that the evaluator takes by their contracts: strconv.Itoa, strings.Join. Conditions: none. -/
import Derived.Test.YtlpchgidkibbeaaGreatDoorEvRun
import Derived.Test.YtlpchgidkibbeaaGreatDoorJoin
import Derived.Below
import Derived.Lib.AppendIntMem
import Derived.Test.YtlpchgidkibbeaaGreatDoorLoops
namespace Go.Ev
open Go Go.RowKit
theorem stp_below {E : Env} {h : Hp} {w w' : World} (r : RH E h w) (b : Below w.heap.size w w') : Stp E h w E h w' :=
 Stp.forget (h' := { h with low := h.next }) r ⟨Env.le.refl E, b.os, b.tape, b.output, b.size, fun k hk _ => b.block k hk, fun _ _ hp => .inl hp, fun k o hk _ => (b.block k (Array.getElem?_eq_some_iff.1 hk).1).trans hk⟩ (Nat.le_refl _)
def SpecOk (P : Program) (f : FuncId) (s : Spec) : Prop := ∀ args h v h', (s args h).run = some (v, h') → ∀ (E : Env) (w : World) (vals : List Value), RH E h w → All2 (A.Is E) args vals →
 Calls P f vals.toArray w fun e w' => ∃ x E', e = .returned x ∧ v.Is E' x ∧ Stp E h w E' h' w'
theorem pure_calls {P : Program} {f : FuncId} {E : Env} {h : Hp} {w : World} {args : Array Value} {x : Value} {v : A} (r : RH E h w) (hx : v.Is E x)
  (hc : Calls P f args w fun e w' => e = .returned x ∧ Below w.heap.size w w') : Calls P f args w fun e w' => ∃ x E', e = .returned x ∧ v.Is E' x ∧ Stp E h w E' h w' :=
 hc.mono fun _ _ ⟨he, hb⟩ => ⟨x, E, he, hx, stp_below r hb⟩
def strs : List C → Option (List ByteArray)
 | [] => some []
 | .lit (.string s) :: cs => match strs cs with | some l => some (s :: l) | none => none
 | _ => none
def joinL (sep : List UInt8) : List ByteArray → List UInt8
 | [] => []
 | [x] => x.data.toList
 | x :: xs => x.data.toList ++ (sep ++ joinL sep xs)
theorem joinL_eq (sep : List UInt8) : ∀ l : List ByteArray, joinL sep l = Lib.join (l.map (·.data.toList)) sep
 | [] => rfl
 | [x] => by simp [joinL, Lib.join_one]
 | x :: y :: l => by
  have ih := joinL_eq sep (y :: l)
  simp only [joinL, List.map_cons, Lib.join_cons, Lib.joinTail, List.flatten_cons] at ih ⊢
  rw [ih]
  simp
theorem strs_is {E : Env} : ∀ {cs : List C} {l : List ByteArray} {vs : List Value}, strs cs = some l → All2 (C.Is E) cs vs → ∀ (j : Nat) (x : ByteArray), l[j]? = some x → vs[j]? = some (Value.string x)
 | [], l, vs, h, _ => by
  simp only [strs, Option.some.injEq] at h
  subst h
  intro j x hj
  simp at hj
 | c :: cs, l, [], _, ha => ha.elim
 | c :: cs, l, y :: vs, h, ha => by
  unfold strs at h
  split at h
  ·rename_i e; cases e
  ·rename_i s cs' e
   obtain ⟨rfl, rfl⟩ := List.cons.inj e
   split at h
   ·rename_i l' hl
    simp only [Option.some.injEq] at h
    subst h
    intro j x hj
    cases j with
    | zero =>
     simp only [List.getElem?_cons_zero, Option.some.injEq] at hj ⊢
     subst hj
     exact ha.1.1
    | succ j => exact strs_is hl ha.2 j x (by simpa using hj)
   ·cases h
  ·cases h
theorem strs_len : ∀ {cs : List C} {l : List ByteArray}, strs cs = some l → l.length = cs.length
 | [], l, h => by
  simp only [strs, Option.some.injEq] at h
  subst h
  rfl
 | c :: cs, l, h => by
  unfold strs at h
  split at h
  ·rename_i e; cases e
  ·rename_i s cs' e
   obtain ⟨rfl, rfl⟩ := List.cons.inj e
   split at h
   ·rename_i l' hl
    simp only [Option.some.injEq] at h
    subst h
    simp [strs_len hl]
   ·cases h
  ·cases h
def specJoin : Spec := fun args h => match args with
 | [.one (.sl _ id k m j n), .one (.lit (.string sep))] => match h.blk id with
  | some b => (b.readN k m j n).bind fun cs => match strs cs with
   | some l => .need (Nat.ble (joinL sep.data.toList l).length 140737488355328 && Nat.ble n 140737488355328) (.leaf (.one (.lit (.string ⟨(joinL sep.data.toList l).toArray⟩)), h))
   | none => .fail 203
  | none => .fail 203
 | [.one (.lit (.slice none 0 0)), .one (.lit (.string _))] => .leaf (.one (.lit (.string ⟨#[]⟩)), h)
 | _ => .fail 202
theorem specJoin_ok : SpecOk Go.Proofs.Tryz.prog 144 specJoin := by
 intro args h v h' hr E w vals rh hargs
 unfold specJoin at hr
 split at hr
 ·rename_i own id k m j n sep
  split at hr
  ·rename_i b hb
   obtain ⟨cs, hcs, hr⟩ := Tree.bind_some hr
   split at hr
   ·rename_i l hl
    obtain ⟨hn, hr⟩ := Tree.need_some hr
    simp only [Bool.and_eq_true] at hn
    have hn1 := Nat.le_of_ble_eq_true hn.1
    have hn2 := Nat.le_of_ble_eq_true hn.2
    simp only [Tree.run, Option.some.injEq, Prod.mk.injEq] at hr
    obtain ⟨rfl, rfl⟩ := hr
    match vals, hargs with
    | [y, z], ⟨.inr ⟨_, hn0, hy⟩, ⟨hz, _⟩, _⟩ =>
     subst hn0
     subst hy
     subst hz
     simp only [Blk.readN, Tree.run, Option.some.injEq] at hcs
     subst hcs
     simp only [strs, Option.some.injEq] at hl
     subst hl
     exact pure_calls rh ⟨rfl, rfl⟩ ((Go.Proofs.Tryz.join_none none 0 sep w).mono fun e w' ⟨he, hw⟩ => ⟨he, hw ▸ Below.refl _ _⟩)
    | [y, z], ⟨.inl ⟨bn, sz, o, cap, hE, hy, hnc, hcm, ho, _⟩, ⟨hz, _⟩, _⟩ =>
     subst hz
     subst hy
     obtain ⟨p, hp, hbi⟩ := rh.blk id b hb
     obtain rfl : p = (bn, sz) := Option.some.inj (hp.symm.trans hE)
     obtain ⟨vs, hvl, hall, hcell⟩ := readN_is hbi hcs
     have hlen : l.length = n := by rw [strs_len hl, hall.length, hvl]
     rw [joinL_eq] at hn1 ⊢
     have key := Go.Proofs.Tryz.join_walk bn o cap l sep w (fun i x hi => ?_) (rh.lt _ _ hE) (by omega) (by omega) hn1
     ·rw [hlen] at key
      exact pure_calls rh ⟨rfl, rfl⟩ key
     ·have h1 := strs_is hl hall i x hi
      have h2 := hcell i _ h1
      have hi' : i < l.length := (List.getElem?_eq_some_iff.1 hi).1
      have ho' := ho (by omega)
      rw [ho']
      rw [addr_add] at h2
      exact h2
   ·cases hr
  ·cases hr
 ·rename_i sep
  simp only [Tree.run, Option.some.injEq, Prod.mk.injEq] at hr
  obtain ⟨rfl, rfl⟩ := hr
  match vals, hargs with
  | [y, z], ⟨⟨hy, _⟩, ⟨hz, _⟩, _⟩ =>
   subst hy
   subst hz
   exact pure_calls rh ⟨rfl, rfl⟩ ((Go.Proofs.Tryz.join_none none 0 sep w).mono fun e w' ⟨he, hw⟩ => ⟨he, hw ▸ Below.refl _ _⟩)
 ·cases hr
def decW : Nat → Nat → List UInt8
 | 0, _ => []
 | k + 1, u => match Nat.blt u 10 with
  | true => [UInt8.ofNat (48 + u)]
  | false => decW k (u / 10) ++ [UInt8.ofNat (48 + u % 10)]
theorem decW_eq : ∀ (k u : Nat), u < 10 ^ k → 0 < k → decW k u = Lib.decDigits u
 | 0, u, _, h0 => by omega
 | k + 1, u, h, _ => by
  rw [Lib.decDigits]
  unfold decW
  by_cases hu : u < 10
  ·rw [dif_pos hu]
   have : Nat.blt u 10 = true := by simpa [Nat.blt_eq] using hu
   rw [this]
  ·rw [dif_neg hu]
   have : Nat.blt u 10 = false := by rw [← Bool.not_eq_true, Nat.blt_eq]; exact hu
   rw [this]
   have hk : 0 < k := by
    rcases Nat.eq_zero_or_pos k with rfl | hk
    ·simp at h; omega
    ·exact hk
   simp only
   rw [decW_eq k (u / 10) (by rw [Nat.pow_succ] at h; omega) hk]
def itoaW (n : Int) : List UInt8 := match n with
 | .ofNat u => decW 20 u
 | .negSucc u => 45 :: decW 20 (u + 1)
theorem itoaW_eq (n : Int) (h0 : -9223372036854775808 ≤ n) (h1 : n ≤ 9223372036854775807) : itoaW n = Lib.itoa n := by
 unfold itoaW Lib.itoa
 cases n with
 | ofNat u =>
  have hn : ¬ ((Int.ofNat u) < 0) := by simp
  rw [if_neg hn]
  simp only [Int.ofNat_eq_natCast] at h1 ⊢
  rw [decW_eq 20 u (by omega) (by omega)]
  rfl
 | negSucc u =>
  have hn : (Int.negSucc u) < 0 := Int.negSucc_lt_zero u
  rw [if_pos hn]
  simp only [Int.natAbs_negSucc]
  rw [decW_eq 20 (u + 1) (by omega) (by omega)]
def isTabC (k : IntKind) : List C → List Int → Bool
 | [], [] => true
 | .lit (.int k' a) :: cs, z :: zs => match decide (k = k') && decide (a = z) with
  | true => isTabC k cs zs
  | false => false
 | _, _ => false
theorem isTabC_is {k : IntKind} {E : Env} : ∀ {cs : List C} {zs : List Int} {vs : List Value}, isTabC k cs zs = true → All2 (C.Is E) cs vs → vs = zs.map fun z => Value.int k z
 | [], [], [], _, _ => rfl
 | [], [], _ :: _, _, ha => ha.elim
 | [], _ :: _, _, h, _ => by cases h
 | c :: cs, zs, [], _, ha => ha.elim
 | c :: cs, [], y :: vs, h, _ => by
  unfold isTabC at h
  split at h
  ·rename_i e _; cases e
  ·rename_i e; cases e
  ·cases h
 | c :: cs, z :: zs, y :: vs, h, ha => by
  unfold isTabC at h
  split at h
  ·rename_i e _; cases e
  ·rename_i k' a cs' z' zs' e1 e2
   obtain ⟨rfl, rfl⟩ := List.cons.inj e1
   obtain ⟨rfl, rfl⟩ := List.cons.inj e2
   split at h
   ·rename_i hc
    simp only [Bool.and_eq_true, decide_eq_true_eq] at hc
    obtain ⟨rfl, rfl⟩ := hc
    rw [isTabC_is h ha.2]
    obtain ⟨e, _⟩ := ha.1
    rw [e]
    rfl
   ·cases h
  ·cases h
theorem tab_is {P : Program} {E : Env} {h : Hp} {w : World} (r : RH E h w) {g id : Nat} {name : String} {k : IntKind} {zs : List Int} {b : Blk} {cs : List C} (hn : P.globalNamed name = some g) (hg : lookupN h.globs g = some id)
  (hb : h.blk id = some b) (hro : b.ro = true) (hbody : b.body = .flat cs) (ht : isTabC k cs zs = true) : Lib.TabIs P w name k zs := by
 obtain ⟨s, hE⟩ := r.glob g id hg
 obtain ⟨p, hp, arr, fz, ⟨ty, h1, _⟩, h2, h3, h4⟩ := r.cells hb (by rw [hbody]; rfl)
 obtain rfl : p = (g, s, 0) := Option.some.inj (hp.symm.trans hE)
 have h3 := h3.2
 have hsz : arr.size = cs.length := by
  unfold roIs at h4
  rw [hro] at h4
  exact h4 cs hbody
 rw [hbody] at h3
 have hall : All2 (C.Is E) cs arr.toList := All2.of_get (by simp [hsz]) fun i c hc => by
  obtain ⟨x, hx, hi⟩ := h3 i c hc
  exact ⟨x, by simpa [vw_zero] using hx, hi⟩
 have := isTabC_is ht hall
 unfold Lib.TabIs World.var?
 rw [hn]
 simp only [Option.bind_some, h1]
 rw [← this]
def specItoa : Spec := fun args h => match args with
 | [.one (.lit (.int .i64 n))] => match lookupN h.globs 2 with
  | some id => match h.blk id with
   | some b => match b.ro, b.body with
    | true, .flat cs => match isTabC .u64 cs Lib.pow10Tab with
     | true => .need (decide (-9223372036854775808 ≤ n) && decide (n ≤ 9223372036854775807)) (.leaf (.one (.lit (.string ⟨(itoaW n).toArray⟩)), h))
     | false => .fail 204
    | _, _ => .fail 204
   | none => .fail 204
  | none => .fail 204
 | _ => .fail 201
theorem specItoa_ok : SpecOk Go.Proofs.Tryz.prog 146 specItoa := by
 intro args h v h' hr E w vals rh hargs
 unfold specItoa at hr
 split at hr
 ·rename_i n
  split at hr
  ·rename_i id hg
   split at hr
   ·rename_i b hb
    split at hr
    ·rename_i cs hro hbody
     split at hr
     ·rename_i ht
      obtain ⟨hn, hr⟩ := Tree.need_some hr
      simp only [Bool.and_eq_true, decide_eq_true_eq] at hn
      simp only [Tree.run, Option.some.injEq, Prod.mk.injEq] at hr
      obtain ⟨rfl, rfl⟩ := hr
      match vals, hargs with
      | [y], ⟨⟨hy, _⟩, _⟩ =>
       subst hy
       have htab := tab_is (P := Go.Proofs.Tryz.prog) (name := "internal/strconv.uint64pow10") rh (by kernel_rfl) hg hb hro hbody ht
       rw [itoaW_eq n hn.1 hn.2]
       refine pure_calls rh ⟨rfl, rfl⟩ ((Go.Proofs.Tryz.strconv_Itoa n hn.1 hn.2 w htab).mono ?_)
       rintro e w' ⟨he, k, os, hw⟩
       exact ⟨he, by subst hw; exact Lib.below_grow _ w (Nat.le_refl _) k os⟩
     ·cases hr
    ·cases hr
   ·cases hr
  ·cases hr
 ·cases hr
def tabOf : List (FuncId × Spec) → FuncId → Option Spec
 | [], _ => none
 | (g, s) :: l, f => match Nat.beq g f with
  | true => some s
  | false => tabOf l f
theorem tabOf_ok {P : Program} : ∀ {l : List (FuncId × Spec)}, (∀ e ∈ l, SpecOk P e.1 e.2) → TabOk P (tabOf l)
 | [], _, f, s, h => by cases h
 | (g, s') :: l, hl, f, s, h => by
  unfold tabOf at h
  split at h
  ·rename_i e
   obtain rfl := Nat.eq_of_beq_eq_true e
   simp only [Option.some.injEq] at h
   subst h
   exact hl (g, s') (by simp)
  ·exact tabOf_ok (fun e he => hl e (by simp [he])) f s h
theorem all_noId {E E' : Env} : ∀ {xs : List A} {vs : List Value}, All2 (A.Is E) xs vs → xs.all A.noId = true → All2 (A.Is E') xs vs
 | [], [], _, _ => trivial
 | a :: xs, v :: vs, h, hn => by
  simp only [List.all_cons, Bool.and_eq_true] at hn
  exact ⟨h.1.noId hn.1, all_noId h.2 hn.2⟩
 | [], _ :: _, h, _ => h.elim
 | _ :: _, [], h, _ => h.elim
theorem rh_none (w : World) : RH (fun _ => none) hp0 w :=
 ⟨Nat.zero_le _, fun _ _ => rfl, fun _ _ h => (by cases h), fun id b hb => (by rw [show hp0.heap = Tr.nil from rfl, Tr.get_nil] at hb; cases hb), fun id _ b _ _ _ hb => (by rw [show hp0.heap = Tr.nil from rfl, Tr.get_nil] at hb; cases hb), fun g id h => (by cases h), fun _ _ h => (by cases h)⟩
end Go.Ev
namespace Go.Ev
open Go
theorem mixed : Go.Proofs.Tryz.prog.follows .mixedOrders = true := by kernel_rfl
theorem noOwn : NoOwn Go.Proofs.Tryz.prog := fun f fn h => by
 have key : (Go.Proofs.Tryz.prog.funcs.toList.all fun fn => !(fn.name == "runtime.NumGoroutine")) = true := by kernel_rfl
 have hm : fn ∈ Go.Proofs.Tryz.prog.funcs.toList := by
  rw [Array.mem_toList_iff]
  exact Array.mem_of_getElem? h
 have := List.all_eq_true.1 key fn hm
 simpa using this
def modes (_ : FuncId) : Bool × Bool := (false, false)
def modesA (_ : FuncId) : Bool × Bool := (true, true)
end Go.Ev
namespace Go.Ev
open Go Go.Proofs
def int (a : Int) : A := .one (.lit (.int .i64 a))
def boo (a : Bool) : A := .one (.lit (.bool a))
def ci (a : Int) : C := .lit (.int .i64 a)
def noTab : FuncId → Option Spec := fun _ => none
def recT (P : Program) (T : FuncId → Option Spec) : Code → St → Tree (X × St) := evCode P T modes 100
theorem recT_ok {T : FuncId → Option Spec} (hT : TabOk Tryz.prog T) : RecOk Tryz.prog (recT Tryz.prog T) := (code_ok hT noOwn mixed 100).1
theorem noTab_ok : TabOk Tryz.prog noTab := tab_none
theorem rec0 : RecOk Tryz.prog (recT Tryz.prog noTab) := recT_ok tab_none
def bodyOf (fn : Func) : Code := fn.body.getD .skip
def pathF (fn : Func) : List Bool := pathOf (bodyOf fn) 0
def loopF (fn : Func) : Code := nthLoop (bodyOf fn) (pathF fn)
def preT (P : Program) (T : FuncId → Option Spec) (fn : Func) (args : List A) (h : Hp) (slots : List Nat) : Tree ((Bool × A × Hp) ⊕ (List Bool × St)) := (evB (recT P T) (bodyOf fn) (st0 fn args h (false, false))).bind (cutO P fn h slots)
def postT (P : Program) (T : FuncId → Option Spec) (fn : Func) (x : X) (st : St) (h : Hp) (slots : List Nat) : Tree ((Bool × A × Hp) ⊕ (List Bool × St)) := (evR (recT P T) true (bodyOf fn) (pathF fn) x st).bind (cutO P fn h slots)
def roundF (P : Program) (T : FuncId → Option Spec) (fn : Func) (slots slotsX : List Nat) (st : St) : Tree (X × St) := roundT (recT P T) slots slotsX (loopF fn) st
def stE (size : Nat) (env : Tr A) : St := { size := size, env := env, hp := hp0 }
def envL : List (Nat × A) → Tr A
 | [] => .nil
 | (t, a) :: l => (envL l).set D t (some a)
def CutP (P : Program) (T : FuncId → Option Spec) (fn : Func) (h : Hp) (v : A) (h' : Hp) (k : Nat) (o : (Bool × A × Hp) ⊕ (List Bool × St)) : Prop := CutIs P (recT P T) fn (bodyOf fn) h v h' k o
theorem cut_done {P : Program} {T : FuncId → Option Spec} {fn : Func} {h : Hp} {v : A} {h' : Hp} {k : Nat} {b : Bool} : CutP P T fn h v h' k (.inl (b, v, h')) := by
 cases k <;> rfl
theorem cut_stop {P : Program} {T : FuncId → Option Spec} {fn : Func} {h : Hp} {v : A} {h' : Hp} {k : Nat} {st : St} (q : X × St) (slots : List Nat) (hs : SumAt P (loopF fn) st q) (hz : q.2.size = st.size) (hp : (postT P T fn q.1 q.2 h slots).All (CutP P T fn h v h' k)) :
  CutP P T fn h v h' (k + 1) (.inr (pathF fn, st)) := ⟨q, slots, true, hs, hz, hp⟩
theorem call_pre {T : FuncId → Option Spec} (hT : TabOk Tryz.prog T) {f : FuncId} {fn : Func} (hfn : Tryz.prog.funcs[f]? = some fn) (hc : fn.body = some (bodyOf fn)) {args : List A} {h : Hp} {v : A} {h' : Hp} (k : Nat) (slots : List Nat)
  (hsz : (Nat.ble args.length fn.ntmps && Nat.ble args.length lim) = true) (hall : (preT Tryz.prog T fn args h slots).All (CutP Tryz.prog T fn h v h' k)) : CallAt Tryz.prog f args h v h' :=
 call_cut (recT_ok hT) hfn hc hsz (false, false) k slots hall
theorem lift0 {P : Program} {f : FuncId} {args : List A} {v : A} (hc : CallAt P f args hp0 v hp0) (hv : v.noId = true) (ha : args.all A.noId = true) {E : Env} {h : Hp} {w : World} {vals : List Value} (rh : RH E h w) (hargs : All2 (A.Is E) args vals) :
  Calls P f vals.toArray w fun e w' => ∃ x E', e = .returned x ∧ v.Is E' x ∧ Stp E h w E' h w' := by
 refine (hc (fun _ => none) w vals (rh_none w) (all_noId hargs ha)).mono ?_
 rintro e w' ⟨x, E', he', hx, hst⟩
 exact ⟨x, E, he', hx.noId hv, stp_below rh ⟨hst.fr.os, hst.fr.tape, hst.fr.output, hst.fr.size, fun k hk => hst.fr.keep k hk fun _ _ hp _ => (by cases hp)⟩⟩
def Tree.goes {α : Type} (p : α → Bool) : Tree α → Bool
 | .leaf a => p a
 | .node b t e => match b with | true => t.goes p | false => e.goes p
 | .need b t => match b with | true => t.goes p | false => false
 | .amb l r => match l.goes p with | true => r.goes p | false => false
 | .fail _ => false
def preA (P : Program) (T : FuncId → Option Spec) (fn : Func) (args : List A) (h : Hp) (m : Bool × Bool) : Tree ((Bool × A × Hp) ⊕ (List Bool × St)) := (evA (recT P T) (bodyOf fn) (st0 fn args h m)).bind (cutO P fn h [])
def layL : Nat → List Blk → Tr Blk → Tr Blk
 | _, [], t => t
 | i, b :: bs, t => layL (i + 1) bs (t.set D i (some b))
theorem layL_get : ∀ {bs : List Blk} {i j : Nat} {t : Tr Blk}, i + bs.length ≤ lim → (layL i bs t).get D j = (match decide (i ≤ j) with | true => (match nth bs (j - i) with | some b => some b | none => t.get D j) | false => t.get D j)
 | [], i, j, t, _ => by
  simp only [layL, nth]
  split <;> rfl
 | b :: bs, i, j, t, h => by
  simp only [List.length_cons] at h
  rw [layL, layL_get (by omega), Tr.get_set_D _ _ _ _ (by omega)]
  by_cases h1 : i + 1 ≤ j
  ·have h2 : i ≤ j := by omega
   rw [decide_eq_true h1, decide_eq_true h2, show j - i = (j - (i + 1)) + 1 by omega]
   simp only [nth]
   rw [if_neg (by omega)]
  ·rw [decide_eq_false h1]
   by_cases h2 : i = j
   ·subst h2
    simp [nth]
   ·have h3 : ¬ i ≤ j := by omega
    rw [decide_eq_false h3, if_neg h2]
def hpL (bs : List Blk) (globs : List (Nat × Nat)) : Hp := { heap := layL 0 bs .nil, next := bs.length, low := bs.length, globs := globs }
theorem hpL_get {bs : List Blk} {globs : List (Nat × Nat)} (h : bs.length ≤ lim) (j : Nat) : (hpL bs globs).heap.get D j = nth bs j := by
 have := layL_get (bs := bs) (i := 0) (j := j) (t := .nil) (by omega)
 rw [decide_eq_true (Nat.zero_le _)] at this
 simp only [Nat.sub_zero] at this
 show (layL 0 bs .nil).get D j = _
 rw [this]
 split
 ·rename_i b hb; exact hb.symm
 ·rename_i hb; rw [hb, Tr.get_nil]
def Sub (b b1 : Blk) : Prop := b1.ro = b.ro ∧ (b.ro = false → b1.elem = b.elem) ∧ (∀ E E' arr, b.body.Is E arr → b1.body.Is E' arr) ∧ (b.ro = true → ∀ cs1, b1.body = .flat cs1 → ∃ cs, b.body = .flat cs ∧ cs.length = cs1.length) ∧ b.body.isMap = false
def subEnv (E : Env) (ids : List Nat) : Env := fun i => match nth ids i with | some id => E id | none => none
theorem rh_sub {E : Env} {h : Hp} {w : World} (rh : RH E h w) {ids : List Nat} {bs : List Blk} {globs : List (Nat × Nat)} (hlen : ids.length = bs.length) (hlim : bs.length ≤ lim) (hnd : ids.Nodup)
  (hbs : ∀ i id b1, nth ids i = some id → nth bs i = some b1 → ∃ b, h.blk id = some b ∧ Sub b b1) (hg : ∀ g i, lookupN globs g = some i → ∃ id, nth ids i = some id ∧ lookupN h.globs g = some id) :
  RH (subEnv E ids) (hpL bs globs) w where
 nlim := hlim
 dom := fun id hid => by
  have hid : bs.length ≤ id := hid
  unfold subEnv
  rw [nth_eq, List.getElem?_eq_none (by omega)]
 lt := fun id p hp => by
  unfold subEnv at hp
  split at hp
  ·exact rh.lt _ _ hp
  ·cases hp
 blk := fun i b1 hb => by
  rw [hpL_get hlim] at hb
  have hi : i < ids.length := by rw [hlen]; rw [nth_eq] at hb; exact (List.getElem?_eq_some_iff.1 hb).1
  have hid : nth ids i = some ids[i] := by rw [nth_eq]; exact List.getElem?_eq_getElem hi
  obtain ⟨b, hbb, s1, s2, s3, s4, s5⟩ := hbs i _ b1 hid hb
  obtain ⟨p, hp, arr, fz, ⟨ty, h1, ht⟩, h2, h3, h4⟩ := rh.cells hbb s5
  refine ⟨p, by unfold subEnv; rw [hid]; exact hp, .inl ⟨arr, fz, ⟨ty, h1, fun hf => (ht (by rw [← s1]; exact hf)).trans (s2 (by rw [← s1]; exact hf)).symm⟩, h2, ⟨fun hf => h3.1 (by rw [← s1]; exact hf), s3 _ _ _ h3.2⟩, ?_⟩⟩
  unfold roIs at h4 ⊢
  rw [s1]
  cases hro : b.ro with
  | false => rw [hro] at h4; exact h4
  | true =>
   rw [hro] at h4
   intro cs1 hcs1
   obtain ⟨cs, e1, e2⟩ := s4 hro cs1 hcs1
   rw [h4 cs e1, e2]
 inj := fun i i' b1 b1' p p' hb hb' hro hp hp' he => by
  rw [hpL_get hlim] at hb hb'
  have hi : i < ids.length := by rw [hlen]; rw [nth_eq] at hb; exact (List.getElem?_eq_some_iff.1 hb).1
  have hi' : i' < ids.length := by rw [hlen]; rw [nth_eq] at hb'; exact (List.getElem?_eq_some_iff.1 hb').1
  have hid : nth ids i = some ids[i] := by rw [nth_eq]; exact List.getElem?_eq_getElem hi
  have hid' : nth ids i' = some ids[i'] := by rw [nth_eq]; exact List.getElem?_eq_getElem hi'
  obtain ⟨b, hbb, s1, _⟩ := hbs i _ b1 hid hb
  obtain ⟨b', hbb', s1', _⟩ := hbs i' _ b1' hid' hb'
  unfold subEnv at hp hp'
  rw [hid] at hp
  rw [hid'] at hp'
  have := rh.inj _ _ b b' p p' hbb hbb' (by rw [← s1]; exact hro) hp hp' he
  rcases Nat.lt_trichotomy i i' with hlt | e | hlt
  ·exact absurd this (List.pairwise_iff_getElem.1 hnd i i' hi hi' hlt)
  ·exact e
  ·exact absurd this.symm (List.pairwise_iff_getElem.1 hnd i' i hi' hi hlt)
 glob := fun g i hgi => by
  obtain ⟨id, h1, h2⟩ := hg g i hgi
  obtain ⟨s, hs⟩ := rh.glob g id h2
  exact ⟨s, by unfold subEnv; rw [h1]; exact hs⟩
 lp := fun _ _ e => by cases e
theorem lift_sub {P : Program} {f : FuncId} {args1 : List A} {v : A} {bs : List Blk} {globs : List (Nat × Nat)} (hc : CallAt P f args1 (hpL bs globs) v (hpL bs globs)) (hv : v.noId = true) {E : Env} {h : Hp} {w : World} (rh : RH E h w) {ids : List Nat} (hlen : ids.length = bs.length) (hlim : bs.length ≤ lim) (hnd : ids.Nodup)
  (hbs : ∀ i id b1, nth ids i = some id → nth bs i = some b1 → ∃ b, h.blk id = some b ∧ Sub b b1) (hg : ∀ g i, lookupN globs g = some i → ∃ id, nth ids i = some id ∧ lookupN h.globs g = some id)
  {vals : List Value} (hargs : All2 (A.Is (subEnv E ids)) args1 vals) : Calls P f vals.toArray w fun e w' => ∃ x E', e = .returned x ∧ v.Is E' x ∧ Stp E h w E' h w' := by
 refine (hc _ w vals (rh_sub rh hlen hlim hnd hbs hg) hargs).mono ?_
 rintro e w' ⟨x, E', he', hx, hst⟩
 refine ⟨x, E, he', hx.noId hv, stp_below rh ⟨hst.fr.os, hst.fr.tape, hst.fr.output, hst.fr.size, fun k hk => hst.fr.keep k hk fun id p hp _ => ?_⟩⟩
 have : (hpL bs globs).low = bs.length := rfl
 unfold subEnv at hp
 split at hp
 ·rename_i id' hid
  rw [nth_eq] at hid
  have := (List.getElem?_eq_some_iff.1 hid).1
  omega
 ·cases hp
theorem call_ev {T : FuncId → Option Spec} (hT : TabOk Tryz.prog T) {f : FuncId} {args : List A} {v : A} {h h' : Hp} (hr : (evFun Tryz.prog T modes 100 f args h).run = some (v, h')) (hf : f < yieldBase := by decide) : CallAt Tryz.prog f args h v h' :=
 fun E w vals rh ha => (fun_ok hT noOwn mixed 100 f args h v h' hr E w vals rh ha).1 hf
end Go.Ev
