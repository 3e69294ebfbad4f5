/- Functions of the library that the evaluator takes by their contracts: light.IsName, strconv.Itoa, strings.Join. Conditions: none. -/
import Derived.Test.YtkalcencblhlgaaGreatDoorEvRun
import Derived.Test.YtkalcencblhlgaaGreatDoorName
import Derived.Test.YtkalcencblhlgaaGreatDoorJoin
import Derived.Below
import Derived.Lib.AppendIntMem
namespace Go.Ev
open Go Go.RowKit
theorem stp_below {E : Env} {h : Hp} {w w' : World} (r : RH E h w) (b : Below w.heap.size w w') : Stp E h w E h w' :=
 Stp.forget (h' := { h with low := h.next }) r ⟨Env.le.refl E, b.os, b.tape, b.output, b.size, fun k hk _ => b.block k hk, fun _ _ hp => .inl hp, fun k o hk _ => (b.block k (Array.getElem?_eq_some_iff.1 hk).1).trans hk⟩ (Nat.le_refl _)
def SpecOk (P : Program) (f : FuncId) (s : Spec) : Prop := ∀ args h v h', (s args h).run = some (v, h') → ∀ (E : Env) (w : World) (vals : List Value), RH E h w → All2 (A.Is E) args vals →
 Calls P f vals.toArray w fun e w' => ∃ x E', e = .returned x ∧ v.Is E' x ∧ Stp E h w E' h' w'
theorem pure_calls {P : Program} {f : FuncId} {E : Env} {h : Hp} {w : World} {args : Array Value} {x : Value} {v : A} (r : RH E h w) (hx : v.Is E x)
  (hc : Calls P f args w fun e w' => e = .returned x ∧ Below w.heap.size w w') : Calls P f args w fun e w' => ∃ x E', e = .returned x ∧ v.Is E' x ∧ Stp E h w E' h w' :=
 hc.mono fun _ _ ⟨he, hb⟩ => ⟨x, E, he, hx, stp_below r hb⟩
def specName : Spec := fun args h => match args with
 | [.one (.lit (.string s))] => .leaf (.one (.lit (.bool (Go.Proofs.Tryz.isNameW s))), h)
 | _ => .fail 200
theorem specName_ok : SpecOk Go.Proofs.Tryz.prog 105 specName := by
 intro args h v h' hr E w vals rh hargs
 unfold specName at hr
 split at hr
 ·rename_i s
  simp only [Tree.run, Option.some.injEq, Prod.mk.injEq] at hr
  obtain ⟨rfl, rfl⟩ := hr
  match vals, hargs with
  | [y], ⟨⟨hy, _⟩, _⟩ =>
   subst hy
   exact pure_calls rh ⟨rfl, rfl⟩ (Go.Proofs.Tryz.isName_walk s w)
 ·cases hr
def strs : List C → Option (List ByteArray)
 | [] => some []
 | .lit (.string s) :: cs => match strs cs with | some l => some (s :: l) | none => none
 | _ => none
def joinL (sep : List UInt8) : List ByteArray → List UInt8
 | [] => []
 | [x] => x.data.toList
 | x :: xs => x.data.toList ++ (sep ++ joinL sep xs)
theorem joinL_eq (sep : List UInt8) : ∀ l : List ByteArray, joinL sep l = Lib.join (l.map (·.data.toList)) sep
 | [] => rfl
 | [x] => by simp [joinL, Lib.join_one]
 | x :: y :: l => by
  have ih := joinL_eq sep (y :: l)
  simp only [joinL, List.map_cons, Lib.join_cons, Lib.joinTail, List.flatten_cons] at ih ⊢
  rw [ih]
  simp
theorem strs_is {E : Env} : ∀ {cs : List C} {l : List ByteArray} {vs : List Value}, strs cs = some l → All2 (C.Is E) cs vs → ∀ (j : Nat) (x : ByteArray), l[j]? = some x → vs[j]? = some (Value.string x)
 | [], l, vs, h, _ => by
  simp only [strs, Option.some.injEq] at h
  subst h
  intro j x hj
  simp at hj
 | c :: cs, l, [], _, ha => ha.elim
 | c :: cs, l, y :: vs, h, ha => by
  unfold strs at h
  split at h
  ·rename_i e; cases e
  ·rename_i s cs' e
   obtain ⟨rfl, rfl⟩ := List.cons.inj e
   split at h
   ·rename_i l' hl
    simp only [Option.some.injEq] at h
    subst h
    intro j x hj
    cases j with
    | zero =>
     simp only [List.getElem?_cons_zero, Option.some.injEq] at hj ⊢
     subst hj
     exact ha.1.1
    | succ j => exact strs_is hl ha.2 j x (by simpa using hj)
   ·cases h
  ·cases h
theorem strs_len : ∀ {cs : List C} {l : List ByteArray}, strs cs = some l → l.length = cs.length
 | [], l, h => by
  simp only [strs, Option.some.injEq] at h
  subst h
  rfl
 | c :: cs, l, h => by
  unfold strs at h
  split at h
  ·rename_i e; cases e
  ·rename_i s cs' e
   obtain ⟨rfl, rfl⟩ := List.cons.inj e
   split at h
   ·rename_i l' hl
    simp only [Option.some.injEq] at h
    subst h
    simp [strs_len hl]
   ·cases h
  ·cases h
def specJoin : Spec := fun args h => match args with
 | [.one (.sl _ id k m j n), .one (.lit (.string sep))] => match h.blk id with
  | some b => (b.readN k m j n).bind fun cs => match strs cs with
   | some l => .need (Nat.ble (joinL sep.data.toList l).length 140737488355328 && Nat.ble n 140737488355328) (.leaf (.one (.lit (.string ⟨(joinL sep.data.toList l).toArray⟩)), h))
   | none => .fail 203
  | none => .fail 203
 | [.one (.lit (.slice none 0 0)), .one (.lit (.string _))] => .leaf (.one (.lit (.string ⟨#[]⟩)), h)
 | _ => .fail 202
theorem specJoin_ok : SpecOk Go.Proofs.Tryz.prog 67 specJoin := by
 intro args h v h' hr E w vals rh hargs
 unfold specJoin at hr
 split at hr
 ·rename_i own id k m j n sep
  split at hr
  ·rename_i b hb
   obtain ⟨cs, hcs, hr⟩ := Tree.bind_some hr
   split at hr
   ·rename_i l hl
    obtain ⟨hn, hr⟩ := Tree.need_some hr
    simp only [Bool.and_eq_true] at hn
    have hn1 := Nat.le_of_ble_eq_true hn.1
    have hn2 := Nat.le_of_ble_eq_true hn.2
    simp only [Tree.run, Option.some.injEq, Prod.mk.injEq] at hr
    obtain ⟨rfl, rfl⟩ := hr
    match vals, hargs with
    | [y, z], ⟨.inr ⟨_, hn0, hy⟩, ⟨hz, _⟩, _⟩ =>
     subst hn0
     subst hy
     subst hz
     simp only [Blk.readN, Tree.run, Option.some.injEq] at hcs
     subst hcs
     simp only [strs, Option.some.injEq] at hl
     subst hl
     exact pure_calls rh ⟨rfl, rfl⟩ ((Go.Proofs.Tryz.join_none none 0 sep w).mono fun e w' ⟨he, hw⟩ => ⟨he, hw ▸ Below.refl _ _⟩)
    | [y, z], ⟨.inl ⟨bn, sz, o, cap, hE, hy, hnc, hcm, ho, _⟩, ⟨hz, _⟩, _⟩ =>
     subst hz
     subst hy
     obtain ⟨p, hp, hbi⟩ := rh.blk id b hb
     obtain rfl : p = (bn, sz) := Option.some.inj (hp.symm.trans hE)
     obtain ⟨vs, hvl, hall, hcell⟩ := readN_is hbi hcs
     have hlen : l.length = n := by rw [strs_len hl, hall.length, hvl]
     rw [joinL_eq] at hn1 ⊢
     have key := Go.Proofs.Tryz.join_walk bn o cap l sep w (fun i x hi => ?_) (rh.lt _ _ hE) (by omega) (by omega) hn1
     ·rw [hlen] at key
      exact pure_calls rh ⟨rfl, rfl⟩ key
     ·have h1 := strs_is hl hall i x hi
      have h2 := hcell i _ h1
      have hi' : i < l.length := (List.getElem?_eq_some_iff.1 hi).1
      have ho' := ho (by omega)
      rw [ho']
      rw [addr_add] at h2
      exact h2
   ·cases hr
  ·cases hr
 ·rename_i sep
  simp only [Tree.run, Option.some.injEq, Prod.mk.injEq] at hr
  obtain ⟨rfl, rfl⟩ := hr
  match vals, hargs with
  | [y, z], ⟨⟨hy, _⟩, ⟨hz, _⟩, _⟩ =>
   subst hy
   subst hz
   exact pure_calls rh ⟨rfl, rfl⟩ ((Go.Proofs.Tryz.join_none none 0 sep w).mono fun e w' ⟨he, hw⟩ => ⟨he, hw ▸ Below.refl _ _⟩)
 ·cases hr
def decW : Nat → Nat → List UInt8
 | 0, _ => []
 | k + 1, u => match Nat.blt u 10 with
  | true => [UInt8.ofNat (48 + u)]
  | false => decW k (u / 10) ++ [UInt8.ofNat (48 + u % 10)]
theorem decW_eq : ∀ (k u : Nat), u < 10 ^ k → 0 < k → decW k u = Lib.decDigits u
 | 0, u, _, h0 => by omega
 | k + 1, u, h, _ => by
  rw [Lib.decDigits]
  unfold decW
  by_cases hu : u < 10
  ·rw [dif_pos hu]
   have : Nat.blt u 10 = true := by simpa [Nat.blt_eq] using hu
   rw [this]
  ·rw [dif_neg hu]
   have : Nat.blt u 10 = false := by rw [← Bool.not_eq_true, Nat.blt_eq]; exact hu
   rw [this]
   have hk : 0 < k := by
    rcases Nat.eq_zero_or_pos k with rfl | hk
    ·simp at h; omega
    ·exact hk
   simp only
   rw [decW_eq k (u / 10) (by rw [Nat.pow_succ] at h; omega) hk]
def itoaW (n : Int) : List UInt8 := match n with
 | .ofNat u => decW 20 u
 | .negSucc u => 45 :: decW 20 (u + 1)
theorem itoaW_eq (n : Int) (h0 : -9223372036854775808 ≤ n) (h1 : n ≤ 9223372036854775807) : itoaW n = Lib.itoa n := by
 unfold itoaW Lib.itoa
 cases n with
 | ofNat u =>
  have hn : ¬ ((Int.ofNat u) < 0) := by simp
  rw [if_neg hn]
  simp only [Int.ofNat_eq_natCast] at h1 ⊢
  rw [decW_eq 20 u (by omega) (by omega)]
  rfl
 | negSucc u =>
  have hn : (Int.negSucc u) < 0 := Int.negSucc_lt_zero u
  rw [if_pos hn]
  simp only [Int.natAbs_negSucc]
  rw [decW_eq 20 (u + 1) (by omega) (by omega)]
def isTabC (k : IntKind) : List C → List Int → Bool
 | [], [] => true
 | .lit (.int k' a) :: cs, z :: zs => match decide (k = k') && decide (a = z) with
  | true => isTabC k cs zs
  | false => false
 | _, _ => false
theorem isTabC_is {k : IntKind} {E : Env} : ∀ {cs : List C} {zs : List Int} {vs : List Value}, isTabC k cs zs = true → All2 (C.Is E) cs vs → vs = zs.map fun z => Value.int k z
 | [], [], [], _, _ => rfl
 | [], [], _ :: _, _, ha => ha.elim
 | [], _ :: _, _, h, _ => by cases h
 | c :: cs, zs, [], _, ha => ha.elim
 | c :: cs, [], y :: vs, h, _ => by
  unfold isTabC at h
  split at h
  ·rename_i e _; cases e
  ·rename_i e; cases e
  ·cases h
 | c :: cs, z :: zs, y :: vs, h, ha => by
  unfold isTabC at h
  split at h
  ·rename_i e _; cases e
  ·rename_i k' a cs' z' zs' e1 e2
   obtain ⟨rfl, rfl⟩ := List.cons.inj e1
   obtain ⟨rfl, rfl⟩ := List.cons.inj e2
   split at h
   ·rename_i hc
    simp only [Bool.and_eq_true, decide_eq_true_eq] at hc
    obtain ⟨rfl, rfl⟩ := hc
    rw [isTabC_is h ha.2]
    obtain ⟨e, _⟩ := ha.1
    rw [e]
    rfl
   ·cases h
  ·cases h
theorem tab_is {P : Program} {E : Env} {h : Hp} {w : World} (r : RH E h w) {g id : Nat} {name : String} {k : IntKind} {zs : List Int} {b : Blk} {cs : List C} (hn : P.globalNamed name = some g) (hg : lookupN h.globs g = some id)
  (hb : h.blk id = some b) (hro : b.ro = true) (hbody : b.body = .flat cs) (ht : isTabC k cs zs = true) : Lib.TabIs P w name k zs := by
 obtain ⟨s, hE⟩ := r.glob g id hg
 obtain ⟨p, hp, arr, fz, ⟨ty, h1, _⟩, h2, h3, h4⟩ := r.cells hb (by rw [hbody]; rfl)
 obtain rfl : p = (g, s, 0) := Option.some.inj (hp.symm.trans hE)
 have h3 := h3.2
 have hsz : arr.size = cs.length := by
  unfold roIs at h4
  rw [hro] at h4
  exact h4 cs hbody
 rw [hbody] at h3
 have hall : All2 (C.Is E) cs arr.toList := All2.of_get (by simp [hsz]) fun i c hc => by
  obtain ⟨x, hx, hi⟩ := h3 i c hc
  exact ⟨x, by simpa [vw_zero] using hx, hi⟩
 have := isTabC_is ht hall
 unfold Lib.TabIs World.var?
 rw [hn]
 simp only [Option.bind_some, h1]
 rw [← this]
def specItoa : Spec := fun args h => match args with
 | [.one (.lit (.int .i64 n))] => match lookupN h.globs 2 with
  | some id => match h.blk id with
   | some b => match b.ro, b.body with
    | true, .flat cs => match isTabC .u64 cs Lib.pow10Tab with
     | true => .need (decide (-9223372036854775808 ≤ n) && decide (n ≤ 9223372036854775807)) (.leaf (.one (.lit (.string ⟨(itoaW n).toArray⟩)), h))
     | false => .fail 204
    | _, _ => .fail 204
   | none => .fail 204
  | none => .fail 204
 | _ => .fail 201
theorem specItoa_ok : SpecOk Go.Proofs.Tryz.prog 117 specItoa := by
 intro args h v h' hr E w vals rh hargs
 unfold specItoa at hr
 split at hr
 ·rename_i n
  split at hr
  ·rename_i id hg
   split at hr
   ·rename_i b hb
    split at hr
    ·rename_i cs hro hbody
     split at hr
     ·rename_i ht
      obtain ⟨hn, hr⟩ := Tree.need_some hr
      simp only [Bool.and_eq_true, decide_eq_true_eq] at hn
      simp only [Tree.run, Option.some.injEq, Prod.mk.injEq] at hr
      obtain ⟨rfl, rfl⟩ := hr
      match vals, hargs with
      | [y], ⟨⟨hy, _⟩, _⟩ =>
       subst hy
       have htab := tab_is (P := Go.Proofs.Tryz.prog) (name := "internal/strconv.uint64pow10") rh (by kernel_rfl) hg hb hro hbody ht
       rw [itoaW_eq n hn.1 hn.2]
       refine pure_calls rh ⟨rfl, rfl⟩ ((Go.Proofs.Tryz.strconv_Itoa n hn.1 hn.2 w htab).mono ?_)
       rintro e w' ⟨he, k, os, hw⟩
       exact ⟨he, by subst hw; exact Lib.below_grow _ w (Nat.le_refl _) k os⟩
     ·cases hr
    ·cases hr
   ·cases hr
  ·cases hr
 ·cases hr
def tabOf : List (FuncId × Spec) → FuncId → Option Spec
 | [], _ => none
 | (g, s) :: l, f => match Nat.beq g f with
  | true => some s
  | false => tabOf l f
theorem tabOf_ok {P : Program} : ∀ {l : List (FuncId × Spec)}, (∀ e ∈ l, SpecOk P e.1 e.2) → TabOk P (tabOf l)
 | [], _, f, s, h => by cases h
 | (g, s') :: l, hl, f, s, h => by
  unfold tabOf at h
  split at h
  ·rename_i e
   obtain rfl := Nat.eq_of_beq_eq_true e
   simp only [Option.some.injEq] at h
   subst h
   exact hl (g, s') (by simp)
  ·exact tabOf_ok (fun e he => hl e (by simp [he])) f s h
def libTab : List (FuncId × Spec) := [(105, specName), (117, specItoa), (67, specJoin)]
theorem libTab_ok : TabOk Go.Proofs.Tryz.prog (tabOf libTab) := tabOf_ok fun e he => by
 simp only [libTab, List.mem_cons, List.not_mem_nil, or_false] at he
 rcases he with rfl | rfl | rfl
 ·exact specName_ok
 ·exact specItoa_ok
 ·exact specJoin_ok
theorem all_noId {E E' : Env} : ∀ {xs : List A} {vs : List Value}, All2 (A.Is E) xs vs → xs.all A.noId = true → All2 (A.Is E') xs vs
 | [], [], _, _ => trivial
 | a :: xs, v :: vs, h, hn => by
  simp only [List.all_cons, Bool.and_eq_true] at hn
  exact ⟨h.1.noId hn.1, all_noId h.2 hn.2⟩
 | [], _ :: _, h, _ => h.elim
 | _ :: _, [], h, _ => h.elim
theorem rh_none (w : World) : RH (fun _ => none) hp0 w :=
 ⟨Nat.zero_le _, fun _ _ => rfl, fun _ _ h => (by cases h), fun id b hb => (by rw [show hp0.heap = Tr.nil from rfl, Tr.get_nil] at hb; cases hb), fun id _ b _ _ _ hb => (by rw [show hp0.heap = Tr.nil from rfl, Tr.get_nil] at hb; cases hb), fun g id h => (by cases h), fun _ _ h => (by cases h)⟩
end Go.Ev
