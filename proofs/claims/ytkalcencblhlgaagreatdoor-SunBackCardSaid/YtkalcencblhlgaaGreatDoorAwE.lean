/- awake() returns true: a closed run. Conditions: the two variables that it reads. -/
import Derived.Test.YtkalcencblhlgaaGreatDoorVec4
namespace Go.Ev
open Go Go.Proofs
def hpG (e1 e2 : TypeId) : Hp := hpL [⟨true, e1, .flat ([1, 0, 0, 0, 0, 1].map ci)⟩, ⟨true, e2, .flat (Lib.pow10Tab.map fun n => .lit (.int .u64 n))⟩] [(0, 0), (2, 1)]
theorem awake_run (e1 e2 : TypeId) : (evFun Tryz.prog (tabOf tb_tiny) modes 1000 8 [] (hpG e1 e2)).run = some (boo true, hpG e1 e2) := by kernel_rfl
end Go.Ev
namespace Go.Ev
open Go Go.Proofs
def hasG (h : Hp) : Option (Nat × Nat × TypeId × TypeId) := match lookupN h.globs 0, lookupN h.globs 2 with
 | some i, some j => match h.blk i, h.blk j with
  | some ⟨true, t1, .flat cs1⟩, some ⟨true, t2, .flat cs2⟩ => match isTabC .i64 cs1 [1, 0, 0, 0, 0, 1] && (isTabC .u64 cs2 Lib.pow10Tab && !(Nat.beq i j)) with
   | true => some (i, j, t1, t2)
   | false => none
  | _, _ => none
 | _, _ => none
def specAwake : Spec := fun args h => match args, hasG h with
 | [], some _ => .leaf (boo true, h)
 | _, _ => .fail 340
theorem isTabC_eq {k : IntKind} : ∀ {cs : List C} {zs : List Int}, isTabC k cs zs = true → cs = zs.map fun z => .lit (.int k z)
 | [], [], _ => rfl
 | [], _ :: _, h => by cases h
 | c :: cs, [], h => by
  unfold isTabC at h
  split at h
  ·rename_i e _; cases e
  ·rename_i e; cases e
  ·cases h
 | c :: cs, z :: zs, h => by
  unfold isTabC at h
  split at h
  ·rename_i e; cases e
  ·rename_i k' a cs' z' zs' e1 e2
   obtain ⟨rfl, rfl⟩ := List.cons.inj e1
   obtain ⟨rfl, rfl⟩ := List.cons.inj e2
   split at h
   ·rename_i hc
    simp only [Bool.and_eq_true, decide_eq_true_eq] at hc
    obtain ⟨rfl, rfl⟩ := hc
    rw [isTabC_eq h]; rfl
   ·cases h
  ·cases h
theorem sub_ro {et : TypeId} {k : IntKind} {zs : List Int} : Sub ⟨true, et, .flat (zs.map fun z => .lit (.int k z))⟩ ⟨true, et, .flat (zs.map fun z => .lit (.int k z))⟩ := by
 refine ⟨rfl, fun _ => rfl, fun E E' arr h i c hc => ?_, fun _ cs1 e => ⟨_, rfl, by injection e with e; rw [e]⟩, rfl⟩
 obtain ⟨x, hx, hi⟩ := h i c hc
 refine ⟨x, hx, hi.noId ?_⟩
 rw [nth_eq, List.getElem?_map] at hc
 cases hl : zs[i]? with
 | none => rw [hl] at hc; cases hc
 | some z => rw [hl] at hc; injection hc with hc; subst hc; rfl
theorem lift_g {f : FuncId} {args : List A} {v : A} (hc : ∀ e1 e2, CallAt Tryz.prog f args (hpG e1 e2) v (hpG e1 e2)) (hv : v.noId = true) (ha : args.all A.noId = true) {E : Env} {h : Hp} {w : World} {vals : List Value} (rh : RH E h w) (hargs : All2 (A.Is E) args vals) {x : Nat × Nat × TypeId × TypeId} (hg : hasG h = some x) :
  Calls Tryz.prog f vals.toArray w fun e w' => ∃ x E', e = .returned x ∧ v.Is E' x ∧ Stp E h w E' h w' := by
 unfold hasG at hg
 split at hg
 ·rename_i i j h1 h2
  split at hg
  ·rename_i t1 cs1 t2 cs2 hb1 hb2
   split at hg
   ·rename_i hc3
    rw [Bool.and_eq_true, Bool.and_eq_true] at hc3
    have e1 := isTabC_eq hc3.1
    have e2 := isTabC_eq hc3.2.1
    subst e1; subst e2
    have hne : i ≠ j := fun e => by have := hc3.2.2; rw [e] at this; simp at this
    refine lift_sub (ids := [i, j]) (hc t1 t2) hv rh rfl (by simp [lim]) (by simp [hne]) (fun k id b1 hk hb => ?_) (fun g k hg => ?_) (all_noId hargs ha)
    ·match k, hk, hb with
     | 0, hk, hb =>
      injection hk with hk; subst hk
      injection hb with hb; subst hb
      exact ⟨_, hb1, sub_ro⟩
     | 1, hk, hb =>
      injection hk with hk; subst hk
      injection hb with hb; subst hb
      exact ⟨_, hb2, sub_ro⟩
     | k + 2, hk, hb => cases hk
    ·unfold lookupN at hg
     split at hg
     ·rename_i e
      obtain rfl := Nat.eq_of_beq_eq_true e
      injection hg with hg; subst hg
      exact ⟨i, rfl, h1⟩
     ·unfold lookupN at hg
      split at hg
      ·rename_i e
       obtain rfl := Nat.eq_of_beq_eq_true e
       injection hg with hg; subst hg
       exact ⟨j, rfl, h2⟩
      ·cases hg
   ·cases hg
  ·cases hg
 ·cases hg
theorem specAwake_ok : SpecOk Tryz.prog 8 specAwake := by
 intro args h v h' hr E w vals rh hargs
 unfold specAwake at hr
 split at hr
 ·rename_i x hg
  simp only [Tree.run, Option.some.injEq, Prod.mk.injEq] at hr
  obtain ⟨rfl, rfl⟩ := hr
  exact lift_g (fun e1 e2 E w vals rh ha => (fun_ok tb_tiny_ok noOwn mixed 1000 _ _ _ _ _ (awake_run e1 e2) E w vals rh ha).1 (by decide)) rfl rfl rh hargs hg
 ·cases hr
def glY : List (Nat × List C) := [(0, [1, 0, 0, 0, 0, 1].map ci), (2, Lib.pow10Tab.map fun n => .lit (.int .u64 n))]
end Go.Ev
