/- Numbers with a sign, as entries: the program's integer, the reference's Signed. Conditions: none. -/
import Derived.Test.YtkalcencblhlgaaGreatDoorNm
namespace Go.Ev
open Go Go.RowKit Go.Proofs
set_option maxRecDepth 100000
def txiSp (f : ByteArray → Int) (g : ByteArray → Bool) : Spec := fun args h => match args with
 | [.one (.lit (.string s))] => .need (decide (s.size < 9223372036854775807)) (.leaf (.tup [(false, [.lit (.int .i64 (f s))]), (false, [.lit (.bool (g s))])], h))
 | _ => .fail 502
theorem txi_ok {f : FuncId} {r : ByteArray → Int × Bool} (hc : ∀ s w, s.size < 9223372036854775807 → Calls Proofs.Tryz.prog f #[.string s] w fun e w' => e = .returned (.tuple #[.int .i64 (r s).1, .bool (r s).2]) ∧ Below w.heap.size w w') :
  SpecOk Proofs.Tryz.prog f (txiSp (fun s => (r s).1) fun s => (r s).2) := by
 intro args h v h' hr E w vals rh hargs
 unfold txiSp at hr
 split at hr
 ·rename_i s
  obtain ⟨hn, hr⟩ := Tree.need_some hr
  simp only [Tree.run, Option.some.injEq, Prod.mk.injEq] at hr
  obtain ⟨rfl, rfl⟩ := hr
  match vals, hargs with
  | [y], ⟨⟨hy, _⟩, _⟩ =>
   subst hy
   exact pure_calls rh ⟨[.int .i64 (r s).1, .bool (r s).2], rfl, ⟨_, rfl, rfl, rfl⟩, ⟨_, rfl, rfl, rfl⟩, trivial⟩ (hc s w (of_decide_eq_true hn))
 ·cases hr
def vD (s : ByteArray) : Int := (Proofs.intD s).1
def gD (s : ByteArray) : Bool := (Proofs.intD s).2
def minB : ByteArray := ⟨#[45]⟩
section
variable (f : ByteArray → Int) (g : ByteArray → Bool) (s : ByteArray)
noncomputable def cpT : Tree ((Bool × A × Hp) ⊕ (List Bool × St)) := preA Tryz.prog noTab Tryz.f149 [.one (.lit (.string s)), .one (.lit (.string minB))] (hpT [] [] []) (false, false)
end
def negB (s : ByteArray) : Bool := decide (0 < s.size) && (((s.get! (Int.toNat 0)).toNat : Int) == 45)
def restB (s : ByteArray) : ByteArray := match negB s with
 | true => s.extract 1 s.size
 | false => s
def inTx (t : ByteArray) (neg : Bool) : Int × Bool := match neg with
 | false => Proofs.intD t
 | true => match gD t && !(vD t == 0) with
  | true => (-(vD t), true)
  | false => (0, false)
def intS (s : ByteArray) : Int × Bool := inTx (restB s) (negB s)
section
variable (f : ByteArray → Int) (g : ByteArray → Bool) (s : ByteArray)
end
section
variable (s : ByteArray)
def cpX : ByteArray := s.extract (Int.toNat 0) (Int.toNat (minB.size : Int))
def cpV (b : ByteArray) (w : Bool) : A := .tup [(false, [.lit (.string b)]), (false, [.lit (.bool w)])]
def cpL (b : ByteArray) (w : Bool) : SkL := .leaf (.inl (true, cpV b w, hpT [] [] []))
def cpS : SkL := .node (decide ((s.size : Int) ≥ (minB.size : Int))) (.need (decide ((0 : Int) ≤ 0) && decide ((0 : Int) ≤ (minB.size : Int)) && decide ((minB.size : Int) ≤ (s.size : Int))) (.node (!((cpX s).toList == minB.toList)) (cpL s false)
 (.need (decide ((0 : Int) ≤ (minB.size : Int)) && decide ((minB.size : Int) ≤ (s.size : Int)) && decide ((s.size : Int) ≤ (s.size : Int))) (cpL (s.extract (Int.toNat (minB.size : Int)) (Int.toNat (s.size : Int))) true)))) (.tt (cpL s false))
theorem cp_into : cpT s = into (cpT s) (cpS s) := by kernel_rfl
theorem cp_fits : fits (cpT s) (cpS s) = true := by kernel_rfl
end
theorem first_is {s : ByteArray} (h : 0 < s.size) : ((s.extract 0 1).toList == minB.toList) = (((s.get! (Int.toNat 0)).toNat : Int) == 45) := by
 have e : (s.extract 0 1).toList = [s.get! 0] := by
  rw [ByteArray.toList_eq, ByteArray.data_extract, Array.toList_extract, List.extract_eq_take_drop]
  have h0 := get_list h
  cases hl : s.data.toList with
  | nil => rw [hl] at h0; cases h0
  | cons a l => rw [hl] at h0; injection h0 with h0; subst h0; rfl
 have e2 : minB.toList = [45] := by kernel_rfl
 rw [e, e2]
 show ([s.get! 0] == [45]) = (((s.get! 0).toNat : Int) == 45)
 cases hb : (((s.get! 0).toNat : Int) == 45) with
 | true =>
  rw [beq_iff_eq] at hb
  have : s.get! 0 = 45 := UInt8.toNat_inj.1 (show (s.get! 0).toNat = 45 by omega)
  rw [this]; rfl
 | false =>
  rw [beq_eq_false_iff_ne] at hb
  rw [beq_eq_false_iff_ne]
  intro h2
  injection h2 with h2 _
  rw [h2] at hb
  exact hb rfl
theorem cp_call (s : ByteArray) : CallAt Tryz.prog 149 [.one (.lit (.string s)), .one (.lit (.string minB))] (hpT [] [] []) (cpV (restB s) (negB s)) (hpT [] [] []) := by
 have e1 : (minB.size : Int) = 1 := rfl
 refine call_sk noTab_ok Tryz.func149 (by kernel_rfl) (false, false) (by kernel_rfl) (S := cpS s) (cp_into s) (cp_fits s) (SkLeads.all ?_)
 have no : negB s = false → SkLeads (fun o : (Bool × A × Hp) ⊕ (List Bool × St) => match o with | .inl r => r.2 = (cpV (restB s) (negB s), hpT [] [] []) | .inr _ => False) (cpL s false) := fun h => by
  have : restB s = s := by unfold restB; rw [h]
  rw [this, h]
  exact sk_leaf rfl
 refine sk_either (fun h => ?_) fun h => sk_tt (no ?_)
 ·have hp : 0 < s.size := by simp only [decide_eq_true_eq] at h; omega
  have hn : negB s = ((s.extract 0 1).toList == minB.toList) := by
   rw [first_is hp]
   unfold negB
   simp [hp]
  refine sk_need (by simp only [Bool.and_eq_true, decide_eq_true_eq]; omega) (sk_either (fun h2 => no ?_) fun h2 => sk_need (by simp only [Bool.and_eq_true, decide_eq_true_eq]; omega) ?_)
  ·rw [Bool.not_eq_true'] at h2
   rw [hn]; exact h2
  ·rw [Bool.not_eq_false'] at h2
   have hn2 : negB s = true := by rw [hn]; exact h2
   have : restB s = s.extract (Int.toNat (minB.size : Int)) (Int.toNat (s.size : Int)) := by unfold restB; rw [hn2]; rfl
   rw [this, hn2]
   exact sk_leaf rfl
 ·have hp : ¬ 0 < s.size := fun hp => by simp only [decide_eq_false_iff_not] at h; omega
  unfold negB
  simp [hp]
theorem Tryz.cut_walk (s : ByteArray) (w : World) : Calls Tryz.prog 149 #[.string s, .string minB] w fun e w' => e = .returned (.tuple #[.string (restB s), .bool (negB s)]) ∧ Below w.heap.size w w' := by
 refine (cp_call s (fun _ => none) w [.string s, .string minB] (rh_none w) ⟨⟨rfl, rfl⟩, ⟨rfl, rfl⟩, trivial⟩).mono ?_
 rintro e w' ⟨v, E', rfl, hv, hst⟩
 obtain ⟨l, rfl, hv⟩ := hv
 match l, hv with
 | [x, y], ⟨⟨c1, e1, h1⟩, ⟨c2, e2, h2⟩, _⟩ =>
  injection e1 with e1 _; subst e1
  injection e2 with e2 _; subst e2
  obtain ⟨rfl, _⟩ := h1
  obtain ⟨rfl, _⟩ := h2
  exact ⟨rfl, ⟨hst.fr.os, hst.fr.tape, hst.fr.output, hst.fr.size, fun k hk => hst.fr.keep k hk fun id p hp => by cases hp⟩⟩
end Go.Ev
