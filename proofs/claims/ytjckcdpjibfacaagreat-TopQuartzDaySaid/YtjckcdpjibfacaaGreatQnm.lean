/- What the reference's IsName says of a string: the same as light.IsName. Conditions: none. -/
import Derived.Test.YtjckcdpjibfacaaGreatSkb
namespace Go.Ev
open Go Go.Proofs
set_option maxRecDepth 100000
def qiB (s : ByteArray) (k : Nat) : Int := (((s.get! (Int.toNat (k : Int))).toNat : Nat) : Int)
def qiK (s : ByteArray) (k : Nat) : Bool := decide (0 ≤ (k : Int)) && decide ((k : Int) < (s.size : Int))
def qiN (env : List (Nat × A)) : St := stN 67 (envL env) [] [] []
def qiS (s : ByteArray) : St := baseB 67 [str s] (hpT [] [] [])
def qiH (s : ByteArray) (i : Int) : St := qiN [(0, str s), (2, boo false), (3, int i)]
def qiR (_ : ByteArray) : St := qiN [(2, boo false)]
def qiE : St := qiN [(2, boo false)]
noncomputable def qiT (s : ByteArray) (k : Nat) : Tree (X × St) := (recT Tryz.prog noTab (loopF Tryz.f58) (qiH s (k : Int))).bind (canonT [0, 2, 3] [2] (qiS s))
def qiY (s : ByteArray) (k : Nat) : SkX := (.node (decide ((k : Int) < (s.size : Int))) (.need (qiK s k) (.node (decide (qiB s k ≥ 97)) (.need (qiK s k) (.node (decide (qiB s k ≤ 122)) (.nn (.need (qiK s k) (.node (decide (qiB s k ≥ 48)) (.need (qiK s k) (.node (decide (qiB s k ≤ 57)) (.ff (.ff (.leaf (.normal, qiH s (IntKind.i64.wrap ((k : Int) + 1)))))) (.need (qiK s k) (.ff (.ff (.leaf (.normal, qiH s (IntKind.i64.wrap ((k : Int) + 1))))))))) (.ff (.need (qiK s k) (.ff (.ff (.leaf (.normal, qiH s (IntKind.i64.wrap ((k : Int) + 1))))))))))) (.need (qiK s k) (.node (decide (qiB s k ≥ 65)) (.need (qiK s k) (.need (qiK s k) (.node (decide (qiB s k ≥ 48)) (.need (qiK s k) (.node (decide (qiB s k ≤ 57)) (.node (!(decide (qiB s k ≤ 90))) (.node ((k : Int) == 0) (.tt (.leaf (.ret, qiR s))) (.ff (.leaf (.normal, qiH s (IntKind.i64.wrap ((k : Int) + 1)))))) (.ff (.leaf (.normal, qiH s (IntKind.i64.wrap ((k : Int) + 1)))))) (.need (qiK s k) (.node (!(decide (qiB s k ≤ 90))) (.node ((k : Int) == 0) (.tt (.leaf (.ret, qiR s))) (.node (!(qiB s k == 95)) (.leaf (.ret, qiR s)) (.leaf (.normal, qiH s (IntKind.i64.wrap ((k : Int) + 1)))))) (.ff (.leaf (.normal, qiH s (IntKind.i64.wrap ((k : Int) + 1))))))))) (.ff (.need (qiK s k) (.node (!(decide (qiB s k ≤ 90))) (.node ((k : Int) == 0) (.tt (.leaf (.ret, qiR s))) (.node (!(qiB s k == 95)) (.leaf (.ret, qiR s)) (.leaf (.normal, qiH s (IntKind.i64.wrap ((k : Int) + 1)))))) (.ff (.leaf (.normal, qiH s (IntKind.i64.wrap ((k : Int) + 1))))))))))) (.nn (.need (qiK s k) (.node (decide (qiB s k ≥ 48)) (.need (qiK s k) (.node (decide (qiB s k ≤ 57)) (.tt (.node ((k : Int) == 0) (.tt (.leaf (.ret, qiR s))) (.ff (.leaf (.normal, qiH s (IntKind.i64.wrap ((k : Int) + 1))))))) (.need (qiK s k) (.tt (.node ((k : Int) == 0) (.tt (.leaf (.ret, qiR s))) (.node (!(qiB s k == 95)) (.leaf (.ret, qiR s)) (.leaf (.normal, qiH s (IntKind.i64.wrap ((k : Int) + 1)))))))))) (.ff (.need (qiK s k) (.tt (.node ((k : Int) == 0) (.tt (.leaf (.ret, qiR s))) (.node (!(qiB s k == 95)) (.leaf (.ret, qiR s)) (.leaf (.normal, qiH s (IntKind.i64.wrap ((k : Int) + 1)))))))))))))))) (.ff (.need (qiK s k) (.node (decide (qiB s k ≥ 65)) (.need (qiK s k) (.need (qiK s k) (.node (decide (qiB s k ≥ 48)) (.need (qiK s k) (.node (decide (qiB s k ≤ 57)) (.node (!(decide (qiB s k ≤ 90))) (.node ((k : Int) == 0) (.tt (.leaf (.ret, qiR s))) (.ff (.leaf (.normal, qiH s (IntKind.i64.wrap ((k : Int) + 1)))))) (.ff (.leaf (.normal, qiH s (IntKind.i64.wrap ((k : Int) + 1)))))) (.need (qiK s k) (.node (!(decide (qiB s k ≤ 90))) (.node ((k : Int) == 0) (.tt (.leaf (.ret, qiR s))) (.node (!(qiB s k == 95)) (.leaf (.ret, qiR s)) (.leaf (.normal, qiH s (IntKind.i64.wrap ((k : Int) + 1)))))) (.ff (.leaf (.normal, qiH s (IntKind.i64.wrap ((k : Int) + 1))))))))) (.ff (.need (qiK s k) (.node (!(decide (qiB s k ≤ 90))) (.node ((k : Int) == 0) (.tt (.leaf (.ret, qiR s))) (.node (!(qiB s k == 95)) (.leaf (.ret, qiR s)) (.leaf (.normal, qiH s (IntKind.i64.wrap ((k : Int) + 1)))))) (.ff (.leaf (.normal, qiH s (IntKind.i64.wrap ((k : Int) + 1))))))))))) (.nn (.need (qiK s k) (.node (decide (qiB s k ≥ 48)) (.need (qiK s k) (.node (decide (qiB s k ≤ 57)) (.tt (.node ((k : Int) == 0) (.tt (.leaf (.ret, qiR s))) (.ff (.leaf (.normal, qiH s (IntKind.i64.wrap ((k : Int) + 1))))))) (.need (qiK s k) (.tt (.node ((k : Int) == 0) (.tt (.leaf (.ret, qiR s))) (.node (!(qiB s k == 95)) (.leaf (.ret, qiR s)) (.leaf (.normal, qiH s (IntKind.i64.wrap ((k : Int) + 1)))))))))) (.ff (.need (qiK s k) (.tt (.node ((k : Int) == 0) (.tt (.leaf (.ret, qiR s))) (.node (!(qiB s k == 95)) (.leaf (.ret, qiR s)) (.leaf (.normal, qiH s (IntKind.i64.wrap ((k : Int) + 1))))))))))))))))) (.leaf (.exit 0, qiE)))
theorem qi_into (s : ByteArray) (k : Nat) : qiT s k = into (qiT s k) (qiY s k) := by kernel_rfl
theorem qi_fits (s : ByteArray) (k : Nat) : fits (qiT s k) (qiY s k) = true := by kernel_rfl
def qiFin (s : ByteArray) (k : Nat) : X × St := match Tryz.nameOk (s.data.toList.drop k) (Nat.beq k 0) with
 | true => (.exit 0, qiE)
 | false => (.ret, qiR s)
theorem qi_step (s : ByteArray) (hs : s.size ≤ 24) (k : Nat) (hk : k < s.size) : SkLeads (Rnd (fun k => qiH s (k : Int)) (qiFin s) k) (qiY s k) := by
 have hb : qiB s k = ((s[k]'hk).toNat : Nat) := by
  have : s.get! k = s[k]'hk := by
   cases s with
   | mk d => exact getElem!_pos d k hk
  unfold qiB
  rw [Int.toNat_natCast, this]
 have hK : qiK s k = true := by unfold qiK; simp only [Bool.and_eq_true, decide_eq_true_eq]; omega
 have hok := Tryz.nameOk_drop s k (Nat.beq k 0) hk
 have hyes := Tryz.nameByte_iff (s[k]'hk).toNat k
 have hret : Tryz.nameByte (s[k]'hk).toNat (Nat.beq k 0) = false → SkLeads (Rnd (fun k => qiH s (k : Int)) (qiFin s) k) (.leaf (.ret, qiR s)) := fun h => by
  refine sk_leaf (rnd_ret ?_)
  unfold qiFin
  rw [hok, h]; rfl
 have hnext : Tryz.nameByte (s[k]'hk).toNat (Nat.beq k 0) = true → SkLeads (Rnd (fun k => qiH s (k : Int)) (qiFin s) k) (.leaf (.normal, qiH s (IntKind.i64.wrap ((k : Int) + 1)))) := fun h => by
  refine sk_leaf (rnd_next ?_ ?_)
  ·rw [wrap_succ (by omega)]; exact St.Le.refl _
  ·unfold qiFin
   rw [hok, h]
   rfl
 unfold qiY
 rw [hb, hK]
 generalize (s[k]'hk).toNat = b at *
 refine sk_yes (by simp only [decide_eq_true_eq]; omega) (sk_need rfl ?_)
 repeat' (first
  | refine sk_need rfl ?_
  | refine sk_nn ?_
  | refine sk_ff ?_
  | refine sk_tt ?_
  | (refine sk_either (fun _ => ?_) fun _ => ?_))
 all_goals first
  | exact hret (by rw [← Bool.not_eq_true, hyes]; simp_all; omega)
  | exact hnext (by rw [hyes]; simp_all; omega)
  | exact hret (by rw [← Bool.not_eq_true, hyes]; simp_all)
  | exact hnext (by rw [hyes]; simp_all)
  | skip
theorem qi_last (s : ByteArray) : SkLeads (RndEnd (qiFin s s.size)) (qiY s s.size) := by
 unfold qiY
 refine sk_no (rnd_end _) (sk_leaf ?_)
 show _ = qiFin s s.size
 unfold qiFin
 rw [List.drop_eq_nil_of_le (by simp)]
 rfl
noncomputable def qiO (s : ByteArray) : Tree ((X × St) ⊕ (List Bool × St)) := evO (recT Tryz.prog noTab) (bodyOf Tryz.f58) [0, 2, 3] [2] (qiS s)
noncomputable def qiP (s : ByteArray) (q : X × St) : Tree ((X × St) ⊕ (List Bool × St)) := evO2 (recT Tryz.prog noTab) true (bodyOf Tryz.f58) (pathF Tryz.f58) [] [2] (qiS s) q
def sNil : ByteArray := ⟨#[]⟩
noncomputable def qiOS (s : ByteArray) : SkO := .node (s.toList == sNil.toList) (.tt (.leaf (.inl (.ret, qiR s)))) (.node (decide ((s.size : Int) > 24)) (.leaf (.inl (.ret, qiR s))) (.leaf (.inr (pathF Tryz.f58, qiH s ((0 : Nat) : Int)))))
theorem qiO_into (s : ByteArray) : qiO s = into (qiO s) (qiOS s) := by kernel_rfl
theorem qiO_fits (s : ByteArray) : fits (qiO s) (qiOS s) = true := by kernel_rfl
theorem qiP_yes (s : ByteArray) : qiP s (.exit 0, qiE) = .leaf (.inl (.ret, qiN [(2, boo true)])) := by kernel_rfl
theorem qiP_no (s : ByteArray) : qiP s (.ret, qiR s) = .leaf (.inl (.ret, qiR s)) := by kernel_rfl
theorem qi_left (b : Bool) : Left2 Tryz.prog Tryz.f58 (hpT [] [] []) (boo b) (hpT [] [] []) (.ret, qiN [(2, boo b)]) := left_of (b := true) (by kernel_rfl)
theorem qi_call (s : ByteArray) : CallAt Tryz.prog 58 [str s] (hpT [] [] []) (boo (Tryz.isNameW s)) (hpT [] [] []) := by
 refine call_base rec0 (c := bodyOf Tryz.f58) (fn := Tryz.f58) Tryz.func58 (by kernel_rfl) (by kernel_rfl) (false, false) 1 [0, 2, 3] [2] (sB := qiS s) (by kernel_rfl) (t := qiO s) (by delta qiO; rfl) (all_into (qiO_into s) (qiO_fits s) (SkLeads.all ?_))
 have h0 : ∀ h : Nat.beq s.size 0 = true ∨ Nat.ble s.size 24 = false, Tryz.isNameW s = false := fun h => by
  unfold Tryz.isNameW
  rcases h with h | h
  ·rw [h]; simp
  ·rw [h]; simp
 refine sk_either (fun h => sk_tt (sk_leaf ?_)) fun h => sk_either (fun h1 => sk_leaf ?_) fun h1 => sk_leaf ?_
 ·have hz : s.size = 0 := (Tryz.nameNil s).1 (by
   rw [beq_iff_eq] at h
   rw [h]; exact (Tryz.nameNil sNil).2 rfl)
  rw [h0 (.inl (by rw [hz]; rfl))]
  exact cutF_dn (qi_left false)
 ·rw [h0 (.inr (by
   simp only [decide_eq_true_eq] at h1
   rw [← Bool.not_eq_true, Nat.ble_eq]; omega))]
  exact cutF_dn (qi_left false)
 ·have hn : s.size ≤ 24 := by simp only [decide_eq_false_iff_not] at h1; omega
  have hz : Nat.beq s.size 0 = false := by
   rw [← Bool.not_eq_true]
   intro e
   have e := Nat.eq_of_beq_eq_true e
   have : s.toList = [] := (Tryz.nameNil s).2 e
   rw [this, (Tryz.nameNil sNil).2 rfl] at h
   cases h
  refine ⟨_, true, [], [2], loop_count rec0 rfl [0, 2, 3] [2] (fun k => qiH s (k : Int)) (qiFin s) s.size (qiT s) (qiY s) (fun k => rfl) (qi_into s) (qi_fits s) (qi_step s hn) (qi_last s), fun q hq => Leads.all ?_⟩
  subst hq
  have hw : Tryz.isNameW s = Tryz.nameOk (s.data.toList.drop 0) (Nat.beq 0 0) := by
   unfold Tryz.isNameW
   rw [hz, show Nat.ble s.size 24 = true by rw [Nat.ble_eq]; exact hn]
   simp
  rw [hw]
  unfold qiFin
  cases Tryz.nameOk (s.data.toList.drop 0) (Nat.beq 0 0) with
  | true => exact leads_leaf (show _ = qiP s (.exit 0, qiE) by delta qiP; rfl) (qiP_yes s) (cutF_dn (qi_left true))
  | false => exact leads_leaf (show _ = qiP s (.ret, qiR s) by delta qiP; rfl) (qiP_no s) (cutF_dn (qi_left false))
def qnF : FT
 | [], [], [s], [] => .leaf (boo (Tryz.isNameW s), [])
 | _, _, _, _ => .fail 700
def qnSp : Spec := fun args h => specT [(false, [.s])] [] qnF args h
theorem qn_ok : SpecOk Tryz.prog 58 qnSp := by
 refine specT_ok rfl (by decide) fun l m n ts v news hl hm hn ht hnil hF => ?_
 unfold qnF at hF
 split at hF
 ·rename_i s
  simp only [Tree.run, Option.some.injEq, Prod.mk.injEq] at hF
  obtain ⟨rfl, rfl⟩ := hF
  exact qi_call s
 ·cases hF
end Go.Ev
