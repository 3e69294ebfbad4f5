/- Both checks of a tank of any length. Conditions: none. -/
import Derived.Test.YtlpchgidkibbeaaGreatDoorTank3
namespace Go.Ev
open Go Go.Proofs
set_option maxRecDepth 100000
theorem headE_many {n : Nat} {room : Int} (hn : ¬ n ≤ 17) : (headE n room != 0) = true := by
 unfold headE
 have e : errIf (decide ((n : Int) > 16)) 5 = 5 := by
  have : decide ((n : Int) > 16) = true := by simp only [decide_eq_true_eq]; omega
  rw [this]; rfl
 rw [e]
 unfold firstZ
 split
 ·assumption
 ·rfl
theorem ctw_call (n : Nat) (room : Int) (z1 z2 : Nat → Int) : CallAt Tryz.prog 55 [tankA room n] (tankH n z1 z2) (int (tankE n room z1 z2)) (tankH n z1 z2) := by
 by_cases hn : n ≤ 17
 ·exact ct_call n room z1 z2 hn
 ·refine call_base (recT_ok tbT0_ok) (c := bodyOf Tryz.f55) (fn := Tryz.f55) Tryz.func55 (by kernel_rfl) (by kernel_rfl) (false, true) 1 [1, 2, 22, 23, 24] [2] (sB := ctB n room z1 z2) (by kernel_rfl) (t := ctO n room z1 z2) (by delta ctO; rfl) (all_into (ctO_into n room z1 z2) (ctO_fits n room z1 z2) (SkLeads.all ?_))
  refine sk_yes (headE_many hn) (sk_leaf (cutF_dn ?_))
  unfold tankE; rw [headE_many hn]; exact ct_left n z1 z2 _
theorem qcw_call (n : Nat) (room : Int) (z1 z2 : Nat → Int) : CallAt Tryz.prog 47 [tankA room n] (tankH n z1 z2) (int (tankE n room z1 z2)) (tankH n z1 z2) := by
 by_cases hn : n ≤ 17
 ·exact qc_call n room z1 z2 hn
 ·refine call_base (recT_ok tbT0_ok) (c := bodyOf Tryz.f47) (fn := Tryz.f47) Tryz.func47 (by kernel_rfl) (by kernel_rfl) (false, true) 1 [1, 2, 4] [2] (sB := qcB n room z1 z2) (by kernel_rfl) (t := qcO n room z1 z2) (by delta qcO; rfl) (all_into (qcO_into n room z1 z2) (qcO_fits n room z1 z2) (SkLeads.all ?_))
  refine sk_yes (headE_many hn) (sk_leaf (cutF_dn ?_))
  unfold tankE; rw [headE_many hn]; exact qc_left n z1 z2 _
def ckF (g : Nat → Int → (Nat → Int) → (Nat → Int) → Int) : FT
 | [room], [], [], [⟨_, n, [.int .i64 z1, .int .i64 z2]⟩] => .leaf (int (g n room z1 z2), [])
 | _, _, _, _ => .fail 381
def chSp (g : Nat → Int → (Nat → Int) → (Nat → Int) → Int) : Spec := fun args h => specT [tkS] [] (ckF g) args h
theorem ch_nil {f : FuncId} (hs : SpecOk Tryz.prog f fun args h => specT [tkS] [] ctF args h) (room : Int) (z1 z2 : Nat → Int) : CallAt Tryz.prog f [.agg [ci room, nilC]] (hpT [] [] []) (int (tankE 0 room z1 z2)) (hpT [] [] []) := by
 have h0 : (specT [tkS] [] ctF [.agg [ci room, nilC]] (hpT [] [] [])).run = some (int (tankE 0 room (fun _ => 0) (fun _ => 0)), hpT [] [] []) := by rfl
 have := hs _ _ _ _ h0
 exact this
theorem ch_ok {f : FuncId} (h0 : ∀ room z1 z2, CallAt Tryz.prog f [.agg [ci room, nilC]] (hpT [] [] []) (int (tankE 0 room z1 z2)) (hpT [] [] [])) (hc : ∀ n room z1 z2, CallAt Tryz.prog f [tankA room n] (tankH n z1 z2) (int (tankE n room z1 z2)) (tankH n z1 z2)) : SpecOk Tryz.prog f (chSp tankE) := by
 refine specT_ok rfl (by decide) fun l m n ts v news hl hm hn ht hnil hF' => ?_
 unfold ckF at hF'
 split at hF'
 ·rename_i room id k z1 z2
  simp only [Tree.run, Option.some.injEq, Prod.mk.injEq] at hF'
  obtain ⟨rfl, rfl⟩ := hF'
  cases id with
  | none =>
   have h00 : k = 0 := hnil _ (List.mem_singleton.2 rfl) rfl
   subst h00
   exact h0 room z1 z2
  | some id => exact hc k room z1 z2
 ·cases hF'
theorem ctw_ok : SpecOk Tryz.prog 55 (chSp tankE) := ch_ok (fun room z1 z2 => ch_nil ct_ok room z1 z2) ctw_call
theorem qcw_ok : SpecOk Tryz.prog 47 (chSp tankE) := ch_ok (fun room z1 z2 => ch_nil qc_ok room z1 z2) qcw_call
end Go.Ev
