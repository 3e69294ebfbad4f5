/- Tanks: a tank and an error that are compared with what is expected; the tables of the law. Conditions: few layers. -/
import Derived.Test.YtlpchgidkibbeaaGreatDoorTank9
namespace Go.Ev
open Go Go.Proofs
set_option maxRecDepth 100000

def tbI : List (FuncId × Spec) := (73, smSp) :: tbT1
theorem tbI_ok : TabOk Tryz.prog (tabOf tbI) := tab_cons tbT1_ok sm_ok
def zzI : Nat → Int := fun _ => 0
def ok2 (n m : Nat) : Bool := (Nat.ble n n && true) && ((Nat.ble m m && true) && true)
theorem ok2_ok (n m : Nat) : ok2 n m = true := by unfold ok2; rw [ble_self, ble_self]; rfl
section
variable (n m : Nat) (room room' e bad : Int) (a h a' h' : Nat → Int)
def isH : Hp := hpT (smTs n m a h a' h') [] []
def isA : List A := [.agg [ci room, slC false 0 2 n], int e, int 0, .agg [ci room', slC false 1 2 m]]
noncomputable def isT : Tree ((Bool × A × Hp) ⊕ (List Bool × St)) := preA Tryz.prog (tabOf tbI) Tryz.f56 (isA n m room room' e) (isH n m a h a' h') (true, false)
def isS : SkL := .ff (.node (e == 0) (.tt (.tt (.need (okN n) (.need (Nat.ble n 1000000) (.node (Nat.beq n 0) (.tt (.need (okN m) (lfT (isH n m a h a' h') (sameT 0 m room room' zzI zzI a' h')))) (.tt (.need (ok2 n m) (.need (Nat.ble n 1000000) (lfT (isH n m a h a' h') (sameT n m room room' a h a' h')))))))))) (.ff (.ff (.ff (lfT (isH n m a h a' h') false)))))
theorem is_into : isT n m room room' e a h a' h' = into (isT n m room room' e a h a' h') (isS n m room room' e a h a' h') := by kernel_rfl
theorem is_fits : fits (isT n m room room' e a h a' h') (isS n m room room' e a h a' h') = true := by kernel_rfl
def isV : Bool := match e == 0 with
  | true => sameT n m room room' a h a' h'
  | false => false
theorem is_call (hn : n ≤ 1000000) : CallAt Tryz.prog 56 (isA n m room room' e) (isH n m a h a' h') (boo (isV n m room room' e a h a' h')) (isH n m a h a' h') := by
  refine call_sk tbI_ok Tryz.func56 (by kernel_rfl) (true, false) (by kernel_rfl) (S := isS n m room room' e a h a' h') (is_into n m room room' e a h a' h') (is_fits n m room room' e a h a' h') (SkLeads.all ?_)
  unfold isV
  refine sk_ff (sk_either (fun g1 => ?_) fun g1 => ?_)
  · rw [g1]
    refine sk_tt (sk_tt (sk_need (okN_ok n) (sk_need (ble_lit hn) (sk_either (fun g2 => ?_) fun g2 => ?_))))
    · have h0 := Nat.eq_of_beq_eq_true g2
      subst h0
      exact sk_tt (sk_need (okN_ok m) (sk_leaf rfl))
    · exact sk_tt (sk_need (ok2_ok n m) (sk_need (ble_lit hn) (sk_leaf rfl)))
  · rw [g1]; exact sk_ff (sk_ff (sk_ff (sk_leaf rfl)))
/-- two tanks without layers -/
def isN : Bool := match e == bad with
  | true => match bad != 0 with
    | true => sameT 0 0 room 0 zzI zzI zzI zzI
    | false => sameT 0 0 room room' zzI zzI zzI zzI
  | false => false
def isNS : SkL := .node (bad != 0) (.node (e == bad) (.tt (.tt (.tt (.tt (lfT (hpT [] [] []) (sameT 0 0 room 0 zzI zzI zzI zzI)))))) (.ff (.ff (.ff (lfT (hpT [] [] []) false))))) (.node (e == bad) (.tt (.tt (.tt (.tt (lfT (hpT [] [] []) (sameT 0 0 room room' zzI zzI zzI zzI)))))) (.ff (.ff (.ff (lfT (hpT [] [] []) false)))))
theorem is_nil : CallAt Tryz.prog 56 [.agg [ci room, nilC], int e, int bad, .agg [ci room', nilC]] (hpT [] [] []) (boo (isN room room' e bad)) (hpT [] [] []) := by
  refine call_sk tbI_ok Tryz.func56 (by kernel_rfl) (true, false) (by kernel_rfl) (S := isNS room room' e bad) (by kernel_rfl) (by kernel_rfl) (SkLeads.all ?_)
  unfold isN
  refine sk_either (fun g0 => sk_either (fun g1 => ?_) fun g1 => ?_) fun g0 => sk_either (fun g1 => ?_) fun g1 => ?_
  · rw [g1, g0]; exact sk_tt (sk_tt (sk_tt (sk_tt (sk_leaf rfl))))
  · rw [g1]; exact sk_ff (sk_ff (sk_ff (sk_leaf rfl)))
  · rw [g1, g0]; exact sk_tt (sk_tt (sk_tt (sk_tt (sk_leaf rfl))))
  · rw [g1]; exact sk_ff (sk_ff (sk_ff (sk_leaf rfl)))
end
def isF : FT
  | [room, e, bad, room'], [], [], [⟨none, _, _⟩, ⟨none, _, _⟩] => .leaf (boo (isN room room' e bad), [])
  | [room, e, bad, room'], [], [], [⟨some _, n, [.int .i64 a, .int .i64 h]⟩, ⟨some _, m, [.int .i64 a', .int .i64 h']⟩] => .need (Nat.ble n 1000000) (.need (bad == 0) (.leaf (boo (isV n m room room' e a h a' h'), [])))
  | _, _, _, _ => .fail 390
def isSh : Shp := [tkS, (false, [.i]), (false, [.i]), tkS]
def isSp : Spec := fun args h => specT isSh [] isF args h
theorem is_ok : SpecOk Tryz.prog 56 isSp := by
  refine specT_ok rfl (by decide) fun l m n ts v news hl hm hn ht hnil hF => ?_
  unfold isF at hF
  split at hF
  · simp only [Tree.run, Option.some.injEq, Prod.mk.injEq] at hF
    obtain ⟨rfl, rfl⟩ := hF
    rename_i room e bad room' n1 c1 n2 c2
    exact is_nil room room' e bad
  · rename_i room e bad room' i n a h j m a' h'
    obtain ⟨hok, hF⟩ := Tree.need_some hF
    obtain ⟨h0, hF⟩ := Tree.need_some hF
    have hok := Nat.le_of_ble_eq_true hok
    have h0 := eq_of_beq h0
    subst h0
    simp only [Tree.run, Option.some.injEq, Prod.mk.injEq] at hF
    obtain ⟨rfl, rfl⟩ := hF
    exact is_call n m room room' e a h a' h' hok
  · cases hF
def tbL (B : Bool) (c c1 : Int) (c2 : Option Int) (g : (Nat → Int) → (Nat → Int) → Nat → T3) : List (FuncId × Spec) := (56, isSp) :: (45, fun args h => specT [tkS] [] (mxF false 81 152) args h) :: (52, fun args h => specT [tkS] [] (mxF true 76 98) args h) :: tbS B c c1 c2 g
theorem tbL_ok (B : Bool) (c c1 : Int) (c2 : Option Int) : TabOk Tryz.prog (tabOf (tbL B c c1 c2 togS)) := tab_cons (tab_cons (tab_cons (tbS_ok B c c1 c2) mqE_ok) mpE_ok) is_ok
end Go.Ev
