/- salt.kind: the kind of an act, by its name. Conditions: the variable acts holds the five kinds. -/
import Derived.Test.YtlpchgidkibbeaaGreatDoorVec
namespace Go.Ev
open Go Go.Proofs

def fn0 (f : FuncId) : C := .fn f []
def sWait : ByteArray := sB [119, 97, 105, 116]
def sFill : ByteArray := sB [102, 105, 108, 108]
def sDrain : ByteArray := sB [100, 114, 97, 105, 110]
def sStart : ByteArray := sB [115, 116, 97, 114, 116]
def sStop : ByteArray := sB [115, 116, 111, 112]
def actOf (s : ByteArray) (f1 f2 : FuncId) : List C := [cs s, fn0 f1, fn0 f2]
def aWait : List C := actOf sWait 211 212
def aFill : List C := actOf sFill 213 214
def aDrain : List C := actOf sDrain 215 212
def aStart : List C := actOf sStart 216 212
def aStop : List C := actOf sStop 217 212
def actsL : List C := aWait ++ (aFill ++ (aDrain ++ (aStart ++ aStop)))
def actZ : List C := [cs emptyB, .lit .nilFunc, .lit .nilFunc]
def kindA (a : List C) (b : Bool) : A := .tup [(true, a), (false, [.lit (.bool b)])]
def kindT (s : ByteArray) : Tree A := .node (sWait.toList == s.toList) (.leaf (kindA aWait true)) (.node (sFill.toList == s.toList) (.leaf (kindA aFill true)) (.node (sDrain.toList == s.toList) (.leaf (kindA aDrain true)) (.node (sStart.toList == s.toList) (.leaf (kindA aStart true)) (.node (sStop.toList == s.toList) (.leaf (kindA aStop true)) (.leaf (kindA actZ false))))))
def hpK : Hp := hpL [⟨true, 0, .flat actsL⟩] [(0, 0)]
theorem kind_run (s : ByteArray) : (evFun Tryz.prog (tabOf tb_recv) modes 100 129 [str s] hpK).run = ((kindT s).bind fun v => .leaf (v, hpK)).run := by kernel_rfl
def actsAt (h : Hp) : Bool := match lookupN h.globs 0 with
  | some id => match h.blk id with
    | some ⟨true, _, .flat cs⟩ => eqDs cs actsL
    | _ => false
  | none => false
def specKind : Spec := fun args h => match args with
  | [.one (.lit (.string s))] => match actsAt h with
    | true => (kindT s).bind fun v => .leaf (v, h)
    | false => .fail 310
  | _ => .fail 310
theorem sub_acts2 {t : TypeId} : Sub ⟨true, t, .flat actsL⟩ ⟨true, 0, .flat actsL⟩ := ⟨rfl, (fun h => by cases h), fun E E' arr h i c hc => by
  obtain ⟨x, hx, hi⟩ := h i c hc
  refine ⟨x, hx, hi.noId ?_⟩
  have hm : c ∈ actsL := by rw [nth_eq] at hc; exact List.mem_of_getElem? hc
  have key : ∀ c ∈ actsL, c.noId = true := by decide
  exact key c hm, fun _ cs1 e => ⟨_, rfl, by injection e with e; rw [e]⟩, rfl⟩
theorem kindT_noId {s : ByteArray} {v : A} (h : (kindT s).run = some v) : v.noId = true := by
  unfold kindT at h
  revert h
  generalize (sWait.toList == s.toList) = b1; generalize (sFill.toList == s.toList) = b2; generalize (sDrain.toList == s.toList) = b3; generalize (sStart.toList == s.toList) = b4; generalize (sStop.toList == s.toList) = b5
  intro h
  cases b1 <;> cases b2 <;> cases b3 <;> cases b4 <;> cases b5 <;> (simp only [Tree.run, Option.some.injEq] at h; subst h; rfl)
theorem eqDs_self {a b : List C} (h : eqDs a b = true) : a = b := eqDs_eq h
theorem specKind_ok : SpecOk Tryz.prog 129 specKind := by
  intro args h v h' hr E w vals rh hargs
  unfold specKind at hr
  split at hr
  · rename_i s
    split at hr
    · rename_i hacts
      obtain ⟨a, ha, hr⟩ := Tree.bind_some hr
      simp only [Tree.run, Option.some.injEq, Prod.mk.injEq] at hr
      obtain ⟨rfl, rfl⟩ := hr
      unfold actsAt at hacts
      split at hacts
      · rename_i id hg
        split at hacts
        · rename_i et cs' hb
          obtain rfl := eqDs_eq hacts
          have hrun : (evFun Tryz.prog (tabOf tb_recv) modes 100 129 [str s] hpK).run = some (a, hpK) := by
            rw [kind_run, Tree.run_bind, ha]; rfl
          refine lift_sub (ids := [id]) (call_ev tb_recv_ok hrun) (kindT_noId ha) rh rfl (by decide) (by simp) (fun k id' b1 hk hb1 => ?_) (fun g k hgk => ?_) (all_noId hargs rfl)
          · cases k with
            | zero =>
              simp only [nth, Option.some.injEq] at hk hb1
              subst hk; subst hb1
              exact ⟨_, hb, sub_acts2⟩
            | succ k => simp [nth] at hk
          · unfold lookupN at hgk
            split at hgk
            · rename_i e
              have := Nat.eq_of_beq_eq_true e
              subst this
              simp only [Option.some.injEq] at hgk
              subst hgk
              exact ⟨id, rfl, hg⟩
            · cases hgk
        · cases hacts
      · cases hacts
    · cases hr
  · cases hr
end Go.Ev
