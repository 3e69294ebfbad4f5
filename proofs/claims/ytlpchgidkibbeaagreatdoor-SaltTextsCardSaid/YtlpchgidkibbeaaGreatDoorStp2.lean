/- Stepped, the program's and the reference's, as entries. Conditions: as the entries say. -/
import Derived.Test.YtlpchgidkibbeaaGreatDoorRef
namespace Go.Ev
open Go Go.Proofs

theorem eqC_refl {c : C} (h : (match c with | .lit (.int _ _) => true | .lit (.bool _) => true | .lit (.string _) => true | _ => false) = true) : eqC c c = true := by
  unfold eqC
  split at h
  · simp
  · simp
  · simp
  · cases h
/-- a receiver, a balance and an error -/
def triV (ns : ByteArray) (out taken lost e : Int) : A := .tup [(true, [cs ns, ci out]), (true, [ci taken, ci lost]), (false, [ci e])]
theorem triV_same (ns : ByteArray) (out taken lost e : Int) : eqA (triV ns out taken lost e) (triV ns out taken lost e) = true := by
  simp [triV, eqA, eqVs, eqCs, eqC, cs, ci]
def zif (e : Int) (x : Int) : Int := match e != 0 with | true => 0 | false => x
def sif (e : Int) (s : ByteArray) : ByteArray := match e != 0 with | true => emptyB | false => s

/-! ### Stepped of the program -/
def pE0 (c l f r h k heat light flow : Int) (s act : ByteArray) : Int := firstZ [rulesErr c l f r h k, recvErr s heat, stepErr c light flow act]
def pE1 (c l f r h k heat light flow : Int) (s act : ByteArray) : Int := eW (actNs s act) (actB1 s act) (actB2 act c r heat) c l f h k heat light flow
def pE (c l f r h k heat light flow : Int) (s act : ByteArray) : Int := match pE0 c l f r h k heat light flow s act != 0 with | true => pE0 c l f r h k heat light flow s act | false => pE1 c l f r h k heat light flow s act
def pOk (c l f r h k heat light flow : Int) (s act : ByteArray) : A :=
  triV (sif (pE1 c l f r h k heat light flow s act) (actNs s act)) (zif (pE1 c l f r h k heat light flow s act) (outW c l k heat light flow)) (zif (pE1 c l f r h k heat light flow s act) (takenW c k heat flow)) (zif (pE1 c l f r h k heat light flow s act) (lostW l (heat1W c k heat light flow))) (pE1 c l f r h k heat light flow s act)
def steppedV : List Int → List Bool → List ByteArray → A
  | [c, l, f, r, h, k, heat, light, flow], [], [s, act] =>
    triV (sif (pE c l f r h k heat light flow s act) (actNs s act)) (zif (pE c l f r h k heat light flow s act) (outW c l k heat light flow)) (zif (pE c l f r h k heat light flow s act) (takenW c k heat flow)) (zif (pE c l f r h k heat light flow s act) (lostW l (heat1W c k heat light flow))) (pE c l f r h k heat light flow s act)
  | _, _, _ => int 0
theorem stepped_run (c l f r h k heat light flow : Int) (s act : ByteArray) : (evFun Tryz.prog (tabOf tb_floor) modes 100 78 (encA [.v 6, .sv 1, .sv 2] [c, l, f, r, h, k, heat, light, flow] [] [s, act]) hpK).run = some (steppedV [c, l, f, r, h, k, heat, light, flow] [] [s, act], hpK) := by
  have hh : (evFun Tryz.prog (tabOf tb_floor) modes 100 78 (encA [.v 6, .sv 1, .sv 2] [c, l, f, r, h, k, heat, light, flow] [] [s, act]) hpK).run =
    (Tree.node (pE0 c l f r h k heat light flow s act != 0) (.leaf (triV emptyB 0 0 0 (pE0 c l f r h k heat light flow s act), hpK)) (.need (!(c == 0) && isAct act) (.need (eqA (pOk c l f r h k heat light flow s act) (pOk c l f r h k heat light flow s act)) (.need (eqA (pOk c l f r h k heat light flow s act) (pOk c l f r h k heat light flow s act)) (.leaf (pOk c l f r h k heat light flow s act, hpK)))))).run := by kernel_rfl
  rw [hh]
  unfold steppedV pE
  cases he : pE0 c l f r h k heat light flow s act != 0 with
  | true => simp only [Tree.run, he, sif, zif]
  | false =>
    have h0 := ne0 he
    obtain ⟨h1, h2⟩ := first0 h0
    obtain ⟨_, h3⟩ := first0 h2
    obtain ⟨h4, _⟩ := first0 h3
    obtain ⟨h5, _⟩ := first0 h4
    have hc := rules_c h1
    have ha : isAct act = true := by simpa using errIf0 (by decide) h5
    have hs : eqA (pOk c l f r h k heat light flow s act) (pOk c l f r h k heat light flow s act) = true := triV_same _ _ _ _ _
    simp only [hc, ha, hs, Tree.run, Bool.and_self, he]
    rfl
theorem stepped_ok : SpecOk Tryz.prog 78 (specG [.v 6, .sv 1, .sv 2] (fun _ _ _ => true) steppedV) := specG_ok (fun l m n => by unfold steppedV; split <;> rfl) fun l m n hl hm hn _ => match l, m, n, hl, hm, hn with
  | [c, l, f, r, h, k, heat, light, flow], [], [s, act], _, _, _ => call_ev tb_floor_ok (stepped_run c l f r h k heat light flow s act)
def tb_stepped : List (FuncId × Spec) := (78, specG [.v 6, .sv 1, .sv 2] (fun _ _ _ => true) steppedV) :: tb_floor
theorem tb_stepped_ok : TabOk Tryz.prog (tabOf tb_stepped) := tab_cons tb_floor_ok stepped_ok

/-! ### Stepped of the reference -/
def qTaken (c k heat flow : Int) (run : Bool) : Int := match run with | true => w64 (floorW (w64 (flow * heat)) c - w64 (flow * k)) | false => 0
def heatT (heat light t : Int) : Int := w64 (w64 (heat - t) + light)
def outT (l ht : Int) : Int := w64 (ht - lostW l ht)
def qE1 (s act : ByteArray) (fv pv : Bool) (c r heat : Int) : Int := firstZ [errIf (!afIs s act) 22, errIf (match fv with | true => decide (degW c heat < r) | false => false) 34, errIf (match pv with | true => nrW (afNs s act) | false => false) 21]
def qE2 (qv : Bool) (c l f h ht : Int) : Int := firstZ [errIf (decide (1000000000 < outT l ht)) 4, errIf (match qv with | true => decide (degW c (outT l ht) < f) | false => false) 31, errIf (decide (h < degW c (outT l ht))) 23]
def qY (ns : ByteArray) (qv : Bool) (c l f h ht t : Int) : Tree (A × Hp) := .node (qE2 qv c l f h ht != 0) (.leaf (triV emptyB 0 0 0 (qE2 qv c l f h ht), hp0)) (.need (eqA (triV ns (outT l ht) t (lostW l ht) 0) (triV ns (outT l ht) t (lostW l ht) 0)) (.need (eqA (triV ns (outT l ht) t (lostW l ht) 0) (triV ns (outT l ht) t (lostW l ht) 0)) (.leaf (triV ns (outT l ht) t (lostW l ht) 0, hp0))))
def qR (ns : ByteArray) (c l f h heat light t : Int) : Tree (A × Hp) := .need (!(c == 0)) (.node (neW ns) (qY ns true c l f h (heatT heat light t) t) (qY ns false c l f h (heatT heat light t) t))
def qC (s act : ByteArray) (fv pv : Bool) (c l f r h k heat light flow : Int) : Tree (A × Hp) := .node (qE1 s act fv pv c r heat != 0) (.leaf (triV emptyB 0 0 0 (qE1 s act fv pv c r heat), hp0)) (.node (eqS (afNs s act) sRunning) (.need (!(c == 0)) (qR (afNs s act) c l f h heat light (qTaken c k heat flow true))) (qR (afNs s act) c l f h heat light (qTaken c k heat flow false)))
def qB (s act : ByteArray) (fv : Bool) (c l f r h k heat light flow : Int) : Tree (A × Hp) := .node (decide (0 < flow)) (qC s act fv true c l f r h k heat light flow) (qC s act fv false c l f r h k heat light flow)
theorem qst_tree (c l f r h k heat light flow : Int) (s act : ByteArray) : (evFun Tryz.prog (tabOf tb_stepped) modes 100 92 (encA [.v 6, .sv 1, .sv 2] [c, l, f, r, h, k, heat, light, flow] [] [s, act]) hp0).run =
    (Tree.node (eqS act sFill) (.need (!(c == 0)) (qB s act true c l f r h k heat light flow)) (qB s act false c l f r h k heat light flow)).run := by kernel_rfl
def qT (c k heat flow : Int) (s act : ByteArray) : Int := qTaken c k heat flow (eqS (afNs s act) sRunning)
def qH (c k heat light flow : Int) (s act : ByteArray) : Int := heatT heat light (qT c k heat flow s act)
def qErr1 (c r heat flow : Int) (s act : ByteArray) : Int := qE1 s act (eqS act sFill) (decide (0 < flow)) c r heat
def qErr2 (c l f h k heat light flow : Int) (s act : ByteArray) : Int := qE2 (neW (afNs s act)) c l f h (qH c k heat light flow s act)
def qErr (c l f r h k heat light flow : Int) (s act : ByteArray) : Int := match qErr1 c r heat flow s act != 0 with | true => qErr1 c r heat flow s act | false => qErr2 c l f h k heat light flow s act
def qstV : List Int → List Bool → List ByteArray → A
  | [c, l, f, r, h, k, heat, light, flow], [], [s, act] =>
    triV (sif (qErr c l f r h k heat light flow s act) (afNs s act)) (zif (qErr c l f r h k heat light flow s act) (outT l (qH c k heat light flow s act))) (zif (qErr c l f r h k heat light flow s act) (qT c k heat flow s act)) (zif (qErr c l f r h k heat light flow s act) (lostW l (qH c k heat light flow s act))) (qErr c l f r h k heat light flow s act)
  | _, _, _ => int 0
def qstK : List Int → List Bool → List ByteArray → Bool
  | [c, _, _, _, _, _, _, _, _], [], [_, _] => !(c == 0)
  | _, _, _ => false
theorem qR_val (ns : ByteArray) (c l f h heat light t : Int) (hc : (!(c == 0)) = true) : (qR ns c l f h heat light t).run = some (triV (sif (qE2 (neW ns) c l f h (heatT heat light t)) ns) (zif (qE2 (neW ns) c l f h (heatT heat light t)) (outT l (heatT heat light t))) (zif (qE2 (neW ns) c l f h (heatT heat light t)) t) (zif (qE2 (neW ns) c l f h (heatT heat light t)) (lostW l (heatT heat light t))) (qE2 (neW ns) c l f h (heatT heat light t)), hp0) := by
  unfold qR
  simp only [hc, Tree.run]
  have key : ∀ qv, (qY ns qv c l f h (heatT heat light t) t).run = some (triV (sif (qE2 qv c l f h (heatT heat light t)) ns) (zif (qE2 qv c l f h (heatT heat light t)) (outT l (heatT heat light t))) (zif (qE2 qv c l f h (heatT heat light t)) t) (zif (qE2 qv c l f h (heatT heat light t)) (lostW l (heatT heat light t))) (qE2 qv c l f h (heatT heat light t)), hp0) := fun qv => by
    unfold qY
    cases he : qE2 qv c l f h (heatT heat light t) != 0 with
    | true => simp only [Tree.run, he, sif, zif]
    | false => simp only [triV_same, Tree.run, ne0 he]; rfl
  cases neW ns with
  | true => exact key true
  | false => exact key false
theorem qC_val (c l f r h k heat light flow : Int) (s act : ByteArray) (hc : (!(c == 0)) = true) : (qC s act (eqS act sFill) (decide (0 < flow)) c l f r h k heat light flow).run = some (qstV [c, l, f, r, h, k, heat, light, flow] [] [s, act], hp0) := by
  unfold qC qstV qErr qErr1 qErr2 qH qT
  have hR := fun t => qR_val (afNs s act) c l f h heat light t hc
  cases he : qE1 s act (eqS act sFill) (decide (0 < flow)) c r heat != 0 with
  | true => simp only [Tree.run, he, sif, zif]
  | false =>
    simp only [Tree.run, hc, hR, he]
    cases eqS (afNs s act) sRunning <;> rfl
theorem qst_run (c l f r h k heat light flow : Int) (s act : ByteArray) (hc : (!(c == 0)) = true) : (evFun Tryz.prog (tabOf tb_stepped) modes 100 92 (encA [.v 6, .sv 1, .sv 2] [c, l, f, r, h, k, heat, light, flow] [] [s, act]) hp0).run = some (qstV [c, l, f, r, h, k, heat, light, flow] [] [s, act], hp0) := by
  rw [qst_tree, ← qC_val c l f r h k heat light flow s act hc]
  have key : ∀ fv, (qB s act fv c l f r h k heat light flow).run = (qC s act fv (decide (0 < flow)) c l f r h k heat light flow).run := fun fv => by
    unfold qB
    cases decide (0 < flow) <;> rfl
  simp only [Tree.run, hc, key]
  cases eqS act sFill <;> rfl
theorem qst_ok : SpecOk Tryz.prog 92 (specI [.v 6, .sv 1, .sv 2] qstK qstV) := specI_ok (fun l m n => by unfold qstV; split <;> rfl) fun l m n hl hm hn hok => match l, m, n, hl, hm, hn, hok with
  | [c, l, f, r, h, k, heat, light, flow], [], [s, act], _, _, _, hok => call_ev tb_stepped_ok (qst_run c l f r h k heat light flow s act hok)
def tb_qst : List (FuncId × Spec) := (92, specI [.v 6, .sv 1, .sv 2] qstK qstV) :: tb_stepped
theorem tb_qst_ok : TabOk Tryz.prog (tabOf tb_qst) := tab_cons tb_stepped_ok qst_ok
end Go.Ev
