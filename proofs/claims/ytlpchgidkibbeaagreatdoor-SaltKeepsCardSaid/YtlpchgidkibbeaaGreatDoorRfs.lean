/- The reference's checks of rules, receivers and steps, and its states after acts, as entries. Conditions: none. -/
import Derived.Test.YtlpchgidkibbeaaGreatDoorStp
namespace Go.Ev
open Go Go.Proofs
def eqS (a b : ByteArray) : Bool := a.toList == b.toList
def qrulesErr (c l f r h k : Int) : Int := firstZ [wW c 1 1000, wW l 0 100000, wW f 0 1000, wW r 0 1000, wW h 0 1000, wW k 0 1000, errIf (decide (r ≤ f) || decide (h ≤ r)) 11, errIf (decide (k < f) || decide (h < k)) 34]
def qrulesV : List Int → List Bool → List ByteArray → A
 | [c, l, f, r, h, k], [], [] => int (qrulesErr c l f r h k)
 | _, _, _ => int 0
theorem qrules_run (c l f r h k : Int) : (evFun Tryz.prog (tabOf tb_hold) modes 100 17 (encA [.v 6] [c, l, f, r, h, k] [] []) hp0).run = some (int (qrulesErr c l f r h k), hp0) := by
 have hh : (evFun Tryz.prog (tabOf tb_hold) modes 100 17 (encA [.v 6] [c, l, f, r, h, k] [] []) hp0).run =
  (Tree.node (decide (r ≤ f)) (.node (decide (k < f)) (.leaf (int (firstZ [wW c 1 1000, wW l 0 100000, wW f 0 1000, wW r 0 1000, wW h 0 1000, wW k 0 1000, errIf true 11, errIf true 34]), hp0)) (.leaf (int (firstZ [wW c 1 1000, wW l 0 100000, wW f 0 1000, wW r 0 1000, wW h 0 1000, wW k 0 1000, errIf true 11, errIf (decide (h < k)) 34]), hp0)))
   (.node (decide (k < f)) (.leaf (int (firstZ [wW c 1 1000, wW l 0 100000, wW f 0 1000, wW r 0 1000, wW h 0 1000, wW k 0 1000, errIf (decide (h ≤ r)) 11, errIf true 34]), hp0)) (.leaf (int (firstZ [wW c 1 1000, wW l 0 100000, wW f 0 1000, wW r 0 1000, wW h 0 1000, wW k 0 1000, errIf (decide (h ≤ r)) 11, errIf (decide (h < k)) 34]), hp0)))).run := by kernel_rfl
 rw [hh]
 unfold qrulesErr
 cases decide (r ≤ f) <;> cases decide (k < f) <;> rfl
theorem qrules_ok : SpecOk Tryz.prog 17 (specI [.v 6] (fun _ _ _ => true) qrulesV) := specI_ok (fun l m n => by unfold qrulesV; split <;> rfl) fun l m n hl hm hn _ => match l, m, n, hl, hm, hn with
 | [c, l, f, r, h, k], [], [], _, _, _ => call_ev tb_hold_ok (qrules_run c l f r h k)
def tb_qrules : List (FuncId × Spec) := (17, specI [.v 6] (fun _ _ _ => true) qrulesV) :: tb_hold
theorem tb_qrules_ok : TabOk Tryz.prog (tabOf tb_qrules) := tab_cons tb_hold_ok qrules_ok
def qrecvErr (s : ByteArray) (n : Int) : Int := firstZ [errIf (!(eqS s sEmpty) && (!(eqS s sFilled) && !(eqS s sRunning))) 13, wW n 0 1000000000]
def qrecvV : List Int → List Bool → List ByteArray → A
 | [n], [], [s] => int (qrecvErr s n)
 | _, _, _ => int 0
theorem qrecv_run (n : Int) (s : ByteArray) : (evFun Tryz.prog (tabOf tb_qrules) modes 100 18 (encA [.sv 1] [n] [] [s]) hp0).run = some (int (qrecvErr s n), hp0) := by
 have hh : (evFun Tryz.prog (tabOf tb_qrules) modes 100 18 (encA [.sv 1] [n] [] [s]) hp0).run =
  (Tree.node (!(eqS s sEmpty)) (.node (!(eqS s sFilled)) (.leaf (int (firstZ [errIf (!(eqS s sRunning)) 13, wW n 0 1000000000]), hp0)) (.leaf (int (firstZ [errIf false 13, wW n 0 1000000000]), hp0))) (.leaf (int (firstZ [errIf false 13, wW n 0 1000000000]), hp0))).run := by kernel_rfl
 rw [hh]
 unfold qrecvErr
 cases eqS s sEmpty <;> cases eqS s sFilled <;> cases eqS s sRunning <;> rfl
theorem qrecv_ok : SpecOk Tryz.prog 18 (specI [.sv 1] (fun _ _ _ => true) qrecvV) := specI_ok (fun l m n => by unfold qrecvV; split <;> rfl) fun l m n hl hm hn _ => match l, m, n, hl, hm, hn with
 | [n], [], [s], _, _, _ => call_ev tb_qrules_ok (qrecv_run n s)
def tb_qrecv : List (FuncId × Spec) := (18, specI [.sv 1] (fun _ _ _ => true) qrecvV) :: tb_qrules
theorem tb_qrecv_ok : TabOk Tryz.prog (tabOf tb_qrecv) := tab_cons tb_qrules_ok qrecv_ok
def qisAct (s : ByteArray) : Bool := eqS s sWait || (eqS s sFill || (eqS s sDrain || (eqS s sStart || eqS s sStop)))
def qstepErr (c light flow : Int) (s : ByteArray) : Int := firstZ [errIf (!qisAct s) 13, wW light 0 1000000, wW flow 0 c]
def qstepV : List Int → List Bool → List ByteArray → A
 | [c, _, _, _, _, _, light, flow], [], [s] => int (qstepErr c light flow s)
 | _, _, _ => int 0
theorem qstep_run (c l f r h k light flow : Int) (s : ByteArray) : (evFun Tryz.prog (tabOf tb_qrecv) modes 100 122 (encA [.v 6, .sv 2] [c, l, f, r, h, k, light, flow] [] [s]) hp0).run = some (int (qstepErr c light flow s), hp0) := by
 have hh : (evFun Tryz.prog (tabOf tb_qrecv) modes 100 122 (encA [.v 6, .sv 2] [c, l, f, r, h, k, light, flow] [] [s]) hp0).run =
  (Tree.node (eqS s sWait) (.leaf (int (firstZ [errIf false 13, wW light 0 1000000, wW flow 0 c]), hp0)) (.node (eqS s sFill) (.leaf (int (firstZ [errIf false 13, wW light 0 1000000, wW flow 0 c]), hp0)) (.node (eqS s sDrain) (.leaf (int (firstZ [errIf false 13, wW light 0 1000000, wW flow 0 c]), hp0)) (.node (eqS s sStart) (.leaf (int (firstZ [errIf false 13, wW light 0 1000000, wW flow 0 c]), hp0)) (.leaf (int (firstZ [errIf (!(eqS s sStop)) 13, wW light 0 1000000, wW flow 0 c]), hp0)))))).run := by kernel_rfl
 rw [hh]
 unfold qstepErr qisAct
 cases eqS s sWait <;> cases eqS s sFill <;> cases eqS s sDrain <;> cases eqS s sStart <;> cases eqS s sStop <;> rfl
theorem qstep_ok : SpecOk Tryz.prog 122 (specI [.v 6, .sv 2] (fun _ _ _ => true) qstepV) := specI_ok (fun l m n => by unfold qstepV; split <;> rfl) fun l m n hl hm hn _ => match l, m, n, hl, hm, hn with
 | [c, l, f, r, h, k, light, flow], [], [s], _, _, _ => call_ev tb_qrecv_ok (qstep_run c l f r h k light flow s)
def tb_qstep : List (FuncId × Spec) := (122, specI [.v 6, .sv 2] (fun _ _ _ => true) qstepV) :: tb_qrecv
theorem tb_qstep_ok : TabOk Tryz.prog (tabOf tb_qstep) := tab_cons tb_qrecv_ok qstep_ok
def pairV (s : ByteArray) (b : Bool) : A := .tup [(false, [cs s]), (false, [.lit (.bool b)])]
def afS (s act : ByteArray) : Tree (A × Hp) := .node (eqS act sStart) (.leaf (pairV sRunning (eqS s sFilled), hp0)) (.leaf (pairV sRunning false, hp0))
def afD (s act : ByteArray) : Tree (A × Hp) := .node (eqS act sDrain) (.node (eqS s sFilled) (.leaf (pairV sEmpty true, hp0)) (afS s act)) (afS s act)
def afZ (s act : ByteArray) : Tree (A × Hp) := .node (eqS act sStop) (.node (eqS s sRunning) (.leaf (pairV sFilled true, hp0)) (afD s act)) (afD s act)
def afT (s act : ByteArray) : Tree (A × Hp) := .node (eqS act sWait) (.leaf (pairV s true, hp0)) (.node (eqS act sFill) (.node (eqS s sEmpty) (.leaf (pairV sFilled true, hp0)) (afZ s act)) (afZ s act))
def afNs (s act : ByteArray) : ByteArray := match eqS act sWait with
 | true => s
 | false => match (eqS act sFill && eqS s sEmpty) || (eqS act sStop && eqS s sRunning) with
  | true => sFilled
  | false => match eqS act sDrain && eqS s sFilled with
   | true => sEmpty
   | false => sRunning
def afIs (s act : ByteArray) : Bool := match eqS act sWait with
 | true => true
 | false => match (eqS act sFill && eqS s sEmpty) || (eqS act sStop && eqS s sRunning) with
  | true => true
  | false => match eqS act sDrain && eqS s sFilled with
   | true => true
   | false => eqS act sStart && eqS s sFilled
def afV : List Int → List Bool → List ByteArray → A
 | [], [], [s, act] => pairV (afNs s act) (afIs s act)
 | _, _, _ => int 0
theorem af_run (s act : ByteArray) : (evFun Tryz.prog (tabOf tb_qstep) modes 100 131 (encA [.s, .s] [] [] [s, act]) hp0).run = some (pairV (afNs s act) (afIs s act), hp0) := by
 have hh : (evFun Tryz.prog (tabOf tb_qstep) modes 100 131 (encA [.s, .s] [] [] [s, act]) hp0).run = (afT s act).run := by kernel_rfl
 rw [hh]
 unfold afT afZ afD afS afNs afIs
 cases eqS act sWait <;> cases eqS act sFill <;> cases eqS act sStop <;> cases eqS act sDrain <;> cases eqS act sStart <;> cases eqS s sEmpty <;> cases eqS s sRunning <;> cases eqS s sFilled <;> rfl
theorem af_ok : SpecOk Tryz.prog 131 (specI [.s, .s] (fun _ _ _ => true) afV) := specI_ok (fun l m n => by unfold afV; split <;> rfl) fun l m n hl hm hn _ => match l, m, n, hl, hm, hn with
 | [], [], [s, act], _, _, _ => call_ev tb_qstep_ok (af_run s act)
def tb_af : List (FuncId × Spec) := (131, specI [.s, .s] (fun _ _ _ => true) afV) :: tb_qstep
theorem tb_af_ok : TabOk Tryz.prog (tabOf tb_af) := tab_cons tb_qstep_ok af_ok
def floorW (a b : Int) : Int := match decide (a < w64 (w64 (a.tdiv b) * b)) with | true => w64 (w64 (a.tdiv b) - 1) | false => w64 (a.tdiv b)
def floorV : List Int → List Bool → List ByteArray → A
 | [a, b], [], [] => int (floorW a b)
 | _, _, _ => int 0
def floorK : List Int → List Bool → List ByteArray → Bool
 | [_, b], [], [] => !(b == 0)
 | _, _, _ => false
theorem floor_run (a b : Int) (hok : (!(b == 0)) = true) : (evFun Tryz.prog (tabOf tb_af) modes 100 133 (encA [.i, .i] [a, b] [] []) hp0).run = some (int (floorW a b), hp0) := by
 have hh : (evFun Tryz.prog (tabOf tb_af) modes 100 133 (encA [.i, .i] [a, b] [] []) hp0).run = (Tree.need (!(b == 0)) (.node (decide (a < w64 (w64 (a.tdiv b) * b))) (.leaf (int (w64 (w64 (a.tdiv b) - 1)), hp0)) (.leaf (int (w64 (a.tdiv b)), hp0)))).run := by kernel_rfl
 rw [hh]
 unfold floorW
 simp only [hok, Tree.run]
 cases decide (a < w64 (w64 (a.tdiv b) * b)) <;> rfl
theorem floor_ok : SpecOk Tryz.prog 133 (specI [.i, .i] floorK floorV) := specI_ok (fun l m n => by unfold floorV; split <;> rfl) fun l m n hl hm hn hok => match l, m, n, hl, hm, hn, hok with
 | [a, b], [], [], _, _, _, hok => call_ev tb_af_ok (floor_run a b hok)
def tb_floor : List (FuncId × Spec) := (133, specI [.i, .i] floorK floorV) :: tb_af
theorem tb_floor_ok : TabOk Tryz.prog (tabOf tb_floor) := tab_cons tb_af_ok floor_ok
end Go.Ev
namespace Go.Ev
open Go Go.Proofs
def triV (ns : ByteArray) (out taken lost e : Int) : A := .tup [(true, [cs ns, ci out]), (true, [ci taken, ci lost]), (false, [ci e])]
theorem triV_same (ns : ByteArray) (out taken lost e : Int) : eqA (triV ns out taken lost e) (triV ns out taken lost e) = true := by
 simp [triV, eqA, eqVs, eqCs, eqC, cs, ci]
def zif (e : Int) (x : Int) : Int := match e != 0 with | true => 0 | false => x
def sif (e : Int) (s : ByteArray) : ByteArray := match e != 0 with | true => emptyB | false => s
def pE0 (c l f r h k heat light flow : Int) (s act : ByteArray) : Int := firstZ [rulesErr c l f r h k, recvErr s heat, stepErr c light flow act]
def pE1 (c l f r h k heat light flow : Int) (s act : ByteArray) : Int := eW (actNs s act) (actB1 s act) (actB2 act c r heat) c l f h k heat light flow
def pE (c l f r h k heat light flow : Int) (s act : ByteArray) : Int := match pE0 c l f r h k heat light flow s act != 0 with | true => pE0 c l f r h k heat light flow s act | false => pE1 c l f r h k heat light flow s act
def pOk (c l f r h k heat light flow : Int) (s act : ByteArray) : A :=
 triV (sif (pE1 c l f r h k heat light flow s act) (actNs s act)) (zif (pE1 c l f r h k heat light flow s act) (outW c l k heat light flow)) (zif (pE1 c l f r h k heat light flow s act) (takenW c k heat flow)) (zif (pE1 c l f r h k heat light flow s act) (lostW l (heat1W c k heat light flow))) (pE1 c l f r h k heat light flow s act)
def steppedV : List Int → List Bool → List ByteArray → A
 | [c, l, f, r, h, k, heat, light, flow], [], [s, act] =>
  triV (sif (pE c l f r h k heat light flow s act) (actNs s act)) (zif (pE c l f r h k heat light flow s act) (outW c l k heat light flow)) (zif (pE c l f r h k heat light flow s act) (takenW c k heat flow)) (zif (pE c l f r h k heat light flow s act) (lostW l (heat1W c k heat light flow))) (pE c l f r h k heat light flow s act)
 | _, _, _ => int 0
theorem stepped_run (c l f r h k heat light flow : Int) (s act : ByteArray) : (evFun Tryz.prog (tabOf tb_floor) modes 100 78 (encA [.v 6, .sv 1, .sv 2] [c, l, f, r, h, k, heat, light, flow] [] [s, act]) hpK).run = some (steppedV [c, l, f, r, h, k, heat, light, flow] [] [s, act], hpK) := by
 have hh : (evFun Tryz.prog (tabOf tb_floor) modes 100 78 (encA [.v 6, .sv 1, .sv 2] [c, l, f, r, h, k, heat, light, flow] [] [s, act]) hpK).run =
  (Tree.node (pE0 c l f r h k heat light flow s act != 0) (.leaf (triV emptyB 0 0 0 (pE0 c l f r h k heat light flow s act), hpK)) (.need (!(c == 0) && isAct act) (.need (eqA (pOk c l f r h k heat light flow s act) (pOk c l f r h k heat light flow s act)) (.need (eqA (pOk c l f r h k heat light flow s act) (pOk c l f r h k heat light flow s act)) (.leaf (pOk c l f r h k heat light flow s act, hpK)))))).run := by kernel_rfl
 rw [hh]
 unfold steppedV pE
 cases he : pE0 c l f r h k heat light flow s act != 0 with
 | true => simp only [Tree.run, he, sif, zif]
 | false =>
  have h0 := ne0 he
  obtain ⟨h1, h2⟩ := first0 h0
  obtain ⟨_, h3⟩ := first0 h2
  obtain ⟨h4, _⟩ := first0 h3
  obtain ⟨h5, _⟩ := first0 h4
  have hc := rules_c h1
  have ha : isAct act = true := by simpa using errIf0 (by decide) h5
  have hs : eqA (pOk c l f r h k heat light flow s act) (pOk c l f r h k heat light flow s act) = true := triV_same _ _ _ _ _
  simp only [hc, ha, hs, Tree.run, Bool.and_self, he]
  rfl
theorem stepped_ok : SpecOk Tryz.prog 78 (specG [.v 6, .sv 1, .sv 2] (fun _ _ _ => true) steppedV) := specG_ok (fun l m n => by unfold steppedV; split <;> rfl) fun l m n hl hm hn _ => match l, m, n, hl, hm, hn with
 | [c, l, f, r, h, k, heat, light, flow], [], [s, act], _, _, _ => call_ev tb_floor_ok (stepped_run c l f r h k heat light flow s act)
def tb_stepped : List (FuncId × Spec) := (78, specG [.v 6, .sv 1, .sv 2] (fun _ _ _ => true) steppedV) :: tb_floor
theorem tb_stepped_ok : TabOk Tryz.prog (tabOf tb_stepped) := tab_cons tb_floor_ok stepped_ok
def qTaken (c k heat flow : Int) (run : Bool) : Int := match run with | true => w64 (floorW (w64 (flow * heat)) c - w64 (flow * k)) | false => 0
def heatT (heat light t : Int) : Int := w64 (w64 (heat - t) + light)
def outT (l ht : Int) : Int := w64 (ht - lostW l ht)
def qE1 (s act : ByteArray) (fv pv : Bool) (c r heat : Int) : Int := firstZ [errIf (!afIs s act) 22, errIf (match fv with | true => decide (degW c heat < r) | false => false) 34, errIf (match pv with | true => nrW (afNs s act) | false => false) 21]
def qE2 (qv : Bool) (c l f h ht : Int) : Int := firstZ [errIf (decide (1000000000 < outT l ht)) 4, errIf (match qv with | true => decide (degW c (outT l ht) < f) | false => false) 31, errIf (decide (h < degW c (outT l ht))) 23]
def qY (ns : ByteArray) (qv : Bool) (c l f h ht t : Int) : Tree (A × Hp) := .node (qE2 qv c l f h ht != 0) (.leaf (triV emptyB 0 0 0 (qE2 qv c l f h ht), hp0)) (.need (eqA (triV ns (outT l ht) t (lostW l ht) 0) (triV ns (outT l ht) t (lostW l ht) 0)) (.need (eqA (triV ns (outT l ht) t (lostW l ht) 0) (triV ns (outT l ht) t (lostW l ht) 0)) (.leaf (triV ns (outT l ht) t (lostW l ht) 0, hp0))))
def qR (ns : ByteArray) (c l f h heat light t : Int) : Tree (A × Hp) := .need (!(c == 0)) (.node (neW ns) (qY ns true c l f h (heatT heat light t) t) (qY ns false c l f h (heatT heat light t) t))
def qC (s act : ByteArray) (fv pv : Bool) (c l f r h k heat light flow : Int) : Tree (A × Hp) := .node (qE1 s act fv pv c r heat != 0) (.leaf (triV emptyB 0 0 0 (qE1 s act fv pv c r heat), hp0)) (.node (eqS (afNs s act) sRunning) (.need (!(c == 0)) (qR (afNs s act) c l f h heat light (qTaken c k heat flow true))) (qR (afNs s act) c l f h heat light (qTaken c k heat flow false)))
def qB (s act : ByteArray) (fv : Bool) (c l f r h k heat light flow : Int) : Tree (A × Hp) := .node (decide (0 < flow)) (qC s act fv true c l f r h k heat light flow) (qC s act fv false c l f r h k heat light flow)
theorem qst_tree (c l f r h k heat light flow : Int) (s act : ByteArray) : (evFun Tryz.prog (tabOf tb_stepped) modes 100 92 (encA [.v 6, .sv 1, .sv 2] [c, l, f, r, h, k, heat, light, flow] [] [s, act]) hp0).run =
  (Tree.node (eqS act sFill) (.need (!(c == 0)) (qB s act true c l f r h k heat light flow)) (qB s act false c l f r h k heat light flow)).run := by kernel_rfl
def qT (c k heat flow : Int) (s act : ByteArray) : Int := qTaken c k heat flow (eqS (afNs s act) sRunning)
def qH (c k heat light flow : Int) (s act : ByteArray) : Int := heatT heat light (qT c k heat flow s act)
def qErr1 (c r heat flow : Int) (s act : ByteArray) : Int := qE1 s act (eqS act sFill) (decide (0 < flow)) c r heat
def qErr2 (c l f h k heat light flow : Int) (s act : ByteArray) : Int := qE2 (neW (afNs s act)) c l f h (qH c k heat light flow s act)
def qErr (c l f r h k heat light flow : Int) (s act : ByteArray) : Int := match qErr1 c r heat flow s act != 0 with | true => qErr1 c r heat flow s act | false => qErr2 c l f h k heat light flow s act
def qstV : List Int → List Bool → List ByteArray → A
 | [c, l, f, r, h, k, heat, light, flow], [], [s, act] =>
  triV (sif (qErr c l f r h k heat light flow s act) (afNs s act)) (zif (qErr c l f r h k heat light flow s act) (outT l (qH c k heat light flow s act))) (zif (qErr c l f r h k heat light flow s act) (qT c k heat flow s act)) (zif (qErr c l f r h k heat light flow s act) (lostW l (qH c k heat light flow s act))) (qErr c l f r h k heat light flow s act)
 | _, _, _ => int 0
def qstK : List Int → List Bool → List ByteArray → Bool
 | [c, _, _, _, _, _, _, _, _], [], [_, _] => !(c == 0)
 | _, _, _ => false
theorem qR_val (ns : ByteArray) (c l f h heat light t : Int) (hc : (!(c == 0)) = true) : (qR ns c l f h heat light t).run = some (triV (sif (qE2 (neW ns) c l f h (heatT heat light t)) ns) (zif (qE2 (neW ns) c l f h (heatT heat light t)) (outT l (heatT heat light t))) (zif (qE2 (neW ns) c l f h (heatT heat light t)) t) (zif (qE2 (neW ns) c l f h (heatT heat light t)) (lostW l (heatT heat light t))) (qE2 (neW ns) c l f h (heatT heat light t)), hp0) := by
 unfold qR
 simp only [hc, Tree.run]
 have key : ∀ qv, (qY ns qv c l f h (heatT heat light t) t).run = some (triV (sif (qE2 qv c l f h (heatT heat light t)) ns) (zif (qE2 qv c l f h (heatT heat light t)) (outT l (heatT heat light t))) (zif (qE2 qv c l f h (heatT heat light t)) t) (zif (qE2 qv c l f h (heatT heat light t)) (lostW l (heatT heat light t))) (qE2 qv c l f h (heatT heat light t)), hp0) := fun qv => by
  unfold qY
  cases he : qE2 qv c l f h (heatT heat light t) != 0 with
  | true => simp only [Tree.run, he, sif, zif]
  | false => simp only [triV_same, Tree.run, ne0 he]; rfl
 cases neW ns with
 | true => exact key true
 | false => exact key false
theorem qC_val (c l f r h k heat light flow : Int) (s act : ByteArray) (hc : (!(c == 0)) = true) : (qC s act (eqS act sFill) (decide (0 < flow)) c l f r h k heat light flow).run = some (qstV [c, l, f, r, h, k, heat, light, flow] [] [s, act], hp0) := by
 unfold qC qstV qErr qErr1 qErr2 qH qT
 have hR := fun t => qR_val (afNs s act) c l f h heat light t hc
 cases he : qE1 s act (eqS act sFill) (decide (0 < flow)) c r heat != 0 with
 | true => simp only [Tree.run, he, sif, zif]
 | false =>
  simp only [Tree.run, hc, hR, he]
  cases eqS (afNs s act) sRunning <;> rfl
theorem qst_run (c l f r h k heat light flow : Int) (s act : ByteArray) (hc : (!(c == 0)) = true) : (evFun Tryz.prog (tabOf tb_stepped) modes 100 92 (encA [.v 6, .sv 1, .sv 2] [c, l, f, r, h, k, heat, light, flow] [] [s, act]) hp0).run = some (qstV [c, l, f, r, h, k, heat, light, flow] [] [s, act], hp0) := by
 rw [qst_tree, ← qC_val c l f r h k heat light flow s act hc]
 have key : ∀ fv, (qB s act fv c l f r h k heat light flow).run = (qC s act fv (decide (0 < flow)) c l f r h k heat light flow).run := fun fv => by
  unfold qB
  cases decide (0 < flow) <;> rfl
 simp only [Tree.run, hc, key]
 cases eqS act sFill <;> rfl
theorem qst_ok : SpecOk Tryz.prog 92 (specI [.v 6, .sv 1, .sv 2] qstK qstV) := specI_ok (fun l m n => by unfold qstV; split <;> rfl) fun l m n hl hm hn hok => match l, m, n, hl, hm, hn, hok with
 | [c, l, f, r, h, k, heat, light, flow], [], [s, act], _, _, _, hok => call_ev tb_stepped_ok (qst_run c l f r h k heat light flow s act hok)
def tb_qst : List (FuncId × Spec) := (92, specI [.v 6, .sv 1, .sv 2] qstK qstV) :: tb_stepped
theorem tb_qst_ok : TabOk Tryz.prog (tabOf tb_qst) := tab_cons tb_stepped_ok qst_ok
end Go.Ev
