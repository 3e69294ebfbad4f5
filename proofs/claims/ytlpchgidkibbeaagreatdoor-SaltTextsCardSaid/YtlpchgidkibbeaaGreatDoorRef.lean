/- The reference's checks of rules, receivers and steps, and its states after acts, as entries. Conditions: none. -/
import Derived.Test.YtlpchgidkibbeaaGreatDoorStepd
namespace Go.Ev
open Go Go.Proofs

def eqS (a b : ByteArray) : Bool := a.toList == b.toList
theorem eqS_comm (a b : ByteArray) : eqS a b = eqS b a := by
  unfold eqS
  cases h : a.toList == b.toList <;> cases h' : b.toList == a.toList <;> simp_all

/-! ### CheckRules -/
def qrulesErr (c l f r h k : Int) : Int := firstZ [wW c 1 1000, wW l 0 100000, wW f 0 1000, wW r 0 1000, wW h 0 1000, wW k 0 1000, errIf (decide (r ≤ f) || decide (h ≤ r)) 11, errIf (decide (k < f) || decide (h < k)) 34]
def qrulesV : List Int → List Bool → List ByteArray → A
  | [c, l, f, r, h, k], [], [] => int (qrulesErr c l f r h k)
  | _, _, _ => int 0
theorem qrules_run (c l f r h k : Int) : (evFun Tryz.prog (tabOf tb_hold) modes 100 17 (encA [.v 6] [c, l, f, r, h, k] [] []) hp0).run = some (int (qrulesErr c l f r h k), hp0) := by
  have hh : (evFun Tryz.prog (tabOf tb_hold) modes 100 17 (encA [.v 6] [c, l, f, r, h, k] [] []) hp0).run =
    (Tree.node (decide (r ≤ f)) (.node (decide (k < f)) (.leaf (int (firstZ [wW c 1 1000, wW l 0 100000, wW f 0 1000, wW r 0 1000, wW h 0 1000, wW k 0 1000, errIf true 11, errIf true 34]), hp0)) (.leaf (int (firstZ [wW c 1 1000, wW l 0 100000, wW f 0 1000, wW r 0 1000, wW h 0 1000, wW k 0 1000, errIf true 11, errIf (decide (h < k)) 34]), hp0)))
      (.node (decide (k < f)) (.leaf (int (firstZ [wW c 1 1000, wW l 0 100000, wW f 0 1000, wW r 0 1000, wW h 0 1000, wW k 0 1000, errIf (decide (h ≤ r)) 11, errIf true 34]), hp0)) (.leaf (int (firstZ [wW c 1 1000, wW l 0 100000, wW f 0 1000, wW r 0 1000, wW h 0 1000, wW k 0 1000, errIf (decide (h ≤ r)) 11, errIf (decide (h < k)) 34]), hp0)))).run := by kernel_rfl
  rw [hh]
  unfold qrulesErr
  cases decide (r ≤ f) <;> cases decide (k < f) <;> rfl
theorem qrules_ok : SpecOk Tryz.prog 17 (specI [.v 6] (fun _ _ _ => true) qrulesV) := specI_ok (fun l m n => by unfold qrulesV; split <;> rfl) fun l m n hl hm hn _ => match l, m, n, hl, hm, hn with
  | [c, l, f, r, h, k], [], [], _, _, _ => call_ev tb_hold_ok (qrules_run c l f r h k)
def tb_qrules : List (FuncId × Spec) := (17, specI [.v 6] (fun _ _ _ => true) qrulesV) :: tb_hold
theorem tb_qrules_ok : TabOk Tryz.prog (tabOf tb_qrules) := tab_cons tb_hold_ok qrules_ok

/-! ### CheckReceiver -/
def qrecvErr (s : ByteArray) (n : Int) : Int := firstZ [errIf (!(eqS s sEmpty) && (!(eqS s sFilled) && !(eqS s sRunning))) 13, wW n 0 1000000000]
def qrecvV : List Int → List Bool → List ByteArray → A
  | [n], [], [s] => int (qrecvErr s n)
  | _, _, _ => int 0
theorem qrecv_run (n : Int) (s : ByteArray) : (evFun Tryz.prog (tabOf tb_qrules) modes 100 18 (encA [.sv 1] [n] [] [s]) hp0).run = some (int (qrecvErr s n), hp0) := by
  have hh : (evFun Tryz.prog (tabOf tb_qrules) modes 100 18 (encA [.sv 1] [n] [] [s]) hp0).run =
    (Tree.node (!(eqS s sEmpty)) (.node (!(eqS s sFilled)) (.leaf (int (firstZ [errIf (!(eqS s sRunning)) 13, wW n 0 1000000000]), hp0)) (.leaf (int (firstZ [errIf false 13, wW n 0 1000000000]), hp0))) (.leaf (int (firstZ [errIf false 13, wW n 0 1000000000]), hp0))).run := by kernel_rfl
  rw [hh]
  unfold qrecvErr
  cases eqS s sEmpty <;> cases eqS s sFilled <;> cases eqS s sRunning <;> rfl
theorem qrecv_ok : SpecOk Tryz.prog 18 (specI [.sv 1] (fun _ _ _ => true) qrecvV) := specI_ok (fun l m n => by unfold qrecvV; split <;> rfl) fun l m n hl hm hn _ => match l, m, n, hl, hm, hn with
  | [n], [], [s], _, _, _ => call_ev tb_qrules_ok (qrecv_run n s)
def tb_qrecv : List (FuncId × Spec) := (18, specI [.sv 1] (fun _ _ _ => true) qrecvV) :: tb_qrules
theorem tb_qrecv_ok : TabOk Tryz.prog (tabOf tb_qrecv) := tab_cons tb_qrules_ok qrecv_ok

/-! ### CheckStep -/
def qisAct (s : ByteArray) : Bool := eqS s sWait || (eqS s sFill || (eqS s sDrain || (eqS s sStart || eqS s sStop)))
def qstepErr (c light flow : Int) (s : ByteArray) : Int := firstZ [errIf (!qisAct s) 13, wW light 0 1000000, wW flow 0 c]
def qstepV : List Int → List Bool → List ByteArray → A
  | [c, _, _, _, _, _, light, flow], [], [s] => int (qstepErr c light flow s)
  | _, _, _ => int 0
theorem qstep_run (c l f r h k light flow : Int) (s : ByteArray) : (evFun Tryz.prog (tabOf tb_qrecv) modes 100 122 (encA [.v 6, .sv 2] [c, l, f, r, h, k, light, flow] [] [s]) hp0).run = some (int (qstepErr c light flow s), hp0) := by
  have hh : (evFun Tryz.prog (tabOf tb_qrecv) modes 100 122 (encA [.v 6, .sv 2] [c, l, f, r, h, k, light, flow] [] [s]) hp0).run =
    (Tree.node (eqS s sWait) (.leaf (int (firstZ [errIf false 13, wW light 0 1000000, wW flow 0 c]), hp0)) (.node (eqS s sFill) (.leaf (int (firstZ [errIf false 13, wW light 0 1000000, wW flow 0 c]), hp0)) (.node (eqS s sDrain) (.leaf (int (firstZ [errIf false 13, wW light 0 1000000, wW flow 0 c]), hp0)) (.node (eqS s sStart) (.leaf (int (firstZ [errIf false 13, wW light 0 1000000, wW flow 0 c]), hp0)) (.leaf (int (firstZ [errIf (!(eqS s sStop)) 13, wW light 0 1000000, wW flow 0 c]), hp0)))))).run := by kernel_rfl
  rw [hh]
  unfold qstepErr qisAct
  cases eqS s sWait <;> cases eqS s sFill <;> cases eqS s sDrain <;> cases eqS s sStart <;> cases eqS s sStop <;> rfl
theorem qstep_ok : SpecOk Tryz.prog 122 (specI [.v 6, .sv 2] (fun _ _ _ => true) qstepV) := specI_ok (fun l m n => by unfold qstepV; split <;> rfl) fun l m n hl hm hn _ => match l, m, n, hl, hm, hn with
  | [c, l, f, r, h, k, light, flow], [], [s], _, _, _ => call_ev tb_qrecv_ok (qstep_run c l f r h k light flow s)
def tb_qstep : List (FuncId × Spec) := (122, specI [.v 6, .sv 2] (fun _ _ _ => true) qstepV) :: tb_qrecv
theorem tb_qstep_ok : TabOk Tryz.prog (tabOf tb_qstep) := tab_cons tb_qrecv_ok qstep_ok

/-! ### after -/
def pairV (s : ByteArray) (b : Bool) : A := .tup [(false, [cs s]), (false, [.lit (.bool b)])]
def afS (s act : ByteArray) : Tree (A × Hp) := .node (eqS act sStart) (.leaf (pairV sRunning (eqS s sFilled), hp0)) (.leaf (pairV sRunning false, hp0))
def afD (s act : ByteArray) : Tree (A × Hp) := .node (eqS act sDrain) (.node (eqS s sFilled) (.leaf (pairV sEmpty true, hp0)) (afS s act)) (afS s act)
def afZ (s act : ByteArray) : Tree (A × Hp) := .node (eqS act sStop) (.node (eqS s sRunning) (.leaf (pairV sFilled true, hp0)) (afD s act)) (afD s act)
def afT (s act : ByteArray) : Tree (A × Hp) := .node (eqS act sWait) (.leaf (pairV s true, hp0)) (.node (eqS act sFill) (.node (eqS s sEmpty) (.leaf (pairV sFilled true, hp0)) (afZ s act)) (afZ s act))
def afNs (s act : ByteArray) : ByteArray := match eqS act sWait with
  | true => s
  | false => match (eqS act sFill && eqS s sEmpty) || (eqS act sStop && eqS s sRunning) with
    | true => sFilled
    | false => match eqS act sDrain && eqS s sFilled with
      | true => sEmpty
      | false => sRunning
def afIs (s act : ByteArray) : Bool := match eqS act sWait with
  | true => true
  | false => match (eqS act sFill && eqS s sEmpty) || (eqS act sStop && eqS s sRunning) with
    | true => true
    | false => match eqS act sDrain && eqS s sFilled with
      | true => true
      | false => eqS act sStart && eqS s sFilled
def afV : List Int → List Bool → List ByteArray → A
  | [], [], [s, act] => pairV (afNs s act) (afIs s act)
  | _, _, _ => int 0
theorem af_run (s act : ByteArray) : (evFun Tryz.prog (tabOf tb_qstep) modes 100 131 (encA [.s, .s] [] [] [s, act]) hp0).run = some (pairV (afNs s act) (afIs s act), hp0) := by
  have hh : (evFun Tryz.prog (tabOf tb_qstep) modes 100 131 (encA [.s, .s] [] [] [s, act]) hp0).run = (afT s act).run := by kernel_rfl
  rw [hh]
  unfold afT afZ afD afS afNs afIs
  cases eqS act sWait <;> cases eqS act sFill <;> cases eqS act sStop <;> cases eqS act sDrain <;> cases eqS act sStart <;> cases eqS s sEmpty <;> cases eqS s sRunning <;> cases eqS s sFilled <;> rfl
theorem af_ok : SpecOk Tryz.prog 131 (specI [.s, .s] (fun _ _ _ => true) afV) := specI_ok (fun l m n => by unfold afV; split <;> rfl) fun l m n hl hm hn _ => match l, m, n, hl, hm, hn with
  | [], [], [s, act], _, _, _ => call_ev tb_qstep_ok (af_run s act)
def tb_af : List (FuncId × Spec) := (131, specI [.s, .s] (fun _ _ _ => true) afV) :: tb_qstep
theorem tb_af_ok : TabOk Tryz.prog (tabOf tb_af) := tab_cons tb_qstep_ok af_ok

/-! ### Floor -/
def floorW (a b : Int) : Int := match decide (a < w64 (w64 (a.tdiv b) * b)) with | true => w64 (w64 (a.tdiv b) - 1) | false => w64 (a.tdiv b)
def floorV : List Int → List Bool → List ByteArray → A
  | [a, b], [], [] => int (floorW a b)
  | _, _, _ => int 0
def floorK : List Int → List Bool → List ByteArray → Bool
  | [_, b], [], [] => !(b == 0)
  | _, _, _ => false
theorem floor_run (a b : Int) (hok : (!(b == 0)) = true) : (evFun Tryz.prog (tabOf tb_af) modes 100 133 (encA [.i, .i] [a, b] [] []) hp0).run = some (int (floorW a b), hp0) := by
  have hh : (evFun Tryz.prog (tabOf tb_af) modes 100 133 (encA [.i, .i] [a, b] [] []) hp0).run = (Tree.need (!(b == 0)) (.node (decide (a < w64 (w64 (a.tdiv b) * b))) (.leaf (int (w64 (w64 (a.tdiv b) - 1)), hp0)) (.leaf (int (w64 (a.tdiv b)), hp0)))).run := by kernel_rfl
  rw [hh]
  unfold floorW
  simp only [hok, Tree.run]
  cases decide (a < w64 (w64 (a.tdiv b) * b)) <;> rfl
theorem floor_ok : SpecOk Tryz.prog 133 (specI [.i, .i] floorK floorV) := specI_ok (fun l m n => by unfold floorV; split <;> rfl) fun l m n hl hm hn hok => match l, m, n, hl, hm, hn, hok with
  | [a, b], [], [], _, _, _, hok => call_ev tb_af_ok (floor_run a b hok)
def tb_floor : List (FuncId × Spec) := (133, specI [.i, .i] floorK floorV) :: tb_af
theorem tb_floor_ok : TabOk Tryz.prog (tabOf tb_floor) := tab_cons tb_af_ok floor_ok
end Go.Ev
