/- Contracts of the functions on numbers, rules and receivers, each over a table of those before it. Conditions: as the tables' entries say. (Printed by gen_vec.py.) -/
import Derived.Test.YtlpchgidkibbeaaGreatDoorSmall
import Derived.Test.YtlpchgidkibbeaaGreatDoorIns0
namespace Go.Ev
open Go Go.Proofs

def tbBase : List (FuncId × Spec) := [(83, specFirst), (90, specFirst)] ++ tabS
theorem tbBase_ok : TabOk Tryz.prog (tabOf tbBase) := tab_cons (tab_cons tabS_ok fiQ_ok) fiS_ok

/-! ### spillage/salt.when -/
def whenSV : List Int → List Bool → List ByteArray → A
  | [e], [b], [] => int (errIf b e)
  | _, _, _ => int 0
theorem whenS_run (e : Int) (b : Bool) : (evFun Tryz.prog (tabOf tbBase) modes 100 86 (encA [.b, .i] [e] [b] []) hp0).run = some (int (errIf b e), hp0) := by
  have h : (evFun Tryz.prog (tabOf tbBase) modes 100 86 (encA [.b, .i] [e] [b] []) hp0).run = (Tree.node b (.leaf (int e, hp0)) (.leaf (int 0, hp0))).run := by kernel_rfl
  rw [h]; cases b <;> rfl
theorem whenS_ok : SpecOk Tryz.prog 86 (specI [.b, .i] (fun _ _ _ => true) whenSV) := specI_ok (fun l m n => by unfold whenSV; split <;> rfl) fun l m n hl hm hn _ => match l, m, n, hl, hm, hn with
  | [e], [b], [], _, _, _ => call_ev tbBase_ok (whenS_run e b)
def tb_whenS : List (FuncId × Spec) := (86, specI [.b, .i] (fun _ _ _ => true) whenSV) :: tbBase
theorem tb_whenS_ok : TabOk Tryz.prog (tabOf tb_whenS) := tab_cons tbBase_ok whenS_ok

/-! ### spillage/spillageref01.When -/
def whenQV : List Int → List Bool → List ByteArray → A
  | [e], [b], [] => int (errIf b e)
  | _, _, _ => int 0
theorem whenQ_run (e : Int) (b : Bool) : (evFun Tryz.prog (tabOf tb_whenS) modes 100 48 (encA [.b, .i] [e] [b] []) hp0).run = some (int (errIf b e), hp0) := by
  have h : (evFun Tryz.prog (tabOf tb_whenS) modes 100 48 (encA [.b, .i] [e] [b] []) hp0).run = (Tree.node b (.leaf (int e, hp0)) (.leaf (int 0, hp0))).run := by kernel_rfl
  rw [h]; cases b <;> rfl
theorem whenQ_ok : SpecOk Tryz.prog 48 (specI [.b, .i] (fun _ _ _ => true) whenQV) := specI_ok (fun l m n => by unfold whenQV; split <;> rfl) fun l m n hl hm hn _ => match l, m, n, hl, hm, hn with
  | [e], [b], [], _, _, _ => call_ev tb_whenS_ok (whenQ_run e b)
def tb_whenQ : List (FuncId × Spec) := (48, specI [.b, .i] (fun _ _ _ => true) whenQV) :: tb_whenS
theorem tb_whenQ_ok : TabOk Tryz.prog (tabOf tb_whenQ) := tab_cons tb_whenS_ok whenQ_ok

/-! ### spillage/salt.within -/
def withinSV : List Int → List Bool → List ByteArray → A
  | [n, lo, hi], [], [] => int (wW n lo hi)
  | _, _, _ => int 0
theorem withinS_run (n lo hi : Int) : (evFun Tryz.prog (tabOf tb_whenQ) modes 100 103 (encA [.i, .i, .i] [n, lo, hi] [] []) hp0).run = some (int (wW n lo hi), hp0) := by
  have h : (evFun Tryz.prog (tabOf tb_whenQ) modes 100 103 (encA [.i, .i, .i] [n, lo, hi] [] []) hp0).run = (Tree.node (decide (n < lo)) (.leaf (int (errIf true 3), hp0)) (.leaf (int (errIf (decide (hi < n)) 3), hp0))).run := by kernel_rfl
  rw [h]; unfold wW; cases decide (n < lo) <;> rfl
theorem withinS_ok : SpecOk Tryz.prog 103 (specI [.i, .i, .i] (fun _ _ _ => true) withinSV) := specI_ok (fun l m n => by unfold withinSV; split <;> rfl) fun l m n hl hm hn _ => match l, m, n, hl, hm, hn with
  | [n, lo, hi], [], [], _, _, _ => call_ev tb_whenQ_ok (withinS_run n lo hi)
def tb_withinS : List (FuncId × Spec) := (103, specI [.i, .i, .i] (fun _ _ _ => true) withinSV) :: tb_whenQ
theorem tb_withinS_ok : TabOk Tryz.prog (tabOf tb_withinS) := tab_cons tb_whenQ_ok withinS_ok

/-! ### spillage/spillageref01.CheckRange -/
def rangeQV : List Int → List Bool → List ByteArray → A
  | [n, lo, hi], [], [] => int (wW n lo hi)
  | _, _, _ => int 0
theorem rangeQ_run (n lo hi : Int) : (evFun Tryz.prog (tabOf tb_withinS) modes 100 49 (encA [.i, .i, .i] [n, lo, hi] [] []) hp0).run = some (int (wW n lo hi), hp0) := by
  have h : (evFun Tryz.prog (tabOf tb_withinS) modes 100 49 (encA [.i, .i, .i] [n, lo, hi] [] []) hp0).run = (Tree.node (decide (n < lo)) (.leaf (int (errIf true 3), hp0)) (.leaf (int (errIf (decide (hi < n)) 3), hp0))).run := by kernel_rfl
  rw [h]; unfold wW; cases decide (n < lo) <;> rfl
theorem rangeQ_ok : SpecOk Tryz.prog 49 (specI [.i, .i, .i] (fun _ _ _ => true) rangeQV) := specI_ok (fun l m n => by unfold rangeQV; split <;> rfl) fun l m n hl hm hn _ => match l, m, n, hl, hm, hn with
  | [n, lo, hi], [], [], _, _, _ => call_ev tb_withinS_ok (rangeQ_run n lo hi)
def tb_rangeQ : List (FuncId × Spec) := (49, specI [.i, .i, .i] (fun _ _ _ => true) rangeQV) :: tb_withinS
theorem tb_rangeQ_ok : TabOk Tryz.prog (tabOf tb_rangeQ) := tab_cons tb_withinS_ok rangeQ_ok

/-! ### spillage/salt.CheckRules -/
def rulesV : List Int → List Bool → List ByteArray → A
  | [c, l, f, r, h, k], [], [] => int (rulesErr c l f r h k)
  | _, _, _ => int 0
theorem rules_run (c l f r h k : Int) : (evFun Tryz.prog (tabOf tb_rangeQ) modes 100 84 (encA [.v 6] [c, l, f, r, h, k] [] []) hp0).run = some (int (rulesErr c l f r h k), hp0) := by
  have hh : (evFun Tryz.prog (tabOf tb_rangeQ) modes 100 84 (encA [.v 6] [c, l, f, r, h, k] [] []) hp0).run = (Tree.node (rangesW c l f r h k != 0) (.leaf (int (rangesW c l f r h k), hp0)) (.node (decide (r ≤ f)) (.node (decide (k < f)) (.leaf (int (firstZ [errIf true 11, errIf true 34]), hp0)) (.leaf (int (firstZ [errIf true 11, errIf (decide (h < k)) 34]), hp0))) (.node (decide (k < f)) (.leaf (int (firstZ [errIf (decide (h ≤ r)) 11, errIf true 34]), hp0)) (.leaf (int (firstZ [errIf (decide (h ≤ r)) 11, errIf (decide (h < k)) 34]), hp0))))).run := by kernel_rfl
  rw [hh]; unfold rulesErr ordersW; cases rangesW c l f r h k != 0 <;> cases decide (r ≤ f) <;> cases decide (k < f) <;> rfl
theorem rules_ok : SpecOk Tryz.prog 84 (specI [.v 6] (fun _ _ _ => true) rulesV) := specI_ok (fun l m n => by unfold rulesV; split <;> rfl) fun l m n hl hm hn _ => match l, m, n, hl, hm, hn with
  | [c, l, f, r, h, k], [], [], _, _, _ => call_ev tb_rangeQ_ok (rules_run c l f r h k)
def tb_rules : List (FuncId × Spec) := (84, specI [.v 6] (fun _ _ _ => true) rulesV) :: tb_rangeQ
theorem tb_rules_ok : TabOk Tryz.prog (tabOf tb_rules) := tab_cons tb_rangeQ_ok rules_ok

/-! ### spillage/salt.CheckReceiver -/
def recvV : List Int → List Bool → List ByteArray → A
  | [n], [], [s] => int (recvErr s n)
  | _, _, _ => int 0
theorem recv_run (n : Int) (s : ByteArray) : (evFun Tryz.prog (tabOf tb_rules) modes 100 85 (encA [.sv 1] [n] [] [s]) hp0).run = some (int (recvErr s n), hp0) := by
  have h : (evFun Tryz.prog (tabOf tb_rules) modes 100 85 (encA [.sv 1] [n] [] [s]) hp0).run = (Tree.node (s == sEmpty) (.leaf (int (firstZ [errIf false 13, wW n 0 1000000000]), hp0)) (.node (s == sFilled) (.leaf (int (firstZ [errIf false 13, wW n 0 1000000000]), hp0)) (.node (s == sRunning) (.leaf (int (firstZ [errIf false 13, wW n 0 1000000000]), hp0)) (.leaf (int (firstZ [errIf true 13, wW n 0 1000000000]), hp0))))).run := by kernel_rfl
  rw [h]; unfold recvErr known; cases s == sEmpty <;> cases s == sFilled <;> cases s == sRunning <;> rfl
theorem recv_ok : SpecOk Tryz.prog 85 (specI [.sv 1] (fun _ _ _ => true) recvV) := specI_ok (fun l m n => by unfold recvV; split <;> rfl) fun l m n hl hm hn _ => match l, m, n, hl, hm, hn with
  | [n], [], [s], _, _, _ => call_ev tb_rules_ok (recv_run n s)
def tb_recv : List (FuncId × Spec) := (85, specI [.sv 1] (fun _ _ _ => true) recvV) :: tb_rules
theorem tb_recv_ok : TabOk Tryz.prog (tabOf tb_recv) := tab_cons tb_rules_ok recv_ok
end Go.Ev
