/- Contracts of the functions on vectors and cones, each over a table of those before it. Conditions: as the tables' entries say. (Printed by gen_vec.py.) -/
import Derived.Test.YtjckcdpjibfacaaGreatSmall
namespace Go.Ev
open Go Go.Proofs
def tbBase : List (FuncId × Spec) := [(37, specFirst), (65, specFirst), (23, specFirst), (79, specCommon), (74, specDivisor)] ++ libTab
theorem tbBase_ok : TabOk Tryz.prog (tabOf tbBase) := tab_cons (tab_cons (tab_cons (tab_cons (tab_cons libTab_ok specDivisor_ok) specCommon_ok) fiQ_ok) fiL_ok) fiS_ok
def whenSV : List Int → List Bool → A
 | [e], [b] => int (errIf b e)
 | _, _ => int 0
theorem whenS_run (e : Int) (b : Bool) : (evFun Tryz.prog (tabOf tbBase) modes 100 44 (encA [.b, .i] [e] [b]) hp0).run = some (int (errIf b e), hp0) := by
 have h : (evFun Tryz.prog (tabOf tbBase) modes 100 44 (encA [.b, .i] [e] [b]) hp0).run = (Tree.node b (.leaf (int e, hp0)) (.leaf (int 0, hp0))).run := by kernel_rfl
 rw [h]; cases b <;> rfl
theorem whenS_ok : SpecOk Tryz.prog 44 (specI [.b, .i] (fun _ _ => true) whenSV) := specI_ok (fun l m => by unfold whenSV; split <;> rfl) fun l m hl hm _ => match l, m, hl, hm with
 | [e], [b], _, _ => call_ev tbBase_ok (whenS_run e b)
def tb_whenS : List (FuncId × Spec) := (44, specI [.b, .i] (fun _ _ => true) whenSV) :: tbBase
theorem tb_whenS_ok : TabOk Tryz.prog (tabOf tb_whenS) := tab_cons tbBase_ok whenS_ok
def whenLV : List Int → List Bool → A
 | [e], [b] => int (errIf b e)
 | _, _ => int 0
theorem whenL_run (e : Int) (b : Bool) : (evFun Tryz.prog (tabOf tb_whenS) modes 100 66 (encA [.b, .i] [e] [b]) hp0).run = some (int (errIf b e), hp0) := by
 have h : (evFun Tryz.prog (tabOf tb_whenS) modes 100 66 (encA [.b, .i] [e] [b]) hp0).run = (Tree.node b (.leaf (int e, hp0)) (.leaf (int 0, hp0))).run := by kernel_rfl
 rw [h]; cases b <;> rfl
theorem whenL_ok : SpecOk Tryz.prog 66 (specI [.b, .i] (fun _ _ => true) whenLV) := specI_ok (fun l m => by unfold whenLV; split <;> rfl) fun l m hl hm _ => match l, m, hl, hm with
 | [e], [b], _, _ => call_ev tb_whenS_ok (whenL_run e b)
def tb_whenL : List (FuncId × Spec) := (66, specI [.b, .i] (fun _ _ => true) whenLV) :: tb_whenS
theorem tb_whenL_ok : TabOk Tryz.prog (tabOf tb_whenL) := tab_cons tb_whenS_ok whenL_ok
def whenQV : List Int → List Bool → A
 | [e], [b] => int (errIf b e)
 | _, _ => int 0
theorem whenQ_run (e : Int) (b : Bool) : (evFun Tryz.prog (tabOf tb_whenL) modes 100 25 (encA [.b, .i] [e] [b]) hp0).run = some (int (errIf b e), hp0) := by
 have h : (evFun Tryz.prog (tabOf tb_whenL) modes 100 25 (encA [.b, .i] [e] [b]) hp0).run = (Tree.node b (.leaf (int e, hp0)) (.leaf (int 0, hp0))).run := by kernel_rfl
 rw [h]; cases b <;> rfl
theorem whenQ_ok : SpecOk Tryz.prog 25 (specI [.b, .i] (fun _ _ => true) whenQV) := specI_ok (fun l m => by unfold whenQV; split <;> rfl) fun l m hl hm _ => match l, m, hl, hm with
 | [e], [b], _, _ => call_ev tb_whenL_ok (whenQ_run e b)
def tb_whenQ : List (FuncId × Spec) := (25, specI [.b, .i] (fun _ _ => true) whenQV) :: tb_whenL
theorem tb_whenQ_ok : TabOk Tryz.prog (tabOf tb_whenQ) := tab_cons tb_whenL_ok whenQ_ok
def withinSV : List Int → List Bool → A
 | [n, lo, hi], [] => int (wW n lo hi)
 | _, _ => int 0
theorem withinS_run (n lo hi : Int) : (evFun Tryz.prog (tabOf tb_whenQ) modes 100 70 (encA [.i, .i, .i] [n, lo, hi] []) hp0).run = some (int (wW n lo hi), hp0) := by
 have h : (evFun Tryz.prog (tabOf tb_whenQ) modes 100 70 (encA [.i, .i, .i] [n, lo, hi] []) hp0).run = (Tree.node (decide (n < lo)) (.leaf (int (errIf true 3), hp0)) (.leaf (int (errIf (decide (hi < n)) 3), hp0))).run := by kernel_rfl
 rw [h]; unfold wW; cases decide (n < lo) <;> rfl
theorem withinS_ok : SpecOk Tryz.prog 70 (specI [.i, .i, .i] (fun _ _ => true) withinSV) := specI_ok (fun l m => by unfold withinSV; split <;> rfl) fun l m hl hm _ => match l, m, hl, hm with
 | [n, lo, hi], [], _, _ => call_ev tb_whenQ_ok (withinS_run n lo hi)
def tb_withinS : List (FuncId × Spec) := (70, specI [.i, .i, .i] (fun _ _ => true) withinSV) :: tb_whenQ
theorem tb_withinS_ok : TabOk Tryz.prog (tabOf tb_withinS) := tab_cons tb_whenQ_ok withinS_ok
def withinLV : List Int → List Bool → A
 | [n, lo, hi], [] => int (wW n lo hi)
 | _, _ => int 0
theorem withinL_run (n lo hi : Int) : (evFun Tryz.prog (tabOf tb_withinS) modes 100 80 (encA [.i, .i, .i] [n, lo, hi] []) hp0).run = some (int (wW n lo hi), hp0) := by
 have h : (evFun Tryz.prog (tabOf tb_withinS) modes 100 80 (encA [.i, .i, .i] [n, lo, hi] []) hp0).run = (Tree.node (decide (n < lo)) (.leaf (int (errIf true 3), hp0)) (.leaf (int (errIf (decide (hi < n)) 3), hp0))).run := by kernel_rfl
 rw [h]; unfold wW; cases decide (n < lo) <;> rfl
theorem withinL_ok : SpecOk Tryz.prog 80 (specI [.i, .i, .i] (fun _ _ => true) withinLV) := specI_ok (fun l m => by unfold withinLV; split <;> rfl) fun l m hl hm _ => match l, m, hl, hm with
 | [n, lo, hi], [], _, _ => call_ev tb_withinS_ok (withinL_run n lo hi)
def tb_withinL : List (FuncId × Spec) := (80, specI [.i, .i, .i] (fun _ _ => true) withinLV) :: tb_withinS
theorem tb_withinL_ok : TabOk Tryz.prog (tabOf tb_withinL) := tab_cons tb_withinS_ok withinL_ok
def withinQV : List Int → List Bool → A
 | [n, lo, hi], [] => int (wW n lo hi)
 | _, _ => int 0
theorem withinQ_run (n lo hi : Int) : (evFun Tryz.prog (tabOf tb_withinL) modes 100 26 (encA [.i, .i, .i] [n, lo, hi] []) hp0).run = some (int (wW n lo hi), hp0) := by
 have h : (evFun Tryz.prog (tabOf tb_withinL) modes 100 26 (encA [.i, .i, .i] [n, lo, hi] []) hp0).run = (Tree.node (decide (n < lo)) (.leaf (int (errIf true 3), hp0)) (.leaf (int (errIf (decide (hi < n)) 3), hp0))).run := by kernel_rfl
 rw [h]; unfold wW; cases decide (n < lo) <;> rfl
theorem withinQ_ok : SpecOk Tryz.prog 26 (specI [.i, .i, .i] (fun _ _ => true) withinQV) := specI_ok (fun l m => by unfold withinQV; split <;> rfl) fun l m hl hm _ => match l, m, hl, hm with
 | [n, lo, hi], [], _, _ => call_ev tb_withinL_ok (withinQ_run n lo hi)
def tb_withinQ : List (FuncId × Spec) := (26, specI [.i, .i, .i] (fun _ _ => true) withinQV) :: tb_withinL
theorem tb_withinQ_ok : TabOk Tryz.prog (tabOf tb_withinQ) := tab_cons tb_withinL_ok withinQ_ok
def farV : List Int → List Bool → A
 | [x, y, z], [] => int (farW x y z)
 | _, _ => int 0
theorem far_run (x y z : Int) : (evFun Tryz.prog (tabOf tb_withinQ) modes 100 43 (encA [.v 3] [x, y, z] []) hp0).run = some (int (farW x y z), hp0) := by kernel_rfl
theorem far_ok : SpecOk Tryz.prog 43 (specI [.v 3] (fun _ _ => true) farV) := specI_ok (fun l m => by unfold farV; split <;> rfl) fun l m hl hm _ => match l, m, hl, hm with
 | [x, y, z], [], _, _ => call_ev tb_withinQ_ok (far_run x y z)
def tb_far : List (FuncId × Spec) := (43, specI [.v 3] (fun _ _ => true) farV) :: tb_withinQ
theorem tb_far_ok : TabOk Tryz.prog (tabOf tb_far) := tab_cons tb_withinQ_ok far_ok
def vecLV : List Int → List Bool → A
 | [x, y, z], [] => int (vecErr x y z)
 | _, _ => int 0
theorem vecL_run (x y z : Int) : (evFun Tryz.prog (tabOf tb_far) modes 100 68 (encA [.v 3] [x, y, z] []) hp0).run = some (int (vecErr x y z), hp0) := by kernel_rfl
theorem vecL_ok : SpecOk Tryz.prog 68 (specI [.v 3] (fun _ _ => true) vecLV) := specI_ok (fun l m => by unfold vecLV; split <;> rfl) fun l m hl hm _ => match l, m, hl, hm with
 | [x, y, z], [], _, _ => call_ev tb_far_ok (vecL_run x y z)
def tb_vecL : List (FuncId × Spec) := (68, specI [.v 3] (fun _ _ => true) vecLV) :: tb_far
theorem tb_vecL_ok : TabOk Tryz.prog (tabOf tb_vecL) := tab_cons tb_far_ok vecL_ok
def dirLV : List Int → List Bool → A
 | [x, y, z], [] => int (dirErr x y z)
 | _, _ => int 0
theorem dirL_run (x y z : Int) : (evFun Tryz.prog (tabOf tb_vecL) modes 100 75 (encA [.v 3] [x, y, z] []) hp0).run = some (int (dirErr x y z), hp0) := by kernel_rfl
theorem dirL_ok : SpecOk Tryz.prog 75 (specI [.v 3] (fun _ _ => true) dirLV) := specI_ok (fun l m => by unfold dirLV; split <;> rfl) fun l m hl hm _ => match l, m, hl, hm with
 | [x, y, z], [], _, _ => call_ev tb_vecL_ok (dirL_run x y z)
def tb_dirL : List (FuncId × Spec) := (75, specI [.v 3] (fun _ _ => true) dirLV) :: tb_vecL
theorem tb_dirL_ok : TabOk Tryz.prog (tabOf tb_dirL) := tab_cons tb_vecL_ok dirL_ok
def rayV : List Int → List Bool → A
 | [x, y, z], [] => int (rayErr x y z)
 | _, _ => int 0
theorem ray_run (x y z : Int) : (evFun Tryz.prog (tabOf tb_dirL) modes 100 39 (encA [.v 3] [x, y, z] []) hp0).run = some (int (rayErr x y z), hp0) := by kernel_rfl
theorem ray_ok : SpecOk Tryz.prog 39 (specI [.v 3] (fun _ _ => true) rayV) := specI_ok (fun l m => by unfold rayV; split <;> rfl) fun l m hl hm _ => match l, m, hl, hm with
 | [x, y, z], [], _, _ => call_ev tb_dirL_ok (ray_run x y z)
def tb_ray : List (FuncId × Spec) := (39, specI [.v 3] (fun _ _ => true) rayV) :: tb_dirL
theorem tb_ray_ok : TabOk Tryz.prog (tabOf tb_ray) := tab_cons tb_dirL_ok ray_ok
def vecQV : List Int → List Bool → A
 | [x, y, z], [] => int (vecErr x y z)
 | _, _ => int 0
theorem vecQ_run (x y z : Int) : (evFun Tryz.prog (tabOf tb_ray) modes 100 48 (encA [.v 3] [x, y, z] []) hp0).run = some (int (vecErr x y z), hp0) := by kernel_rfl
theorem vecQ_ok : SpecOk Tryz.prog 48 (specI [.v 3] (fun _ _ => true) vecQV) := specI_ok (fun l m => by unfold vecQV; split <;> rfl) fun l m hl hm _ => match l, m, hl, hm with
 | [x, y, z], [], _, _ => call_ev tb_ray_ok (vecQ_run x y z)
def tb_vecQ : List (FuncId × Spec) := (48, specI [.v 3] (fun _ _ => true) vecQV) :: tb_ray
theorem tb_vecQ_ok : TabOk Tryz.prog (tabOf tb_vecQ) := tab_cons tb_ray_ok vecQ_ok
def dirQV : List Int → List Bool → A
 | [x, y, z], [] => int (qdirErr x y z)
 | _, _ => int 0
theorem dirQ_run (x y z : Int) : (evFun Tryz.prog (tabOf tb_vecQ) modes 100 15 (encA [.v 3] [x, y, z] []) hp0).run = some (int (qdirErr x y z), hp0) := by
 have h : (evFun Tryz.prog (tabOf tb_vecQ) modes 100 15 (encA [.v 3] [x, y, z] []) hp0).run = (Tree.node (vecErr x y z != 0) (.leaf (int (vecErr x y z), hp0)) (.leaf (int (errIf (z3 x y z) 6), hp0))).run := by kernel_rfl
 rw [h]; unfold qdirErr; cases (vecErr x y z != 0) <;> rfl
theorem dirQ_ok : SpecOk Tryz.prog 15 (specI [.v 3] (fun _ _ => true) dirQV) := specI_ok (fun l m => by unfold dirQV; split <;> rfl) fun l m hl hm _ => match l, m, hl, hm with
 | [x, y, z], [], _, _ => call_ev tb_vecQ_ok (dirQ_run x y z)
def tb_dirQ : List (FuncId × Spec) := (15, specI [.v 3] (fun _ _ => true) dirQV) :: tb_vecQ
theorem tb_dirQ_ok : TabOk Tryz.prog (tabOf tb_dirQ) := tab_cons tb_vecQ_ok dirQ_ok
def farQV : List Int → List Bool → A
 | [x, y, z, m], [] => int (farErr x y z m)
 | _, _ => int 0
theorem farQ_run (x y z m : Int) : (evFun Tryz.prog (tabOf tb_dirQ) modes 100 49 (encA [.v 3, .i] [x, y, z, m] []) hp0).run = some (int (farErr x y z m), hp0) := by kernel_rfl
theorem farQ_ok : SpecOk Tryz.prog 49 (specI [.v 3, .i] (fun _ _ => true) farQV) := specI_ok (fun l m => by unfold farQV; split <;> rfl) fun l m hl hm _ => match l, m, hl, hm with
 | [x, y, z, m], [], _, _ => call_ev tb_dirQ_ok (farQ_run x y z m)
def tb_farQ : List (FuncId × Spec) := (49, specI [.v 3, .i] (fun _ _ => true) farQV) :: tb_dirQ
theorem tb_farQ_ok : TabOk Tryz.prog (tabOf tb_farQ) := tab_cons tb_dirQ_ok farQ_ok
def rayQV : List Int → List Bool → A
 | [x, y, z], [] => int (qrayErr x y z)
 | _, _ => int 0
theorem rayQ_run (x y z : Int) : (evFun Tryz.prog (tabOf tb_farQ) modes 100 16 (encA [.v 3] [x, y, z] []) hp0).run = some (int (qrayErr x y z), hp0) := by kernel_rfl
theorem rayQ_ok : SpecOk Tryz.prog 16 (specI [.v 3] (fun _ _ => true) rayQV) := specI_ok (fun l m => by unfold rayQV; split <;> rfl) fun l m hl hm _ => match l, m, hl, hm with
 | [x, y, z], [], _, _ => call_ev tb_farQ_ok (rayQ_run x y z)
def tb_rayQ : List (FuncId × Spec) := (16, specI [.v 3] (fun _ _ => true) rayQV) :: tb_farQ
theorem tb_rayQ_ok : TabOk Tryz.prog (tabOf tb_rayQ) := tab_cons tb_farQ_ok rayQ_ok
def dotV : List Int → List Bool → A
 | [ax, ay, az, bx, by', bz], [] => int (dotW ax ay az bx by' bz)
 | _, _ => int 0
theorem dot_run (ax ay az bx by' bz : Int) : (evFun Tryz.prog (tabOf tb_rayQ) modes 100 50 (encA [.v 3, .v 3] [ax, ay, az, bx, by', bz] []) hp0).run = some (int (dotW ax ay az bx by' bz), hp0) := by kernel_rfl
theorem dot_ok : SpecOk Tryz.prog 50 (specI [.v 3, .v 3] (fun _ _ => true) dotV) := specI_ok (fun l m => by unfold dotV; split <;> rfl) fun l m hl hm _ => match l, m, hl, hm with
 | [ax, ay, az, bx, by', bz], [], _, _ => call_ev tb_rayQ_ok (dot_run ax ay az bx by' bz)
def tb_dot : List (FuncId × Spec) := (50, specI [.v 3, .v 3] (fun _ _ => true) dotV) :: tb_rayQ
theorem tb_dot_ok : TabOk Tryz.prog (tabOf tb_dot) := tab_cons tb_rayQ_ok dot_ok
def dotQV : List Int → List Bool → A
 | [ax, ay, az, bx, by', bz], [] => int (dotW ax ay az bx by' bz)
 | _, _ => int 0
theorem dotQ_run (ax ay az bx by' bz : Int) : (evFun Tryz.prog (tabOf tb_dot) modes 100 27 (encA [.v 3, .v 3] [ax, ay, az, bx, by', bz] []) hp0).run = some (int (dotW ax ay az bx by' bz), hp0) := by kernel_rfl
theorem dotQ_ok : SpecOk Tryz.prog 27 (specI [.v 3, .v 3] (fun _ _ => true) dotQV) := specI_ok (fun l m => by unfold dotQV; split <;> rfl) fun l m hl hm _ => match l, m, hl, hm with
 | [ax, ay, az, bx, by', bz], [], _, _ => call_ev tb_dot_ok (dotQ_run ax ay az bx by' bz)
def tb_dotQ : List (FuncId × Spec) := (27, specI [.v 3, .v 3] (fun _ _ => true) dotQV) :: tb_dot
theorem tb_dotQ_ok : TabOk Tryz.prog (tabOf tb_dotQ) := tab_cons tb_dot_ok dotQ_ok
def crossV : List Int → List Bool → A
 | [ax, ay, az, bx, by', bz], [] => vec (crX ax ay az bx by' bz) (crY ax ay az bx by' bz) (crZ ax ay az bx by' bz)
 | _, _ => int 0
theorem cross_run (ax ay az bx by' bz : Int) : (evFun Tryz.prog (tabOf tb_dotQ) modes 100 78 (encA [.v 3, .v 3] [ax, ay, az, bx, by', bz] []) hp0).run = some (vec (crX ax ay az bx by' bz) (crY ax ay az bx by' bz) (crZ ax ay az bx by' bz), hp0) := by kernel_rfl
theorem cross_ok : SpecOk Tryz.prog 78 (specI [.v 3, .v 3] (fun _ _ => true) crossV) := specI_ok (fun l m => by unfold crossV; split <;> rfl) fun l m hl hm _ => match l, m, hl, hm with
 | [ax, ay, az, bx, by', bz], [], _, _ => call_ev tb_dotQ_ok (cross_run ax ay az bx by' bz)
def tb_cross : List (FuncId × Spec) := (78, specI [.v 3, .v 3] (fun _ _ => true) crossV) :: tb_dotQ
theorem tb_cross_ok : TabOk Tryz.prog (tabOf tb_cross) := tab_cons tb_dotQ_ok cross_ok
def oppV : List Int → List Bool → A
 | [ax, ay, az, bx, by', bz], [] => boo (oppW ax ay az bx by' bz)
 | _, _ => int 0
theorem opp_run (ax ay az bx by' bz : Int) : (evFun Tryz.prog (tabOf tb_cross) modes 100 45 (encA [.v 3, .v 3] [ax, ay, az, bx, by', bz] []) hp0).run = some (boo (oppW ax ay az bx by' bz), hp0) := by
 have h : (evFun Tryz.prog (tabOf tb_cross) modes 100 45 (encA [.v 3, .v 3] [ax, ay, az, bx, by', bz] []) hp0).run = (Tree.node (z3 (crX ax ay az bx by' bz) (crY ax ay az bx by' bz) (crZ ax ay az bx by' bz)) (.leaf (boo (decide (dotW ax ay az bx by' bz < 0)), hp0)) (.leaf (boo false, hp0))).run := by kernel_rfl
 rw [h, run_and]; rfl
theorem opp_ok : SpecOk Tryz.prog 45 (specI [.v 3, .v 3] (fun _ _ => true) oppV) := specI_ok (fun l m => by unfold oppV; split <;> rfl) fun l m hl hm _ => match l, m, hl, hm with
 | [ax, ay, az, bx, by', bz], [], _, _ => call_ev tb_cross_ok (opp_run ax ay az bx by' bz)
def tb_opp : List (FuncId × Spec) := (45, specI [.v 3, .v 3] (fun _ _ => true) oppV) :: tb_cross
theorem tb_opp_ok : TabOk Tryz.prog (tabOf tb_opp) := tab_cons tb_cross_ok opp_ok
def coneV : List Int → List Bool → A
 | [x, y, z, num, den], [] => int (coneErr x y z num den)
 | _, _ => int 0
theorem cone_run (x y z num den : Int) : (evFun Tryz.prog (tabOf tb_opp) modes 100 38 (encA [.v 5] [x, y, z, num, den] []) hp0).run = some (int (coneErr x y z num den), hp0) := by kernel_rfl
theorem cone_ok : SpecOk Tryz.prog 38 (specI [.v 5] (fun _ _ => true) coneV) := specI_ok (fun l m => by unfold coneV; split <;> rfl) fun l m hl hm _ => match l, m, hl, hm with
 | [x, y, z, num, den], [], _, _ => call_ev tb_opp_ok (cone_run x y z num den)
def tb_cone : List (FuncId × Spec) := (38, specI [.v 5] (fun _ _ => true) coneV) :: tb_opp
theorem tb_cone_ok : TabOk Tryz.prog (tabOf tb_cone) := tab_cons tb_opp_ok cone_ok
def insV : List Int → List Bool → A
 | [x, y, z, num, den, a, b, c], [] => boo (insW x y z num den a b c)
 | _, _ => int 0
theorem ins_run (x y z num den a b c : Int) : (evFun Tryz.prog (tabOf tb_cone) modes 100 40 (encA [.v 5, .v 3] [x, y, z, num, den, a, b, c] []) hp0).run = some (boo (insW x y z num den a b c), hp0) := by
 have h : (evFun Tryz.prog (tabOf tb_cone) modes 100 40 (encA [.v 5, .v 3] [x, y, z, num, den, a, b, c] []) hp0).run = (Tree.node (decide (0 < dotW x y z a b c)) (.leaf (boo (decide (w64 (w64 (num * dotW x y z x y z) * dotW a b c a b c) ≤ w64 (w64 (dotW x y z a b c * dotW x y z a b c) * den))), hp0)) (.leaf (boo false, hp0))).run := by kernel_rfl
 rw [h, run_and]; rfl
theorem ins_ok : SpecOk Tryz.prog 40 (specI [.v 5, .v 3] (fun _ _ => true) insV) := specI_ok (fun l m => by unfold insV; split <;> rfl) fun l m hl hm _ => match l, m, hl, hm with
 | [x, y, z, num, den, a, b, c], [], _, _ => call_ev tb_cone_ok (ins_run x y z num den a b c)
def tb_ins : List (FuncId × Spec) := (40, specI [.v 5, .v 3] (fun _ _ => true) insV) :: tb_cone
theorem tb_ins_ok : TabOk Tryz.prog (tabOf tb_ins) := tab_cons tb_cone_ok ins_ok
def insideV : List Int → List Bool → A
 | [x, y, z, num, den, a, b, c], [] => .tup [(false, [.lit (.bool (!(firstZ [coneErr x y z num den, rayErr a b c] != 0) && insW x y z num den a b c))]), (false, [ci (firstZ [coneErr x y z num den, rayErr a b c])])]
 | _, _ => int 0
theorem inside_run (x y z num den a b c : Int) : (evFun Tryz.prog (tabOf tb_ins) modes 100 12 (encA [.v 5, .v 3] [x, y, z, num, den, a, b, c] []) hp0).run = some (.tup [(false, [.lit (.bool (!(firstZ [coneErr x y z num den, rayErr a b c] != 0) && insW x y z num den a b c))]), (false, [ci (firstZ [coneErr x y z num den, rayErr a b c])])], hp0) := by
 have h : (evFun Tryz.prog (tabOf tb_ins) modes 100 12 (encA [.v 5, .v 3] [x, y, z, num, den, a, b, c] []) hp0).run = (Tree.node (firstZ [coneErr x y z num den, rayErr a b c] != 0) (.leaf (.tup [(false, [.lit (.bool false)]), (false, [ci (firstZ [coneErr x y z num den, rayErr a b c])])], hp0)) (.leaf (.tup [(false, [.lit (.bool (insW x y z num den a b c))]), (false, [ci 0])], hp0))).run := by kernel_rfl
 rw [h]
 cases he : (firstZ [coneErr x y z num den, rayErr a b c] != 0) with
 | true => rfl
 | false =>
  have : firstZ [coneErr x y z num den, rayErr a b c] = 0 := by simpa using he
  rw [this]; rfl
theorem inside_ok : SpecOk Tryz.prog 12 (specI [.v 5, .v 3] (fun _ _ => true) insideV) := specI_ok (fun l m => by unfold insideV; split <;> rfl) fun l m hl hm _ => match l, m, hl, hm with
 | [x, y, z, num, den, a, b, c], [], _, _ => call_ev tb_ins_ok (inside_run x y z num den a b c)
def tb_inside : List (FuncId × Spec) := (12, specI [.v 5, .v 3] (fun _ _ => true) insideV) :: tb_ins
theorem tb_inside_ok : TabOk Tryz.prog (tabOf tb_inside) := tab_cons tb_ins_ok inside_ok
def btwV : List Int → List Bool → A
 | [x, y, z, num, den, ax, ay, az, bx, by', bz], [] => boo (btwW x y z num den ax ay az bx by' bz)
 | _, _ => int 0
theorem btw_run (x y z num den ax ay az bx by' bz : Int) : (evFun Tryz.prog (tabOf tb_inside) modes 100 46 (encA [.v 5, .v 3, .v 3] [x, y, z, num, den, ax, ay, az, bx, by', bz] []) hp0).run = some (boo (btwW x y z num den ax ay az bx by' bz), hp0) := by
 have h : (evFun Tryz.prog (tabOf tb_inside) modes 100 46 (encA [.v 5, .v 3, .v 3] [x, y, z, num, den, ax, ay, az, bx, by', bz] []) hp0).run = (Tree.node (btwA ax ay az bx by' bz == 0) (.leaf (boo false, hp0)) (.node (decide (btwX x y z ax ay az bx by' bz ≤ 0)) (.leaf (boo false, hp0)) (.node (decide (btwY x y z ax ay az bx by' bz ≤ 0)) (.leaf (boo false, hp0)) (.leaf (boo (decide (w64 (w64 (num * btwA ax ay az bx by' bz) * dotW x y z x y z) ≤ w64 (den * btwS x y z ax ay az bx by' bz))), hp0))))).run := by kernel_rfl
 rw [h]; unfold btwW
 cases (btwA ax ay az bx by' bz == 0) <;> cases (decide (btwX x y z ax ay az bx by' bz ≤ 0)) <;> cases (decide (btwY x y z ax ay az bx by' bz ≤ 0)) <;> rfl
theorem btw_ok : SpecOk Tryz.prog 46 (specI [.v 5, .v 3, .v 3] (fun _ _ => true) btwV) := specI_ok (fun l m => by unfold btwV; split <;> rfl) fun l m hl hm _ => match l, m, hl, hm with
 | [x, y, z, num, den, ax, ay, az, bx, by', bz], [], _, _ => call_ev tb_inside_ok (btw_run x y z num den ax ay az bx by' bz)
def tb_btw : List (FuncId × Spec) := (46, specI [.v 5, .v 3, .v 3] (fun _ _ => true) btwV) :: tb_inside
theorem tb_btw_ok : TabOk Tryz.prog (tabOf tb_btw) := tab_cons tb_inside_ok btw_ok
end Go.Ev
