/- Contracts of the functions that reduce and add vectors. Conditions: as the entries say. (Printed by gen_vec4.py.) -/
import Derived.Test.YtkalcencblhlgaaGreatDoorLaw1
namespace Go.Ev
open Go Go.Proofs
def redA (x y z a : Int) : Int := redW (gcd3 x y z) a
def rdW (x y z a : Int) : Int := match dirErr x y z != 0 with | true => 0 | false => redA x y z a
def maxW (x y z : Int) : Int := max2 (max2 (max2 (max2 (max2 x (w64 (0 - x))) y) (w64 (0 - y))) z) (w64 (0 - z))
def tinW (x y z : Int) : Bool := (qrayErr x y z == 0) && decide (maxW x y z ≤ 40)
theorem Bd.in3 {M : Nat} {x y z : Int} (h : Bd M x y z) (hM : M ≤ 9223372036854775807) : in3 x y z = true := by
 obtain ⟨h1, h2, h3⟩ := h
 unfold Ev.in3
 rw [Bool.and_eq_true, Bool.and_eq_true, in63_iff, in63_iff, in63_iff]
 omega
def redV : List Int → List Bool → A
 | [x, y, z], [] => vec (redA x y z x) (redA x y z y) (redA x y z z)
 | _, _ => int 0
def redK : List Int → List Bool → Bool
 | [x, y, z], [] => in3 x y z
 | _, _ => false
theorem red_run (x y z : Int) (hok : (in3 x y z) = true) : (evFun Tryz.prog (tabOf tb_btw) modes 100 64 (encA [.v 3] [x, y, z] []) hp0).run = some (vec (redA x y z x) (redA x y z y) (redA x y z z), hp0) := by
 obtain ⟨hx, hy, hz⟩ := in3_iff hok
 have h : (evFun Tryz.prog (tabOf tb_btw) modes 100 64 (encA [.v 3] [x, y, z] []) hp0).run = (Tree.need (Nat.blt (Int.gcd 0 x) 9223372036854775808) (.need (Nat.blt (Int.gcd (Int.gcd 0 x : Nat) y) 9223372036854775808) (.need (Nat.blt (Int.gcd (Int.gcd (Int.gcd 0 x : Nat) y : Nat) z) 9223372036854775808)
   (.node (gcd3 x y z == 0) (.leaf (vec x y z, hp0)) (.need (!(gcd3 x y z == 0)) (.need (!(gcd3 x y z == 0)) (.need (!(gcd3 x y z == 0)) (.leaf (vec (w64 (x.tdiv (gcd3 x y z))) (w64 (y.tdiv (gcd3 x y z))) (w64 (z.tdiv (gcd3 x y z))), hp0))))))))).run := by kernel_rfl
 rw [h]
 unfold redA redW
 simp only [Tree.run, gcd_blt in63_0 hx, gcd_blt (gcdc_in in63_0 hx) hy, gcd_blt (gcdc_in (gcdc_in in63_0 hx) hy) hz]
 cases (gcd3 x y z == 0) <;> rfl
theorem red_ok : SpecOk Tryz.prog 64 (specI [.v 3] (redK) redV) := specI_ok (fun l m => by unfold redV; split <;> rfl) fun l m hl hm hok => match l, m, hl, hm, hok with
 | [x, y, z], [], _, _, hok => call_ev tb_btw_ok (red_run x y z hok)
def tb_red : List (FuncId × Spec) := (64, specI [.v 3] (redK) redV) :: tb_btw
theorem tb_red_ok : TabOk Tryz.prog (tabOf tb_red) := tab_cons tb_btw_ok red_ok
def RedV : List Int → List Bool → A
 | [x, y, z], [] => .tup [(true, [ci (rdW x y z x), ci (rdW x y z y), ci (rdW x y z z)]), (false, [ci (dirErr x y z)])]
 | _, _ => int 0
theorem Red_run (x y z : Int) : (evFun Tryz.prog (tabOf tb_red) modes 100 15 (encA [.v 3] [x, y, z] []) hp0).run = some (.tup [(true, [ci (rdW x y z x), ci (rdW x y z y), ci (rdW x y z z)]), (false, [ci (dirErr x y z)])], hp0) := by
 have h : (evFun Tryz.prog (tabOf tb_red) modes 100 15 (encA [.v 3] [x, y, z] []) hp0).run = (Tree.node (dirErr x y z != 0) (.leaf (.tup [(true, [ci (0), ci (0), ci (0)]), (false, [ci (dirErr x y z)])], hp0)) (.need (in3 x y z) (.leaf (.tup [(true, [ci (redA x y z x), ci (redA x y z y), ci (redA x y z z)]), (false, [ci (0)])], hp0)))).run := by kernel_rfl
 rw [h]
 unfold rdW
 cases he : (dirErr x y z != 0) with
 | true => rfl
 | false =>
  have he : dirErr x y z = 0 := by simpa using he
  simp only [Tree.run, (dir_zero.1 he).1.in3 (by decide)]
  rw [he]
theorem Red_ok : SpecOk Tryz.prog 15 (specI [.v 3] (fun _ _ => true) RedV) := specI_ok (fun l m => by unfold RedV; split <;> rfl) fun l m hl hm _ => match l, m, hl, hm with
 | [x, y, z], [], _, _ => call_ev tb_red_ok (Red_run x y z)
def tb_Red : List (FuncId × Spec) := (15, specI [.v 3] (fun _ _ => true) RedV) :: tb_red
theorem tb_Red_ok : TabOk Tryz.prog (tabOf tb_Red) := tab_cons tb_red_ok Red_ok
def sumV : List Int → List Bool → A
 | [m, ax, ay, az, n, bx, by', bz], [] => vec (suW m ax n bx) (suW m ay n by') (suW m az n bz)
 | _, _ => int 0
theorem sum_run (m ax ay az n bx by' bz : Int) : (evFun Tryz.prog (tabOf tb_Red) modes 100 92 (encA [.i, .v 3, .i, .v 3] [m, ax, ay, az, n, bx, by', bz] []) hp0).run = some (vec (suW m ax n bx) (suW m ay n by') (suW m az n bz), hp0) := by kernel_rfl
theorem sum_ok : SpecOk Tryz.prog 92 (specI [.i, .v 3, .i, .v 3] (fun _ _ => true) sumV) := specI_ok (fun l m => by unfold sumV; split <;> rfl) fun l m hl hm _ => match l, m, hl, hm with
 | [m, ax, ay, az, n, bx, by', bz], [], _, _ => call_ev tb_Red_ok (sum_run m ax ay az n bx by' bz)
def tb_sum : List (FuncId × Spec) := (92, specI [.i, .v 3, .i, .v 3] (fun _ _ => true) sumV) :: tb_Red
theorem tb_sum_ok : TabOk Tryz.prog (tabOf tb_sum) := tab_cons tb_Red_ok sum_ok
def tinyV : List Int → List Bool → A
 | [x, y, z], [] => boo (tinW x y z)
 | _, _ => int 0
theorem tiny_run (x y z : Int) : (evFun Tryz.prog (tabOf tb_sum) modes 100 9 (encA [.v 3] [x, y, z] []) hp0).run = some (boo (tinW x y z), hp0) := by
 have h : (evFun Tryz.prog (tabOf tb_sum) modes 100 9 (encA [.v 3] [x, y, z] []) hp0).run = (Tree.node (qrayErr x y z == 0) (.leaf (boo (decide (maxW x y z ≤ 40)), hp0)) (.leaf (boo false, hp0))).run := by kernel_rfl
 rw [h, run_and]; rfl
theorem tiny_ok : SpecOk Tryz.prog 9 (specI [.v 3] (fun _ _ => true) tinyV) := specI_ok (fun l m => by unfold tinyV; split <;> rfl) fun l m hl hm _ => match l, m, hl, hm with
 | [x, y, z], [], _, _ => call_ev tb_sum_ok (tiny_run x y z)
def tb_tiny : List (FuncId × Spec) := (9, specI [.v 3] (fun _ _ => true) tinyV) :: tb_sum
theorem tb_tiny_ok : TabOk Tryz.prog (tabOf tb_tiny) := tab_cons tb_sum_ok tiny_ok
end Go.Ev
