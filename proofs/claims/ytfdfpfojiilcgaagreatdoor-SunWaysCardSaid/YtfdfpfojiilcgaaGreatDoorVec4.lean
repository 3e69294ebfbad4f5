/- Contracts of the functions that reduce and reflect vectors, of cosines and of small rays. Conditions: as the entries say. (Printed by gen_vec4.py.) -/
import Derived.Test.YtfdfpfojiilcgaaGreatDoorCones
namespace Go.Ev
open Go Go.Proofs

def redA (x y z a : Int) : Int := redW (gcd3 x y z) a
def rdW (x y z a : Int) : Int := match dirErr x y z != 0 with | true => 0 | false => redA x y z a
def two0 (a b : Int) : Int := match a != 0 with | true => a | false => b
def only0 (e a : Int) : Int := match e != 0 with | true => 0 | false => a
def smErr (x y z : Int) : Int := errIf (decide (4096 < farW (redA x y z x) (redA x y z y) (redA x y z z))) 4
def smW (x y z a : Int) : Int := only0 (smErr x y z) (redA x y z a)
def flW (ax ay az bx by' bz a b : Int) : Int := suW (w64 (2 * dotW ax ay az bx by' bz)) b (w64 (0 - dotW bx by' bz bx by' bz)) a
def raysErr (ax ay az bx by' bz : Int) : Int := firstZ [rayErr ax ay az, rayErr bx by' bz]
def dirsErr (ax ay az bx by' bz : Int) : Int := firstZ [dirErr ax ay az, dirErr bx by' bz]
def flErr (ax ay az bx by' bz : Int) : Int := smErr (flW ax ay az bx by' bz ax bx) (flW ax ay az bx by' bz ay by') (flW ax ay az bx by' bz az bz)
def flR (ax ay az bx by' bz a b : Int) : Int := smW (flW ax ay az bx by' bz ax bx) (flW ax ay az bx by' bz ay by') (flW ax ay az bx by' bz az bz) (flW ax ay az bx by' bz a b)
def signW (n : Int) : Int := match decide (0 < n) with | true => 1 | false => match decide (n < 0) with | true => -1 | false => 0
def rtW (num den a : Int) : Int := w64 (a.tdiv (Int.gcd num den))
def rtK (num den : Int) : Bool := decide (0 < den) && (in63 num && in63 den)
def coN (ax ay az bx by' bz : Int) : Int := w64 (dotW ax ay az bx by' bz * dotW ax ay az bx by' bz)
def coD (ax ay az bx by' bz : Int) : Int := w64 (dotW ax ay az ax ay az * dotW bx by' bz bx by' bz)
def maxW (x y z : Int) : Int := max2 (max2 (max2 (max2 (max2 x (w64 (0 - x))) y) (w64 (0 - y))) z) (w64 (0 - z))
def tinW (x y z : Int) : Bool := (qrayErr x y z == 0) && decide (maxW x y z ≤ 40)

theorem Bd.in3 {M : Nat} {x y z : Int} (h : Bd M x y z) (hM : M ≤ 9223372036854775807) : in3 x y z = true := by
  obtain ⟨h1, h2, h3⟩ := h
  unfold Ev.in3
  rw [Bool.and_eq_true, Bool.and_eq_true, in63_iff, in63_iff, in63_iff]
  omega
theorem su_bd {s t M N : Nat} {x a y b : Int} (hx : x.natAbs ≤ s) (ha : a.natAbs ≤ M) (hy : y.natAbs ≤ t) (hb : b.natAbs ≤ N) (h : s * M + t * N ≤ 9223372036854775807) : suW x a y b = x * a + y * b ∧ (x * a + y * b).natAbs ≤ s * M + t * N := by
  have h1 := mul_bd hx ha
  have h2 := mul_bd hy hb
  unfold suW
  generalize x * a = p at h1 ⊢
  generalize y * b = q at h2 ⊢
  rw [w64_id (n := p) (by omega), w64_id (n := q) (by omega), w64_id (by omega)]
  exact ⟨rfl, by omega⟩
theorem raysErr_zero {ax ay az bx b2 bz : Int} : raysErr ax ay az bx b2 bz = 0 ↔ Ray ax ay az ∧ Ray bx b2 bz := by
  unfold raysErr
  rw [firstZ_zero]
  simp only [List.mem_cons, List.not_mem_nil, or_false, forall_eq_or_imp, forall_eq, ray_zero]
/-- a reflected ray, before it is reduced -/
theorem fl_eq {M N : Nat} {ax ay az bx b2 bz : Int} (ha : Bd M ax ay az) (hb : Bd N bx b2 bz) (hMN : 6 * (M * N) * N + 3 * (N * N) * M ≤ 9223372036854775807) (hp : 0 < M ∧ 0 < N) {a b : Int} (hA : a.natAbs ≤ M) (hB : b.natAbs ≤ N) :
    flW ax ay az bx b2 bz a b = (2 * (ax * bx + ay * b2 + az * bz)) * b + (0 - (bx * bx + b2 * b2 + bz * bz)) * a ∧ (flW ax ay az bx b2 bz a b).natAbs ≤ 6 * (M * N) * N + 3 * (N * N) * M := by
  have k1 : 6 * (M * N) ≤ 6 * (M * N) * N := Nat.le_mul_of_pos_right _ hp.2
  have k2 : 3 * (N * N) ≤ 3 * (N * N) * M := Nat.le_mul_of_pos_right _ hp.1
  obtain ⟨d1, d2⟩ := dot_eq ha hb (by omega)
  obtain ⟨n1, n2⟩ := dot_eq hb hb (by omega)
  unfold flW
  rw [d1, n1]
  generalize ax * bx + ay * b2 + az * bz = p at d2 ⊢
  generalize bx * bx + b2 * b2 + bz * bz = q at n2 ⊢
  rw [w64_id (n := 2 * p) (by omega), w64_id (n := 0 - q) (by omega)]
  obtain ⟨s1, s2⟩ := su_bd (x := 2 * p) (a := b) (y := 0 - q) (b := a) (s := 6 * (M * N)) (t := 3 * (N * N)) (by omega) hB (by omega) hA hMN
  rw [s1]
  exact ⟨rfl, s2⟩
theorem fl_in3 {ax ay az bx b2 bz : Int} (h : raysErr ax ay az bx b2 bz = 0) : in3 (flW ax ay az bx b2 bz ax bx) (flW ax ay az bx b2 bz ay b2) (flW ax ay az bx b2 bz az bz) = true := by
  obtain ⟨⟨ha, _⟩, hb, _⟩ := raysErr_zero.1 h
  exact Bd.in3 (M := 6 * (4096 * 4096) * 4096 + 3 * (4096 * 4096) * 4096) ⟨(fl_eq ha hb (by decide) (by decide) ha.1 hb.1).2, (fl_eq ha hb (by decide) (by decide) ha.2.1 hb.2.1).2, (fl_eq ha hb (by decide) (by decide) ha.2.2 hb.2.2).2⟩ (by decide)
theorem ray_sq {M : Nat} {x y z : Int} (h : Bd M x y z) (h0 : ¬ (x = 0 ∧ y = 0 ∧ z = 0)) : 0 < x * x + y * y + z * z ∧ x * x + y * y + z * z ≤ 3 * (M * M) := by
  have a := sq_nonneg x
  have b := sq_nonneg y
  have c := sq_nonneg z
  have l1 := mul_bd h.1 h.1
  have l2 := mul_bd h.2.1 h.2.1
  have l3 := mul_bd h.2.2 h.2.2
  refine ⟨?_, by omega⟩
  by_cases hx : x = 0
  · by_cases hy : y = 0
    · by_cases hz : z = 0
      · exact absurd ⟨hx, hy, hz⟩ h0
      · have := sq_pos hz; omega
    · have := sq_pos hy; omega
  · have := sq_pos hx; omega
theorem co_K {ax ay az bx b2 bz : Int} (h : raysErr ax ay az bx b2 bz = 0) : coN ax ay az bx b2 bz = (ax * bx + ay * b2 + az * bz) * (ax * bx + ay * b2 + az * bz) ∧ coD ax ay az bx b2 bz = (ax * ax + ay * ay + az * az) * (bx * bx + b2 * b2 + bz * bz) ∧ rtK (coN ax ay az bx b2 bz) (coD ax ay az bx b2 bz) = true := by
  obtain ⟨⟨ha, ha0⟩, hb, hb0⟩ := raysErr_zero.1 h
  obtain ⟨d1, d2⟩ := dot_eq ha hb (by decide)
  obtain ⟨a1, a2⟩ := dot_eq ha ha (by decide)
  obtain ⟨b1, b2'⟩ := dot_eq hb hb (by decide)
  have pa := ray_sq ha ha0
  have pb := ray_sq hb hb0
  unfold rtK coN coD
  rw [d1, a1, b1]
  generalize ax * bx + ay * b2 + az * bz = p at d2 ⊢
  generalize ax * ax + ay * ay + az * az = q at a2 pa ⊢
  generalize bx * bx + b2 * b2 + bz * bz = r at b2' pb ⊢
  have m1 := mul_bd d2 d2
  have m2 := mul_bd a2 b2'
  have m3 := Int.mul_pos pa.1 pb.1
  rw [w64_id (n := p * p) (by omega), w64_id (n := q * r) (by omega)]
  refine ⟨rfl, rfl, ?_⟩
  rw [Bool.and_eq_true, Bool.and_eq_true, in63_iff, in63_iff, decide_eq_true_eq]
  omega
theorem gcd_ne {num den : Int} (h : 0 < den) : (!(((Int.gcd num den : Nat) : Int) == 0)) = true := by
  have : Int.gcd num den ≠ 0 := fun e => by rw [Int.gcd_eq_zero_iff] at e; omega
  simpa using this

/-! ### spillage/sun.reduced -/
def redV : List Int → List Bool → A
  | [x, y, z], [] => vec (redA x y z x) (redA x y z y) (redA x y z z)
  | _, _ => int 0
def redK : List Int → List Bool → Bool
  | [x, y, z], [] => in3 x y z
  | _, _ => false
theorem red_run (x y z : Int) (hok : (in3 x y z) = true) : (evFun Tryz.prog (tabOf tbA) modes 100 81 (encA [.v 3] [x, y, z] []) hp0).run = some (vec (redA x y z x) (redA x y z y) (redA x y z z), hp0) := by
  obtain ⟨hx, hy, hz⟩ := in3_iff hok
  have h : (evFun Tryz.prog (tabOf tbA) modes 100 81 (encA [.v 3] [x, y, z] []) hp0).run = (Tree.need (Nat.blt (Int.gcd 0 x) 9223372036854775808) (.need (Nat.blt (Int.gcd (Int.gcd 0 x : Nat) y) 9223372036854775808) (.need (Nat.blt (Int.gcd (Int.gcd (Int.gcd 0 x : Nat) y : Nat) z) 9223372036854775808)
      (.node (gcd3 x y z == 0) (.leaf (vec x y z, hp0)) (.need (!(gcd3 x y z == 0)) (.need (!(gcd3 x y z == 0)) (.need (!(gcd3 x y z == 0)) (.leaf (vec (w64 (x.tdiv (gcd3 x y z))) (w64 (y.tdiv (gcd3 x y z))) (w64 (z.tdiv (gcd3 x y z))), hp0))))))))).run := by kernel_rfl
  rw [h]
  unfold redA redW
  simp only [Tree.run, gcd_blt in63_0 hx, gcd_blt (gcdc_in in63_0 hx) hy, gcd_blt (gcdc_in (gcdc_in in63_0 hx) hy) hz]
  cases (gcd3 x y z == 0) <;> rfl
theorem red_ok : SpecOk Tryz.prog 81 (specI [.v 3] (redK) redV) := specI_ok (fun l m => by unfold redV; split <;> rfl) fun l m hl hm hok => match l, m, hl, hm, hok with
  | [x, y, z], [], _, _, hok => call_ev tbA_ok (red_run x y z hok)
def tb_red : List (FuncId × Spec) := (81, specI [.v 3] (redK) redV) :: tbA
theorem tb_red_ok : TabOk Tryz.prog (tabOf tb_red) := tab_cons tbA_ok red_ok

/-! ### spillage/sun.Reduced -/
def RedV : List Int → List Bool → A
  | [x, y, z], [] => .tup [(true, [ci (rdW x y z x), ci (rdW x y z y), ci (rdW x y z z)]), (false, [ci (dirErr x y z)])]
  | _, _ => int 0
theorem Red_run (x y z : Int) : (evFun Tryz.prog (tabOf tb_red) modes 100 22 (encA [.v 3] [x, y, z] []) hp0).run = some (.tup [(true, [ci (rdW x y z x), ci (rdW x y z y), ci (rdW x y z z)]), (false, [ci (dirErr x y z)])], hp0) := by
  have h : (evFun Tryz.prog (tabOf tb_red) modes 100 22 (encA [.v 3] [x, y, z] []) hp0).run = (Tree.node (dirErr x y z != 0) (.leaf (.tup [(true, [ci (0), ci (0), ci (0)]), (false, [ci (dirErr x y z)])], hp0)) (.need (in3 x y z) (.leaf (.tup [(true, [ci (redA x y z x), ci (redA x y z y), ci (redA x y z z)]), (false, [ci (0)])], hp0)))).run := by kernel_rfl
  rw [h]
  unfold rdW
  cases he : (dirErr x y z != 0) with
  | true => rfl
  | false =>
    have he : dirErr x y z = 0 := by simpa using he
    simp only [Tree.run, (dir_zero.1 he).1.in3 (by decide)]
    rw [he]
theorem Red_ok : SpecOk Tryz.prog 22 (specI [.v 3] (fun _ _ => true) RedV) := specI_ok (fun l m => by unfold RedV; split <;> rfl) fun l m hl hm _ => match l, m, hl, hm with
  | [x, y, z], [], _, _ => call_ev tb_red_ok (Red_run x y z)
def tb_Red : List (FuncId × Spec) := (22, specI [.v 3] (fun _ _ => true) RedV) :: tb_red
theorem tb_Red_ok : TabOk Tryz.prog (tabOf tb_Red) := tab_cons tb_red_ok Red_ok

/-! ### spillage/sun.Same -/
def SameV : List Int → List Bool → A
  | [ax, ay, az, bx, by', bz], [] => .tup [(false, [.lit (.bool (!(dirsErr ax ay az bx by' bz != 0) && samW ax ay az bx by' bz))]), (false, [ci (dirsErr ax ay az bx by' bz)])]
  | _, _ => int 0
theorem Same_run (ax ay az bx by' bz : Int) : (evFun Tryz.prog (tabOf tb_Red) modes 100 23 (encA [.v 3, .v 3] [ax, ay, az, bx, by', bz] []) hp0).run = some (.tup [(false, [.lit (.bool (!(dirsErr ax ay az bx by' bz != 0) && samW ax ay az bx by' bz))]), (false, [ci (dirsErr ax ay az bx by' bz)])], hp0) := by
  have h : (evFun Tryz.prog (tabOf tb_Red) modes 100 23 (encA [.v 3, .v 3] [ax, ay, az, bx, by', bz] []) hp0).run = (Tree.node (dirsErr ax ay az bx by' bz != 0) (.leaf (.tup [(false, [.lit (.bool (false))]), (false, [ci (dirsErr ax ay az bx by' bz)])], hp0)) (.leaf (.tup [(false, [.lit (.bool (samW ax ay az bx by' bz))]), (false, [ci (0)])], hp0))).run := by kernel_rfl
  rw [h]
  cases he : (dirsErr ax ay az bx by' bz != 0) with
  | true => rfl
  | false =>
    have he : dirsErr ax ay az bx by' bz = 0 := by simpa using he
    rw [he]; rfl
theorem Same_ok : SpecOk Tryz.prog 23 (specI [.v 3, .v 3] (fun _ _ => true) SameV) := specI_ok (fun l m => by unfold SameV; split <;> rfl) fun l m hl hm _ => match l, m, hl, hm with
  | [ax, ay, az, bx, by', bz], [], _, _ => call_ev tb_Red_ok (Same_run ax ay az bx by' bz)
def tb_Same : List (FuncId × Spec) := (23, specI [.v 3, .v 3] (fun _ _ => true) SameV) :: tb_Red
theorem tb_Same_ok : TabOk Tryz.prog (tabOf tb_Same) := tab_cons tb_Red_ok Same_ok

/-! ### spillage/sun.sum -/
def sumV : List Int → List Bool → A
  | [m, ax, ay, az, n, bx, by', bz], [] => vec (suW m ax n bx) (suW m ay n by') (suW m az n bz)
  | _, _ => int 0
theorem sum_run (m ax ay az n bx by' bz : Int) : (evFun Tryz.prog (tabOf tb_Same) modes 100 84 (encA [.i, .v 3, .i, .v 3] [m, ax, ay, az, n, bx, by', bz] []) hp0).run = some (vec (suW m ax n bx) (suW m ay n by') (suW m az n bz), hp0) := by kernel_rfl
theorem sum_ok : SpecOk Tryz.prog 84 (specI [.i, .v 3, .i, .v 3] (fun _ _ => true) sumV) := specI_ok (fun l m => by unfold sumV; split <;> rfl) fun l m hl hm _ => match l, m, hl, hm with
  | [m, ax, ay, az, n, bx, by', bz], [], _, _ => call_ev tb_Same_ok (sum_run m ax ay az n bx by' bz)
def tb_sum : List (FuncId × Spec) := (84, specI [.i, .v 3, .i, .v 3] (fun _ _ => true) sumV) :: tb_Same
theorem tb_sum_ok : TabOk Tryz.prog (tabOf tb_sum) := tab_cons tb_Same_ok sum_ok

/-! ### spillage/sun.small -/
def smallV : List Int → List Bool → A
  | [x, y, z], [] => .tup [(true, [ci (smW x y z x), ci (smW x y z y), ci (smW x y z z)]), (false, [ci (smErr x y z)])]
  | _, _ => int 0
def smallK : List Int → List Bool → Bool
  | [x, y, z], [] => in3 x y z
  | _, _ => false
theorem small_run (x y z : Int) (hok : (in3 x y z) = true) : (evFun Tryz.prog (tabOf tb_sum) modes 100 83 (encA [.v 3] [x, y, z] []) hp0).run = some (.tup [(true, [ci (smW x y z x), ci (smW x y z y), ci (smW x y z z)]), (false, [ci (smErr x y z)])], hp0) := by
  have h : (evFun Tryz.prog (tabOf tb_sum) modes 100 83 (encA [.v 3] [x, y, z] []) hp0).run = (Tree.need (in3 x y z) (.node (decide (4096 < farW (redA x y z x) (redA x y z y) (redA x y z z))) (.leaf (.tup [(true, [ci (0), ci (0), ci (0)]), (false, [ci (4)])], hp0)) (.leaf (.tup [(true, [ci (redA x y z x), ci (redA x y z y), ci (redA x y z z)]), (false, [ci (0)])], hp0)))).run := by kernel_rfl
  rw [h]
  unfold smW smErr only0
  simp only [Tree.run, hok]
  cases (decide (4096 < farW (redA x y z x) (redA x y z y) (redA x y z z))) <;> rfl
theorem small_ok : SpecOk Tryz.prog 83 (specI [.v 3] (smallK) smallV) := specI_ok (fun l m => by unfold smallV; split <;> rfl) fun l m hl hm hok => match l, m, hl, hm, hok with
  | [x, y, z], [], _, _, hok => call_ev tb_sum_ok (small_run x y z hok)
def tb_small : List (FuncId × Spec) := (83, specI [.v 3] (smallK) smallV) :: tb_sum
theorem tb_small_ok : TabOk Tryz.prog (tabOf tb_small) := tab_cons tb_sum_ok small_ok

/-! ### spillage/sun.Reflected -/
def ReflV : List Int → List Bool → A
  | [ax, ay, az, bx, by', bz], [] => .tup [(true, [ci (only0 (raysErr ax ay az bx by' bz) (flR ax ay az bx by' bz ax bx)), ci (only0 (raysErr ax ay az bx by' bz) (flR ax ay az bx by' bz ay by')), ci (only0 (raysErr ax ay az bx by' bz) (flR ax ay az bx by' bz az bz))]), (false, [ci (two0 (raysErr ax ay az bx by' bz) (flErr ax ay az bx by' bz))])]
  | _, _ => int 0
theorem Refl_run (ax ay az bx by' bz : Int) : (evFun Tryz.prog (tabOf tb_small) modes 100 24 (encA [.v 3, .v 3] [ax, ay, az, bx, by', bz] []) hp0).run = some (.tup [(true, [ci (only0 (raysErr ax ay az bx by' bz) (flR ax ay az bx by' bz ax bx)), ci (only0 (raysErr ax ay az bx by' bz) (flR ax ay az bx by' bz ay by')), ci (only0 (raysErr ax ay az bx by' bz) (flR ax ay az bx by' bz az bz))]), (false, [ci (two0 (raysErr ax ay az bx by' bz) (flErr ax ay az bx by' bz))])], hp0) := by
  have h : (evFun Tryz.prog (tabOf tb_small) modes 100 24 (encA [.v 3, .v 3] [ax, ay, az, bx, by', bz] []) hp0).run = (Tree.node (raysErr ax ay az bx by' bz != 0) (.leaf (.tup [(true, [ci (0), ci (0), ci (0)]), (false, [ci (raysErr ax ay az bx by' bz)])], hp0)) (.need (in3 (flW ax ay az bx by' bz ax bx) (flW ax ay az bx by' bz ay by') (flW ax ay az bx by' bz az bz)) (.leaf (.tup [(true, [ci (flR ax ay az bx by' bz ax bx), ci (flR ax ay az bx by' bz ay by'), ci (flR ax ay az bx by' bz az bz)]), (false, [ci (flErr ax ay az bx by' bz)])], hp0)))).run := by kernel_rfl
  rw [h]
  unfold only0 two0
  cases he : (raysErr ax ay az bx by' bz != 0) with
  | true => rfl
  | false =>
    have he : raysErr ax ay az bx by' bz = 0 := by simpa using he
    simp only [Tree.run, fl_in3 he]
theorem Refl_ok : SpecOk Tryz.prog 24 (specI [.v 3, .v 3] (fun _ _ => true) ReflV) := specI_ok (fun l m => by unfold ReflV; split <;> rfl) fun l m hl hm _ => match l, m, hl, hm with
  | [ax, ay, az, bx, by', bz], [], _, _ => call_ev tb_small_ok (Refl_run ax ay az bx by' bz)
def tb_Refl : List (FuncId × Spec) := (24, specI [.v 3, .v 3] (fun _ _ => true) ReflV) :: tb_small
theorem tb_Refl_ok : TabOk Tryz.prog (tabOf tb_Refl) := tab_cons tb_small_ok Refl_ok

/-! ### spillage/sun.sign -/
def signV : List Int → List Bool → A
  | [n], [] => int (signW n)
  | _, _ => int 0
theorem sign_run (n : Int) : (evFun Tryz.prog (tabOf tb_Refl) modes 100 86 (encA [.i] [n] []) hp0).run = some (int (signW n), hp0) := by
  have h : (evFun Tryz.prog (tabOf tb_Refl) modes 100 86 (encA [.i] [n] []) hp0).run = (Tree.node (decide (0 < n)) (.leaf (int 1, hp0)) (.node (decide (n < 0)) (.leaf (int (-1), hp0)) (.leaf (int 0, hp0)))).run := by kernel_rfl
  rw [h]
  unfold signW
  cases decide (0 < n) <;> cases decide (n < 0) <;> rfl
theorem sign_ok : SpecOk Tryz.prog 86 (specI [.i] (fun _ _ => true) signV) := specI_ok (fun l m => by unfold signV; split <;> rfl) fun l m hl hm _ => match l, m, hl, hm with
  | [n], [], _, _ => call_ev tb_Refl_ok (sign_run n)
def tb_sign : List (FuncId × Spec) := (86, specI [.i] (fun _ _ => true) signV) :: tb_Refl
theorem tb_sign_ok : TabOk Tryz.prog (tabOf tb_sign) := tab_cons tb_Refl_ok sign_ok

/-! ### spillage/sun.ratio -/
def ratioV : List Int → List Bool → A
  | [num, den], [] => .agg [ci (rtW num den num), ci (rtW num den den)]
  | _, _ => int 0
def ratioK : List Int → List Bool → Bool
  | [num, den], [] => rtK num den
  | _, _ => false
theorem ratio_run (num den : Int) (hok : (rtK num den) = true) : (evFun Tryz.prog (tabOf tb_sign) modes 100 87 (encA [.i, .i] [num, den] []) hp0).run = some (.agg [ci (rtW num den num), ci (rtW num den den)], hp0) := by
  have hk := hok
  unfold rtK at hk
  rw [Bool.and_eq_true, Bool.and_eq_true, decide_eq_true_eq] at hk
  obtain ⟨hd, hn1, hd1⟩ := hk
  have h : (evFun Tryz.prog (tabOf tb_sign) modes 100 87 (encA [.i, .i] [num, den] []) hp0).run = (Tree.node (decide (den < 0)) (.need (Nat.blt (Int.gcd (w64 (0 - num)) (w64 (0 - den))) 9223372036854775808) (.need (!(((Int.gcd (w64 (0 - num)) (w64 (0 - den)) : Nat) : Int) == 0)) (.need (!(((Int.gcd (w64 (0 - num)) (w64 (0 - den)) : Nat) : Int) == 0))
      (.leaf (.agg [ci (rtW (w64 (0 - num)) (w64 (0 - den)) (w64 (0 - num))), ci (rtW (w64 (0 - num)) (w64 (0 - den)) (w64 (0 - den)))], hp0)))))
    (.need (Nat.blt (Int.gcd num den) 9223372036854775808) (.need (!(((Int.gcd num den : Nat) : Int) == 0)) (.need (!(((Int.gcd num den : Nat) : Int) == 0)) (.leaf (.agg [ci (rtW num den num), ci (rtW num den den)], hp0)))))).run := by kernel_rfl
  rw [h]
  have hd2 : decide (den < 0) = false := decide_eq_false (by omega)
  simp only [Tree.run, hd2, gcd_blt hn1 hd1, gcd_ne (num := num) hd]
theorem ratio_ok : SpecOk Tryz.prog 87 (specI [.i, .i] (ratioK) ratioV) := specI_ok (fun l m => by unfold ratioV; split <;> rfl) fun l m hl hm hok => match l, m, hl, hm, hok with
  | [num, den], [], _, _, hok => call_ev tb_sign_ok (ratio_run num den hok)
def tb_ratio : List (FuncId × Spec) := (87, specI [.i, .i] (ratioK) ratioV) :: tb_sign
theorem tb_ratio_ok : TabOk Tryz.prog (tabOf tb_ratio) := tab_cons tb_sign_ok ratio_ok

/-! ### spillage/sun.Cosine -/
def CosV : List Int → List Bool → A
  | [ax, ay, az, bx, by', bz], [] => .tup [(false, [ci (only0 (raysErr ax ay az bx by' bz) (signW (dotW ax ay az bx by' bz)))]), (true, [ci (only0 (raysErr ax ay az bx by' bz) (rtW (coN ax ay az bx by' bz) (coD ax ay az bx by' bz) (coN ax ay az bx by' bz))), ci (only0 (raysErr ax ay az bx by' bz) (rtW (coN ax ay az bx by' bz) (coD ax ay az bx by' bz) (coD ax ay az bx by' bz)))]), (false, [ci (raysErr ax ay az bx by' bz)])]
  | _, _ => int 0
theorem Cos_run (ax ay az bx by' bz : Int) : (evFun Tryz.prog (tabOf tb_ratio) modes 100 28 (encA [.v 3, .v 3] [ax, ay, az, bx, by', bz] []) hp0).run = some (.tup [(false, [ci (only0 (raysErr ax ay az bx by' bz) (signW (dotW ax ay az bx by' bz)))]), (true, [ci (only0 (raysErr ax ay az bx by' bz) (rtW (coN ax ay az bx by' bz) (coD ax ay az bx by' bz) (coN ax ay az bx by' bz))), ci (only0 (raysErr ax ay az bx by' bz) (rtW (coN ax ay az bx by' bz) (coD ax ay az bx by' bz) (coD ax ay az bx by' bz)))]), (false, [ci (raysErr ax ay az bx by' bz)])], hp0) := by
  have h : (evFun Tryz.prog (tabOf tb_ratio) modes 100 28 (encA [.v 3, .v 3] [ax, ay, az, bx, by', bz] []) hp0).run = (Tree.node (raysErr ax ay az bx by' bz != 0) (.leaf (.tup [(false, [ci (0)]), (true, [ci (0), ci (0)]), (false, [ci (raysErr ax ay az bx by' bz)])], hp0)) (.need (rtK (coN ax ay az bx by' bz) (coD ax ay az bx by' bz)) (.leaf (.tup [(false, [ci (signW (dotW ax ay az bx by' bz))]), (true, [ci (rtW (coN ax ay az bx by' bz) (coD ax ay az bx by' bz) (coN ax ay az bx by' bz)), ci (rtW (coN ax ay az bx by' bz) (coD ax ay az bx by' bz) (coD ax ay az bx by' bz))]), (false, [ci (0)])], hp0)))).run := by kernel_rfl
  rw [h]
  unfold only0
  cases he : (raysErr ax ay az bx by' bz != 0) with
  | true => rfl
  | false =>
    have he : raysErr ax ay az bx by' bz = 0 := by simpa using he
    simp only [Tree.run, (co_K he).2.2]
    rw [he]
theorem Cos_ok : SpecOk Tryz.prog 28 (specI [.v 3, .v 3] (fun _ _ => true) CosV) := specI_ok (fun l m => by unfold CosV; split <;> rfl) fun l m hl hm _ => match l, m, hl, hm with
  | [ax, ay, az, bx, by', bz], [], _, _ => call_ev tb_ratio_ok (Cos_run ax ay az bx by' bz)
def tb_Cos : List (FuncId × Spec) := (28, specI [.v 3, .v 3] (fun _ _ => true) CosV) :: tb_ratio
theorem tb_Cos_ok : TabOk Tryz.prog (tabOf tb_Cos) := tab_cons tb_ratio_ok Cos_ok

/-! ### spillage/spillagelaw02.tiny -/
def tinyV : List Int → List Bool → A
  | [x, y, z], [] => boo (tinW x y z)
  | _, _ => int 0
theorem tiny_run (x y z : Int) : (evFun Tryz.prog (tabOf tb_Cos) modes 100 21 (encA [.v 3] [x, y, z] []) hp0).run = some (boo (tinW x y z), hp0) := by
  have h : (evFun Tryz.prog (tabOf tb_Cos) modes 100 21 (encA [.v 3] [x, y, z] []) hp0).run = (Tree.node (qrayErr x y z == 0) (.leaf (boo (decide (maxW x y z ≤ 40)), hp0)) (.leaf (boo false, hp0))).run := by kernel_rfl
  rw [h, run_and]; rfl
theorem tiny_ok : SpecOk Tryz.prog 21 (specI [.v 3] (fun _ _ => true) tinyV) := specI_ok (fun l m => by unfold tinyV; split <;> rfl) fun l m hl hm _ => match l, m, hl, hm with
  | [x, y, z], [], _, _ => call_ev tb_Cos_ok (tiny_run x y z)
def tb_tiny : List (FuncId × Spec) := (21, specI [.v 3] (fun _ _ => true) tinyV) :: tb_Cos
theorem tb_tiny_ok : TabOk Tryz.prog (tabOf tb_tiny) := tab_cons tb_Cos_ok tiny_ok
end Go.Ev
