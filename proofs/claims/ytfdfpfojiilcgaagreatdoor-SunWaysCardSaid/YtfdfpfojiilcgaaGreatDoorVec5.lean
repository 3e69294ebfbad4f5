/- Contracts of roots, lengths, whole vectors and normals. Conditions: as the entries say. (Printed by gen_vec5.py.) -/
import Derived.Test.YtfdfpfojiilcgaaGreatDoorLaw2
namespace Go.Ev
open Go Go.Proofs

/-! ### root -/
def sqN : Nat → Int → Int
  | 0, _ => 0
  | k + 1, n => if ((k + 1 : Nat) : Int) * ((k + 1 : Nat) : Int) ≤ n then ((k + 1 : Nat) : Int) else sqN k n
theorem sqN_spec : ∀ (k : Nat) (n : Int), 0 ≤ sqN k n ∧ sqN k n ≤ k ∧ (sqN k n * sqN k n ≤ n ∨ sqN k n = 0) ∧ ∀ m : Int, sqN k n < m → m ≤ k → n < m * m
  | 0, n => ⟨by simp [sqN], by simp [sqN], .inr rfl, fun m h1 h2 => by simp [sqN] at h1; omega⟩
  | k + 1, n => by
    unfold sqN
    split
    · rename_i h
      exact ⟨by omega, by omega, .inl h, fun m h1 h2 => by omega⟩
    · rename_i h
      obtain ⟨h1, h2, h3, h4⟩ := sqN_spec k n
      refine ⟨h1, by omega, h3, fun m h5 h6 => ?_⟩
      by_cases hm : m = ((k + 1 : Nat) : Int)
      · subst hm; omega
      · exact h4 m h5 (by omega)
def isq (n : Int) : Int := sqN 65536 n
theorem isq_range (n : Int) : 0 ≤ isq n ∧ isq n ≤ 65536 := ⟨(sqN_spec 65536 n).1, (sqN_spec 65536 n).2.1⟩
theorem isq_lt {n m : Int} (h0 : 0 < m) (h : n < m * m) : isq n < m := by
  obtain ⟨h1, _, h3, _⟩ := sqN_spec 65536 n
  change 0 ≤ isq n at h1
  change isq n * isq n ≤ n ∨ isq n = 0 at h3
  rcases Int.lt_or_le (isq n) m with hl | hl
  · exact hl
  · have : m * m ≤ isq n * isq n := Int.mul_le_mul hl hl (by omega) h1
    omega
theorem isq_le {n m : Int} (hm : m ≤ 65536) (h : m * m ≤ n) : m ≤ isq n := by
  obtain ⟨_, _, _, h4⟩ := sqN_spec 65536 n
  rcases Int.lt_or_le (isq n) m with hl | hl
  · have := h4 m hl (by omega); omega
  · exact hl
theorem isq_sq {s : Int} (h0 : 0 ≤ s) (h : s ≤ 65536) : isq (s * s) = s := by
  have h1 := isq_le (n := s * s) h (Int.le_refl _)
  have h2 := isq_lt (n := s * s) (m := s + 1) (by omega) (by grind)
  omega
def roM (x : Int × Int) : Int := w64 ((w64 (w64 (x.1 + x.2) + 1)).tdiv 2)
def roH (n : Int) (x : Int × Int) : St := stE 23 (envL [(0, int n), (2, int 0), (3, int x.1), (4, int x.2)])
def roStep (n : Int) (x : Int × Int) : Tree (X × St) := .node (decide (x.1 < x.2)) (.need (!((2 : Int) == 0)) (.node (decide (n < w64 (roM x * roM x))) (.leaf (.normal, roH n (x.1, w64 (roM x - 1)))) (.leaf (.normal, roH n (roM x, x.2))))) (.leaf (.exit 0, roH n x))
theorem ro_round (n : Int) (x : Int × Int) : roundF Tryz.prog noTab Tryz.f126 [0, 2, 3, 4] [0, 2, 3, 4] (roH n x) = roStep n x := by
  obtain ⟨a, b⟩ := x
  kernel_rfl
theorem ro_loop (n : Int) : SumAt Tryz.prog (loopF Tryz.f126) (roH n (0, 65536)) (.exit 0, roH n (isq n, isq n)) := by
  refine sum_loop rec0 (roH n) (fun x => (x.2 - x.1).toNat) (fun x => 0 ≤ x.1 ∧ x.1 ≤ isq n ∧ isq n ≤ x.2 ∧ x.2 ≤ 65536) (fun _ => (.exit 0, roH n (isq n, isq n))) (roStep n) (fun x _ => ro_round n x) (fun x hx => ?_) (0, 65536) ⟨Int.le_refl 0, (isq_range n).1, (isq_range n).2, Int.le_refl _⟩
  obtain ⟨a, b⟩ := x
  obtain ⟨h1, h2, h3, h4⟩ := hx
  simp only at h1 h2 h3 h4
  unfold roStep
  by_cases h : a < b
  · have hm : roM (a, b) = (a + b + 1) / 2 := by
      unfold roM
      simp only
      rw [w64_id (n := a + b) (by omega), w64_id (n := a + b + 1) (by omega), Int.tdiv_eq_ediv_of_nonneg (by omega), w64_id (by omega)]
    have hb : ((a + b + 1) / 2).natAbs ≤ 65536 := by omega
    have hsq := mul_bd hb hb
    have hpos : 0 < (a + b + 1) / 2 := by omega
    rw [hm, w64_id (n := (a + b + 1) / 2 * ((a + b + 1) / 2)) (by omega), w64_id (n := (a + b + 1) / 2 - 1) (by omega)]
    simp only [h, decide_true, Tree.All]
    refine ⟨rfl, ?_⟩
    by_cases hc : n < (a + b + 1) / 2 * ((a + b + 1) / 2)
    · have := isq_lt hpos hc
      simp only [hc, decide_true]
      exact ⟨(a, (a + b + 1) / 2 - 1), rfl, ⟨h1, h2, by simp only; omega, by simp only; omega⟩, by simp only; omega, trivial⟩
    · have := isq_le (n := n) (m := (a + b + 1) / 2) (by omega) (by omega)
      simp only [hc, decide_false]
      exact ⟨((a + b + 1) / 2, b), rfl, ⟨by simp only; omega, by simp only; omega, h3, h4⟩, by simp only; omega, trivial⟩
  · simp only [h, decide_false, Tree.All]
    have e1 : a = isq n := by omega
    have e2 : b = isq n := by omega
    subst e2
    rw [e1]
theorem ro_call (n : Int) : CallAt Tryz.prog 126 [int n] hp0 (int (isq n)) hp0 := by
  have hpre : preT Tryz.prog noTab Tryz.f126 [int n] hp0 [0, 2, 3, 4] = .leaf (.inr (pathF Tryz.f126, roH n (0, 65536))) := by kernel_rfl
  refine call_pre noTab_ok Tryz.func126 (by kernel_rfl) 1 [0, 2, 3, 4] (by kernel_rfl) ?_
  rw [hpre]
  refine cut_stop _ [] (ro_loop n) rfl ?_
  have hpost : ∀ s : Int, postT Tryz.prog noTab Tryz.f126 (.exit 0) (roH n (s, s)) hp0 [] = .leaf (.inl (true, int s, hp0)) := fun s => by kernel_rfl
  rw [hpost]
  exact cut_done
def rootV : List Int → List Bool → A
  | [n], [] => int (isq n)
  | _, _ => int 0
theorem root_ok : SpecOk Tryz.prog 126 (specI [.i] (fun _ _ => true) rootV) := specI_ok (fun l m => by unfold rootV; split <;> rfl) fun l m hl hm _ => match l, m, hl, hm with
  | [n], [], _, _ => ro_call n

/-! ### Numbers -/
def lenW (x y z : Int) : Int := isq (dotW x y z x y z)
def isLen (x y z : Int) : Bool := w64 (lenW x y z * lenW x y z) == dotW x y z x y z
def lenE (x y z : Int) : Int := two0 (rayErr x y z) (errIf (!(isLen x y z)) 1)
def lenN (x y z : Int) : Int := only0 (lenE x y z) (lenW x y z)
def z4 (a b c d : Int) : Bool := (a == 0) && ((b == 0) && ((c == 0) && ((d == 0) && true)))
def whE (a b c d : Int) : Int := firstZ [firstZ [wW a (-32) 32, wW b (-32) 32, wW c (-32) 32, wW d (-32) 32], errIf (z4 a b c d) 6]
def whX (a b c d : Int) : Int := w64 (w64 (w64 (w64 (a * a) + w64 (b * b)) - w64 (c * c)) - w64 (d * d))
def whY (a b c d : Int) : Int := w64 (2 * w64 (w64 (a * d) + w64 (b * c)))
def whZ (a b c d : Int) : Int := w64 (2 * w64 (w64 (b * d) - w64 (a * c)))
def nmE0 (ax ay az bx by' bz : Int) : Int := firstZ [errIf (!(isLen ax ay az) || !(isLen bx by' bz)) 1, errIf (oppW ax ay az bx by' bz) 6]
def nmW (ax ay az bx by' bz a b : Int) : Int := suW (lenW bx by' bz) a (lenW ax ay az) b
def nmE1 (ax ay az bx by' bz : Int) : Int := smErr (nmW ax ay az bx by' bz ax bx) (nmW ax ay az bx by' bz ay by') (nmW ax ay az bx by' bz az bz)
def nmR1 (ax ay az bx by' bz a b : Int) : Int := smW (nmW ax ay az bx by' bz ax bx) (nmW ax ay az bx by' bz ay by') (nmW ax ay az bx by' bz az bz) (nmW ax ay az bx by' bz a b)
def nmE (ax ay az bx by' bz : Int) : Int := two0 (raysErr ax ay az bx by' bz) (two0 (nmE0 ax ay az bx by' bz) (nmE1 ax ay az bx by' bz))
def nmR (ax ay az bx by' bz a b : Int) : Int := only0 (raysErr ax ay az bx by' bz) (only0 (nmE0 ax ay az bx by' bz) (nmR1 ax ay az bx by' bz a b))
theorem len_bd (x y z : Int) : (lenW x y z).natAbs ≤ 65536 := by have := isq_range (dotW x y z x y z); unfold lenW; omega
theorem nm_eq {M N : Nat} {ax ay az bx b2 bz : Int} (hA : M ≤ 1048576) (hB : N ≤ 1048576) {a b : Int} (ha : a.natAbs ≤ M) (hb : b.natAbs ≤ N) : nmW ax ay az bx b2 bz a b = lenW bx b2 bz * a + lenW ax ay az * b ∧ (nmW ax ay az bx b2 bz a b).natAbs ≤ 65536 * M + 65536 * N := by
  have h := su_bd (len_bd bx b2 bz) ha (len_bd ax ay az) hb (by omega)
  unfold nmW
  rw [h.1]
  exact ⟨rfl, h.2⟩
theorem nm_in3 {ax ay az bx b2 bz : Int} (h : raysErr ax ay az bx b2 bz = 0) : in3 (nmW ax ay az bx b2 bz ax bx) (nmW ax ay az bx b2 bz ay b2) (nmW ax ay az bx b2 bz az bz) = true := by
  obtain ⟨⟨ha, _⟩, hb, _⟩ := raysErr_zero.1 h
  exact Bd.in3 (M := 65536 * 4096 + 65536 * 4096) ⟨(nm_eq (by decide) (by decide) ha.1 hb.1).2, (nm_eq (by decide) (by decide) ha.2.1 hb.2.1).2, (nm_eq (by decide) (by decide) ha.2.2 hb.2.2).2⟩ (by decide)
def tb_root : List (FuncId × Spec) := (126, specI [.i] (fun _ _ => true) rootV) :: tb_tiny
theorem tb_root_ok : TabOk Tryz.prog (tabOf tb_root) := tab_cons tb_tiny_ok root_ok

/-! ### spillage/sun.length -/
def lenV : List Int → List Bool → A
  | [x, y, z], [] => .tup [(false, [ci (lenW x y z)]), (false, [.lit (.bool (isLen x y z))])]
  | _, _ => int 0
theorem len_run (x y z : Int) : (evFun Tryz.prog (tabOf tb_root) modes 100 90 (encA [.v 3] [x, y, z] []) hp0).run = some (.tup [(false, [ci (lenW x y z)]), (false, [.lit (.bool (isLen x y z))])], hp0) := by kernel_rfl
theorem len_ok : SpecOk Tryz.prog 90 (specI [.v 3] (fun _ _ => true) lenV) := specI_ok (fun l m => by unfold lenV; split <;> rfl) fun l m hl hm _ => match l, m, hl, hm with
  | [x, y, z], [], _, _ => call_ev tb_root_ok (len_run x y z)
def tb_len : List (FuncId × Spec) := (90, specI [.v 3] (fun _ _ => true) lenV) :: tb_root
theorem tb_len_ok : TabOk Tryz.prog (tabOf tb_len) := tab_cons tb_root_ok len_ok

/-! ### spillage/sun.Length -/
def LenV : List Int → List Bool → A
  | [x, y, z], [] => .tup [(false, [ci (lenN x y z)]), (false, [ci (lenE x y z)])]
  | _, _ => int 0
theorem Len_run (x y z : Int) : (evFun Tryz.prog (tabOf tb_len) modes 100 30 (encA [.v 3] [x, y, z] []) hp0).run = some (.tup [(false, [ci (lenN x y z)]), (false, [ci (lenE x y z)])], hp0) := by
  have h : (evFun Tryz.prog (tabOf tb_len) modes 100 30 (encA [.v 3] [x, y, z] []) hp0).run = (Tree.node (rayErr x y z != 0) (.leaf (.tup [(false, [ci (0)]), (false, [ci (rayErr x y z)])], hp0)) (.node (!(isLen x y z)) (.leaf (.tup [(false, [ci (0)]), (false, [ci (1)])], hp0)) (.leaf (.tup [(false, [ci (lenW x y z)]), (false, [ci (0)])], hp0)))).run := by kernel_rfl
  rw [h]
  unfold lenN lenE two0 only0
  cases he : (rayErr x y z != 0) with
  | true => simp only [he]; rfl
  | false => cases isLen x y z <;> rfl
theorem Len_ok : SpecOk Tryz.prog 30 (specI [.v 3] (fun _ _ => true) LenV) := specI_ok (fun l m => by unfold LenV; split <;> rfl) fun l m hl hm _ => match l, m, hl, hm with
  | [x, y, z], [], _, _ => call_ev tb_len_ok (Len_run x y z)
def tb_Len : List (FuncId × Spec) := (30, specI [.v 3] (fun _ _ => true) LenV) :: tb_len
theorem tb_Len_ok : TabOk Tryz.prog (tabOf tb_Len) := tab_cons tb_len_ok Len_ok

/-! ### spillage/sun.Whole -/
def WholeV : List Int → List Bool → A
  | [a, b, c, d], [] => .tup [(true, [ci (only0 (whE a b c d) (whX a b c d)), ci (only0 (whE a b c d) (whY a b c d)), ci (only0 (whE a b c d) (whZ a b c d))]), (false, [ci (whE a b c d)])]
  | _, _ => int 0
theorem Whole_run (a b c d : Int) : (evFun Tryz.prog (tabOf tb_Len) modes 100 29 (encA [.v 4] [a, b, c, d] []) hp0).run = some (.tup [(true, [ci (only0 (whE a b c d) (whX a b c d)), ci (only0 (whE a b c d) (whY a b c d)), ci (only0 (whE a b c d) (whZ a b c d))]), (false, [ci (whE a b c d)])], hp0) := by
  have h : (evFun Tryz.prog (tabOf tb_Len) modes 100 29 (encA [.v 4] [a, b, c, d] []) hp0).run = (Tree.node (whE a b c d != 0) (.leaf (.tup [(true, [ci (0), ci (0), ci (0)]), (false, [ci (whE a b c d)])], hp0)) (.leaf (.tup [(true, [ci (whX a b c d), ci (whY a b c d), ci (whZ a b c d)]), (false, [ci (0)])], hp0))).run := by kernel_rfl
  rw [h]
  unfold only0
  cases he : (whE a b c d != 0) with
  | true => rfl
  | false =>
    have he : whE a b c d = 0 := by simpa using he
    rw [he]; rfl
theorem Whole_ok : SpecOk Tryz.prog 29 (specI [.v 4] (fun _ _ => true) WholeV) := specI_ok (fun l m => by unfold WholeV; split <;> rfl) fun l m hl hm _ => match l, m, hl, hm with
  | [a, b, c, d], [], _, _ => call_ev tb_Len_ok (Whole_run a b c d)
def tb_Whole : List (FuncId × Spec) := (29, specI [.v 4] (fun _ _ => true) WholeV) :: tb_Len
theorem tb_Whole_ok : TabOk Tryz.prog (tabOf tb_Whole) := tab_cons tb_Len_ok Whole_ok

/-! ### spillage/sun.Normal -/
def NormV : List Int → List Bool → A
  | [ax, ay, az, bx, by', bz], [] => .tup [(true, [ci (nmR ax ay az bx by' bz ax bx), ci (nmR ax ay az bx by' bz ay by'), ci (nmR ax ay az bx by' bz az bz)]), (false, [ci (nmE ax ay az bx by' bz)])]
  | _, _ => int 0
theorem Norm_run (ax ay az bx by' bz : Int) : (evFun Tryz.prog (tabOf tb_Whole) modes 100 31 (encA [.v 3, .v 3] [ax, ay, az, bx, by', bz] []) hp0).run = some (.tup [(true, [ci (nmR ax ay az bx by' bz ax bx), ci (nmR ax ay az bx by' bz ay by'), ci (nmR ax ay az bx by' bz az bz)]), (false, [ci (nmE ax ay az bx by' bz)])], hp0) := by
  have h : (evFun Tryz.prog (tabOf tb_Whole) modes 100 31 (encA [.v 3, .v 3] [ax, ay, az, bx, by', bz] []) hp0).run = (Tree.node (raysErr ax ay az bx by' bz != 0) (.leaf (.tup [(true, [ci (0), ci (0), ci (0)]), (false, [ci (raysErr ax ay az bx by' bz)])], hp0)) (.node (!(isLen ax ay az)) (.node (firstZ [errIf true 1, errIf (oppW ax ay az bx by' bz) 6] != 0) (.leaf (.tup [(true, [ci (0), ci (0), ci (0)]), (false, [ci (firstZ [errIf true 1, errIf (oppW ax ay az bx by' bz) 6])])], hp0)) (.need (in3 (nmW ax ay az bx by' bz ax bx) (nmW ax ay az bx by' bz ay by') (nmW ax ay az bx by' bz az bz)) (.leaf (.tup [(true, [ci (nmR1 ax ay az bx by' bz ax bx), ci (nmR1 ax ay az bx by' bz ay by'), ci (nmR1 ax ay az bx by' bz az bz)]), (false, [ci (nmE1 ax ay az bx by' bz)])], hp0)))) (.node (firstZ [errIf (!(isLen bx by' bz)) 1, errIf (oppW ax ay az bx by' bz) 6] != 0) (.leaf (.tup [(true, [ci (0), ci (0), ci (0)]), (false, [ci (firstZ [errIf (!(isLen bx by' bz)) 1, errIf (oppW ax ay az bx by' bz) 6])])], hp0)) (.need (in3 (nmW ax ay az bx by' bz ax bx) (nmW ax ay az bx by' bz ay by') (nmW ax ay az bx by' bz az bz)) (.leaf (.tup [(true, [ci (nmR1 ax ay az bx by' bz ax bx), ci (nmR1 ax ay az bx by' bz ay by'), ci (nmR1 ax ay az bx by' bz az bz)]), (false, [ci (nmE1 ax ay az bx by' bz)])], hp0)))))).run := by kernel_rfl
  rw [h]
  unfold nmR nmE nmE0 only0 two0
  cases he : (raysErr ax ay az bx by' bz != 0) with
  | true => rfl
  | false =>
    have he : raysErr ax ay az bx by' bz = 0 := by simpa using he
    simp only [Tree.run, nm_in3 he]
    cases isLen ax ay az with
    | true =>
      simp only [Bool.not_true, Bool.false_or]
      cases hf : (firstZ [errIf (!(isLen bx by' bz)) 1, errIf (oppW ax ay az bx by' bz) 6] != 0) <;> rfl
    | false =>
      simp only [Bool.not_false, Bool.true_or]
      cases hf : (firstZ [errIf true 1, errIf (oppW ax ay az bx by' bz) 6] != 0) <;> rfl
theorem Norm_ok : SpecOk Tryz.prog 31 (specI [.v 3, .v 3] (fun _ _ => true) NormV) := specI_ok (fun l m => by unfold NormV; split <;> rfl) fun l m hl hm _ => match l, m, hl, hm with
  | [ax, ay, az, bx, by', bz], [], _, _ => call_ev tb_Whole_ok (Norm_run ax ay az bx by' bz)
def tb_Norm : List (FuncId × Spec) := (31, specI [.v 3, .v 3] (fun _ _ => true) NormV) :: tb_Whole
theorem tb_Norm_ok : TabOk Tryz.prog (tabOf tb_Norm) := tab_cons tb_Whole_ok Norm_ok
end Go.Ev
