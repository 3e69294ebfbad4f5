/- Contracts of IsZero and of frames (which read the variable axes). Conditions: as the entries say. (Printed by gen_vec6.py.) -/
import Derived.Test.YtfdfpfojiilcgaaGreatDoorVec5
namespace Go.Ev
open Go Go.Proofs

theorem encA_noId : ∀ (sh : List Sh) (l : List Int) (m : List Bool), (encA sh l m).all A.noId = true := by
  have nl : ∀ l : List Int, noIds (l.map ci) = true := fun l => by
    induction l with
    | nil => rfl
    | cons a l ih => exact ih
  intro sh
  induction sh with
  | nil => intro l m; rfl
  | cons s sh ih =>
    intro l m
    cases s with
    | i => simp only [encA, List.all_cons, Bool.and_eq_true]; exact ⟨rfl, ih _ _⟩
    | b => simp only [encA, List.all_cons, Bool.and_eq_true]; exact ⟨rfl, ih _ _⟩
    | v k => simp only [encA, List.all_cons, Bool.and_eq_true]; exact ⟨nl _, ih _ _⟩
/-- at arguments of these forms, and memory that has the two variables: this value, memory as it was -/
def specG (sh : List Sh) (F : List Int → List Bool → A) : Spec := fun args h => match decA sh args, hasG h with
  | some (l, m), some _ => .leaf (F l m, h)
  | _, _ => .fail 341
theorem specG_ok {f : FuncId} {sh : List Sh} {F : List Int → List Bool → A} (hv : ∀ l m, (F l m).noId = true)
    (hc : ∀ l m, l.length = lenI sh → m.length = lenB sh → ∀ e1 e2, CallAt Tryz.prog f (encA sh l m) (hpG e1 e2) (F l m) (hpG e1 e2)) : SpecOk Tryz.prog f (specG sh F) := by
  intro args h v h' hr E w vals rh hargs
  unfold specG at hr
  split at hr
  · rename_i l m x hd hg
    simp only [Tree.run, Option.some.injEq, Prod.mk.injEq] at hr
    obtain ⟨rfl, rfl⟩ := hr
    obtain ⟨rfl, h2, h3⟩ := dec_enc hd
    exact lift_g (hc l m h2 h3) (hv l m) (encA_noId _ _ _) rh hargs hg
  · cases hr

/-! ### Frame -/
def upX (x y z : Int) : Int := crX 0 0 1 x y z
def upY (x y z : Int) : Int := crY 0 0 1 x y z
def upZ (x y z : Int) : Int := crZ 0 0 1 x y z
def up0 (x y z : Int) : Bool := z3 (upX x y z) (upY x y z) (upZ x y z)
def sdW (x y z c a : Int) : Int := match up0 x y z with | true => c | false => redA (upX x y z) (upY x y z) (upZ x y z) a
def sd1 (x y z : Int) : Int := sdW x y z 1 (upX x y z)
def sd2 (x y z : Int) : Int := sdW x y z 0 (upY x y z)
def sd3 (x y z : Int) : Int := sdW x y z 0 (upZ x y z)
def tp1 (x y z : Int) : Int := crX x y z (sd1 x y z) (sd2 x y z) (sd3 x y z)
def tp2 (x y z : Int) : Int := crY x y z (sd1 x y z) (sd2 x y z) (sd3 x y z)
def tp3 (x y z : Int) : Int := crZ x y z (sd1 x y z) (sd2 x y z) (sd3 x y z)
def frW (x y z a : Int) : Int := redA (tp1 x y z) (tp2 x y z) (tp3 x y z) a
theorem up_eq {x y z : Int} (h : Bd 4096 x y z) : upX x y z = -y ∧ upY x y z = x ∧ upZ x y z = 0 := by
  obtain ⟨h1, h2, h3⟩ := h
  unfold upX upY upZ crX crY crZ
  simp only [Int.zero_mul, Int.one_mul]
  rw [show w64 0 = 0 from rfl, w64_id (n := y) (by omega), w64_id (n := x) (by omega), w64_id (n := 0 - y) (by omega), w64_id (n := x - 0) (by omega)]
  exact ⟨by omega, by omega, rfl⟩
theorem up_bd {x y z : Int} (h : Bd 4096 x y z) : Bd 4096 (upX x y z) (upY x y z) (upZ x y z) := by
  obtain ⟨e1, e2, e3⟩ := up_eq h
  rw [e1, e2, e3]
  obtain ⟨h1, h2, h3⟩ := h
  exact ⟨by omega, by omega, by omega⟩
theorem sd_bd {x y z : Int} (h : Bd 4096 x y z) : Bd 4096 (sd1 x y z) (sd2 x y z) (sd3 x y z) := by
  unfold sd1 sd2 sd3 sdW
  cases h0 : up0 x y z with
  | true => refine ⟨?_, ?_, ?_⟩ <;> simp
  | false =>
    have hne : ¬ (upX x y z = 0 ∧ upY x y z = 0 ∧ upZ x y z = 0) := fun e => by
      have := z3_iff.2 e
      unfold up0 at h0
      rw [this] at h0; cases h0
    obtain ⟨p, q, r, hr⟩ := red_ex hne
    obtain ⟨e1, e2, e3⟩ := redA_of (up_bd h) (by decide) hr
    simp only [e1, e2, e3]
    exact hr.bd (up_bd h)
theorem tp_bd {x y z : Int} (h : Bd 4096 x y z) : Bd 33554432 (tp1 x y z) (tp2 x y z) (tp3 x y z) := by
  have hs := sd_bd h
  unfold tp1 tp2 tp3 crX crY crZ
  have d1 := diff_eq h.2.1 hs.2.2 h.2.2 hs.2.1 (by decide)
  have d2 := diff_eq h.2.2 hs.1 h.1 hs.2.2 (by decide)
  have d3 := diff_eq h.1 hs.2.1 h.2.1 hs.1 (by decide)
  rw [d1.1, d2.1, d3.1]
  exact ⟨d1.2, d2.2, d3.2⟩
def frLeaf (e1 e2 : TypeId) (x y z a b c : Int) : Tree (A × Hp) := .leaf (.tup [(true, [ci a, ci b, ci c, ci (redA (crX x y z a b c) (crY x y z a b c) (crZ x y z a b c) (crX x y z a b c)), ci (redA (crX x y z a b c) (crY x y z a b c) (crZ x y z a b c) (crY x y z a b c)), ci (redA (crX x y z a b c) (crY x y z a b c) (crZ x y z a b c) (crZ x y z a b c))]), (false, [ci 0])], hpG e1 e2)

/-! ### spillage/spillageref02.IsZero -/
def zeroV : List Int → List Bool → A
  | [x, y, z], [] => boo (z3 x y z)
  | _, _ => int 0
theorem zero_run (x y z : Int) : (evFun Tryz.prog (tabOf tb_Norm) modes 100 36 (encA [.v 3] [x, y, z] []) hp0).run = some (boo (z3 x y z), hp0) := by kernel_rfl
theorem zero_ok : SpecOk Tryz.prog 36 (specI [.v 3] (fun _ _ => true) zeroV) := specI_ok (fun l m => by unfold zeroV; split <;> rfl) fun l m hl hm _ => match l, m, hl, hm with
  | [x, y, z], [], _, _ => call_ev tb_Norm_ok (zero_run x y z)
def tb_zero : List (FuncId × Spec) := (36, specI [.v 3] (fun _ _ => true) zeroV) :: tb_Norm
theorem tb_zero_ok : TabOk Tryz.prog (tabOf tb_zero) := tab_cons tb_Norm_ok zero_ok

def frameV : List Int → List Bool → A
  | [x, y, z], [] => .tup [(true, [ci (only0 (rayErr x y z) (sd1 x y z)), ci (only0 (rayErr x y z) (sd2 x y z)), ci (only0 (rayErr x y z) (sd3 x y z)), ci (only0 (rayErr x y z) (frW x y z (tp1 x y z))), ci (only0 (rayErr x y z) (frW x y z (tp2 x y z))), ci (only0 (rayErr x y z) (frW x y z (tp3 x y z)))]), (false, [ci (rayErr x y z)])]
  | _, _ => int 0
theorem frame_run (e1 e2 : TypeId) (x y z : Int) : (evFun Tryz.prog (tabOf tb_zero) modes 100 33 [vec x y z] (hpG e1 e2)).run = some (frameV [x, y, z] [], hpG e1 e2) := by
  have h : (evFun Tryz.prog (tabOf tb_zero) modes 100 33 [vec x y z] (hpG e1 e2)).run =
    (Tree.node (rayErr x y z != 0) (.leaf (.tup [(true, [ci 0, ci 0, ci 0, ci 0, ci 0, ci 0]), (false, [ci (rayErr x y z)])], hpG e1 e2))
      (.node (!(up0 x y z)) (.need (in3 (upX x y z) (upY x y z) (upZ x y z)) (.need (in3 (crX x y z (redA (upX x y z) (upY x y z) (upZ x y z) (upX x y z)) (redA (upX x y z) (upY x y z) (upZ x y z) (upY x y z)) (redA (upX x y z) (upY x y z) (upZ x y z) (upZ x y z))) (crY x y z (redA (upX x y z) (upY x y z) (upZ x y z) (upX x y z)) (redA (upX x y z) (upY x y z) (upZ x y z) (upY x y z)) (redA (upX x y z) (upY x y z) (upZ x y z) (upZ x y z))) (crZ x y z (redA (upX x y z) (upY x y z) (upZ x y z) (upX x y z)) (redA (upX x y z) (upY x y z) (upZ x y z) (upY x y z)) (redA (upX x y z) (upY x y z) (upZ x y z) (upZ x y z))))
          (frLeaf e1 e2 x y z (redA (upX x y z) (upY x y z) (upZ x y z) (upX x y z)) (redA (upX x y z) (upY x y z) (upZ x y z) (upY x y z)) (redA (upX x y z) (upY x y z) (upZ x y z) (upZ x y z)))))
        (.need (in3 (crX x y z 1 0 0) (crY x y z 1 0 0) (crZ x y z 1 0 0)) (frLeaf e1 e2 x y z 1 0 0)))).run := by kernel_rfl
  rw [h]
  unfold frameV only0
  simp only
  cases he : (rayErr x y z != 0) with
  | true => rfl
  | false =>
    have he : rayErr x y z = 0 := by simpa using he
    have hb := (ray_zero.1 he).1
    have hu := (up_bd hb).in3 (by decide)
    have ht := (tp_bd hb).in3 (by decide)
    unfold frW tp1 tp2 tp3 sd1 sd2 sd3 sdW at *
    cases h0 : up0 x y z with
    | true =>
      simp only [h0] at ht ⊢
      simp only [Tree.run, Bool.not_true, ht]
      rw [he]; rfl
    | false =>
      simp only [h0] at ht ⊢
      simp only [Tree.run, Bool.not_false, hu, ht]
      rw [he]; rfl
theorem frame_ok : SpecOk Tryz.prog 33 (specG [.v 3] frameV) := specG_ok (fun l m => by unfold frameV; split <;> rfl) fun l m hl hm e1 e2 => match l, m, hl, hm with
  | [x, y, z], [], _, _ => call_ev tb_zero_ok (frame_run e1 e2 x y z)
def tb_frame : List (FuncId × Spec) := (33, specG [.v 3] frameV) :: tb_zero
theorem tb_frame_ok : TabOk Tryz.prog (tabOf tb_frame) := tab_cons tb_zero_ok frame_ok
end Go.Ev
