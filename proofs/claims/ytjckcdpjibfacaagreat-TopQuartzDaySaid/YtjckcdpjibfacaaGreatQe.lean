/- The law's entries. Conditions: as the entries say. -/
import Derived.Test.YtjckcdpjibfacaaGreatGvn
namespace Go.Ev
open Go Go.Proofs
set_option maxRecDepth 100000
def qfV : List Int → List Bool → A
 | [x, y, z], [] => int (maxW x y z)
 | _, _ => int 0
theorem qf_ok : SpecOk Tryz.prog 7 (specI [.v 3] (fun _ _ => true) qfV) := specI_ok (fun l m => by unfold qfV; split <;> rfl) fun l m hl hm _ => match l, m, hl, hm with
 | [x, y, z], [], _, _ => call_ev tb_Cos_ok (show (evFun Tryz.prog (tabOf tb_Cos) modes 100 7 (encA [.v 3] [x, y, z] []) hp0).run = some (int (maxW x y z), hp0) by kernel_rfl)
def qcV : List Int → List Bool → A
 | [x, y, z, num, den], [] => int (qconeErr x y z num den)
 | _, _ => int 0
theorem qc_ok : SpecOk Tryz.prog 6 (specI [.v 5] (fun _ _ => true) qcV) := specI_ok (fun l m => by unfold qcV; split <;> rfl) fun l m hl hm _ => match l, m, hl, hm with
 | [x, y, z, num, den], [], _, _ => call_ev tb_Cos_ok (show (evFun Tryz.prog (tabOf tb_Cos) modes 100 6 (encA [.v 5] [x, y, z, num, den] []) hp0).run = some (int (qconeErr x y z num den), hp0) by kernel_rfl)
def qsW (x y z d a : Int) : Int := match qrayErr x y z != 0 with | true => d | false => a
def qsV : List Int → List Bool → A
 | [x, y, z], [] => vec (qsW x y z 0 x) (qsW x y z 0 y) (qsW x y z 1 z)
 | _, _ => int 0
theorem qs_run (x y z : Int) : (evFun Tryz.prog (tabOf tb_Cos) modes 100 19 (encA [.v 3] [x, y, z] []) hp0).run = some (vec (qsW x y z 0 x) (qsW x y z 0 y) (qsW x y z 1 z), hp0) := by
 have h : (evFun Tryz.prog (tabOf tb_Cos) modes 100 19 (encA [.v 3] [x, y, z] []) hp0).run = (Tree.node (qrayErr x y z != 0) (.leaf (vec 0 0 1, hp0)) (.leaf (vec x y z, hp0))).run := by kernel_rfl
 rw [h]
 unfold qsW
 cases (qrayErr x y z != 0) <;> rfl
theorem qs_ok : SpecOk Tryz.prog 19 (specI [.v 3] (fun _ _ => true) qsV) := specI_ok (fun l m => by unfold qsV; split <;> rfl) fun l m hl hm _ => match l, m, hl, hm with
 | [x, y, z], [], _, _ => call_ev tb_Cos_ok (qs_run x y z)
abbrev F8 (α : Type) := Int → Int → Int → Int → Int → Int → Int → Int → α
abbrev F11 (α : Type) := Int → Int → Int → F8 α
abbrev F6 (α : Type) := Int → Int → Int → Int → Int → Int → α
def icK : List Int → List Bool → Bool
 | [x, y, z, num, den, a, b, c], [] => firstZ [coneErr x y z num den, rayErr a b c] == 0
 | _, _ => false
def icV (I : F8 Bool) : List Int → List Bool → A
 | [x, y, z, num, den, a, b, c], [] => .tup [(false, [.lit (.bool (I x y z num den a b c))]), (false, [ci 0])]
 | _, _ => int 0
theorem ic_ok : SpecOk Tryz.prog 12 (specI [.v 5, .v 3] icK (icV insW)) := specI_ok (fun l m => by unfold icV; split <;> rfl) fun l m hl hm hok => match l, m, hl, hm, hok with
 | [x, y, z, num, den, a, b, c], [], _, _, hok => by
  have he : firstZ [coneErr x y z num den, rayErr a b c] = 0 := by simpa [icK] using hok
  have h := inside_run x y z num den a b c
  rw [he] at h
  exact call_ev tb_ins_ok h
def mcK : List Int → List Bool → Bool
 | [x, y, z, num, den, ax, ay, az, bx, b2, bz], [] => meetErr x y z num den ax ay az bx b2 bz == 0 && turnErr x y z ax ay az bx b2 bz == 0
 | _, _ => false
def mcV (M : F11 Bool) : List Int → List Bool → A
 | [x, y, z, num, den, ax, ay, az, bx, b2, bz], [] => .tup [(false, [.lit (.bool (M x y z num den ax ay az bx b2 bz))]), (false, [ci 0])]
 | _, _ => int 0
def mcW (x y z num den ax ay az bx b2 bz : Int) : Bool := insW x y z num den ax ay az || (insW x y z num den bx b2 bz || btwW x y z num den ax ay az bx b2 bz)
theorem mc_ok : SpecOk Tryz.prog 13 (specI [.v 5, .v 3, .v 3] mcK (mcV mcW)) := specI_ok (fun l m => by unfold mcV; split <;> rfl) fun l m hl hm hok => match l, m, hl, hm, hok with
 | [x, y, z, num, den, ax, ay, az, bx, b2, bz], [], _, _, hok => by
  have he : meetErr x y z num den ax ay az bx b2 bz = 0 ∧ turnErr x y z ax ay az bx b2 bz = 0 := by simpa [mcK] using hok
  have h := meets_run x y z num den ax ay az bx b2 bz
  rw [he.1, he.2] at h
  exact call_ev tb_wide_ok h
def ccK : List Int → List Bool → Bool
 | [ax, ay, az, bx, b2, bz], [] => raysErr ax ay az bx b2 bz == 0
 | _, _ => false
def ccV (S N D : F6 Int) : List Int → List Bool → A
 | [ax, ay, az, bx, b2, bz], [] => .tup [(false, [ci (S ax ay az bx b2 bz)]), (true, [ci (N ax ay az bx b2 bz), ci (D ax ay az bx b2 bz)]), (false, [ci 0])]
 | _, _ => int 0
def ccS (ax ay az bx b2 bz : Int) : Int := signW (dotW ax ay az bx b2 bz)
def ccN (ax ay az bx b2 bz : Int) : Int := rtW (coN ax ay az bx b2 bz) (coD ax ay az bx b2 bz) (coN ax ay az bx b2 bz)
def ccD (ax ay az bx b2 bz : Int) : Int := rtW (coN ax ay az bx b2 bz) (coD ax ay az bx b2 bz) (coD ax ay az bx b2 bz)
theorem cc_ok : SpecOk Tryz.prog 18 (specI [.v 3, .v 3] ccK (ccV ccS ccN ccD)) := specI_ok (fun l m => by unfold ccV; split <;> rfl) fun l m hl hm hok => match l, m, hl, hm, hok with
 | [ax, ay, az, bx, b2, bz], [], _, _, hok => by
  have he : raysErr ax ay az bx b2 bz = 0 := by simpa [ccK] using hok
  have h := Cos_run ax ay az bx b2 bz
  rw [he] at h
  exact call_ev tb_ratio_ok h
def a0F (E : FE) (vx vy vz : FV) : FT
 | [t], [], [nm], [⟨some _, n, [.int .i64 g0, .int .i64 g1, .int .i64 g2, .int .i64 g3]⟩] => .need (atOk E nm n g0 g1 g2 g3 t && (noneE (vx n g0 g1 g2 g3 t) (vy n g0 g1 g2 g3 t) (vz n g0 g1 g2 g3 t) == 0)) (.leaf (atR (vx n g0 g1 g2 g3 t) (vy n g0 g1 g2 g3 t) (vz n g0 g1 g2 g3 t) 0, []))
 | _, _, _, _ => .fail 702
def a0Sp (E : FE) (vx vy vz : FV) : Spec := fun args h => specT [(true, [.s, .t skyD]), (false, [.i])] [] (a0F E vx vy vz) args h
theorem a0_ok : SpecOk Tryz.prog 14 (a0Sp skyE vX vY vZ) := by
 refine specT_ok rfl (by decide) fun l m n ts v news hl hm hn ht hnil hr => ?_
 unfold a0F at hr
 split at hr
 ·rename_i t nm id n g0 g1 g2 g3
  obtain ⟨hok, hr⟩ := Tree.need_some hr
  rw [Bool.and_eq_true, beq_iff_eq] at hok
  simp only [Tree.run, Option.some.injEq, Prod.mk.injEq] at hr
  obtain ⟨rfl, rfl⟩ := hr
  obtain ⟨hs, h0, h1, h2⟩ := atOk_of hok.1
  have hc := aA_call nm n g0 g1 g2 g3 t hs h0 h1 h2
  rw [hok.2] at hc
  exact hc
 ·cases hr
structure Fq where
 E : FE
 x : FV
 y : FV
 z : FV
 m : Nat → (Nat → Int) → (Nat → Int) → (Nat → Int) → (Nat → Int) → Nat
 F : Nat → (Nat → Int) → (Nat → Int) → (Nat → Int) → (Nat → Int) → Nat → Int
 T : Nat → (Nat → Int) → (Nat → Int) → (Nat → Int) → (Nat → Int) → Nat → Int
 I : F8 Bool
 M : F11 Bool
 S : F6 Int
 N : F6 Int
 D : F6 Int
 lv : Nat → Int
 sm : Int → Nat
 fr : Nat → (Nat → Int) → Nat → Int
 to : Nat → (Nat → Nat) → Int
def fqT : Fq := ⟨skyE, vX, vY, vZ, dsM, dsF, dsT, insW, mcW, ccS, ccN, ccD, levQ, smpQ, frF', totW levQ⟩
def tbQ (fl : Bool) (f : Fq) : List (FuncId × Spec) := (999999, rowsSp) :: (8, mirSp) :: (7, specI [.v 3] (fun _ _ => true) qfV) :: (6, specI [.v 5] (fun _ _ => true) qcV) :: (19, specI [.v 3] (fun _ _ => true) qsV) ::
 (12, specI [.v 5, .v 3] icK (icV f.I)) :: (13, specI [.v 5, .v 3, .v 3] mcK (mcV f.M)) :: (18, specI [.v 3, .v 3] ccK (ccV f.S f.N f.D)) :: (14, a0Sp f.E f.x f.y f.z) :: (17, aRSp f.E f.x f.y f.z) ::
 (10, dlSp f.E fl f.m f.F f.T) :: (9, gdSp) :: (5, ckSp f.E) :: (20, flSp f.lv f.sm f.fr) :: (22, ttSp f.to) :: (21, owSp) :: tb_Cos
theorem tbQ_ok (fl : Bool) : TabOk Tryz.prog (tabOf (tbQ fl fqT)) := tab_cons (tab_cons (tab_cons (tab_cons (tab_cons (tab_cons (tab_cons (tab_cons (tab_cons (tab_cons (tab_cons (tab_cons (tab_cons (tab_cons (tab_cons (tab_cons tb_Cos_ok owS_ok) ttS_ok) flS_ok) qk_ok) gdSp_ok) (dl_ok fl)) aR_ok) a0_ok) cc_ok) mc_ok) ic_ok) qs_ok) qc_ok) qf_ok) mir_ok) rowsSp_ok
noncomputable def reQ (fl : Bool) (f : Fq) : Code → St → Tree (X × St) := recT Tryz.prog (tabOf (tbQ fl f))
theorem reQ_ok (fl : Bool) : RecOk Tryz.prog (reQ fl fqT) := recT_ok (tbQ_ok fl)
end Go.Ev
