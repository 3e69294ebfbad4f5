/- math.Abs and math.Floor, walked (their bodies call functions without a body); samples of 0 and 0.25. Conditions: Floor's argument is no NaN. -/
import Derived.Test.YtjckcdpjibfacaaGreatSkb
import Derived.Test.YtjckcdpjibfacaaGreatPlace
import Derived.Laws.Externs
namespace Go.Proofs
open Go.RowKit
def Tryz.absB (x : Nat) : Int := bits BinOp.andNot IntKind.u64 (x : Int) 9223372036854775808
def Tryz.downB (x : Nat) : Nat := FloatKind.f64.encode ((FloatKind.f64.decode x).integral .down)
def Tryz.isNum : Ieee.Datum → Bool
 | .nan _ _ => false
 | _ => true
theorem Tryz.run_bits (x : Nat) (w : World) : (callFunc 105 #[.float .f64 x]).run Tryz.prog w = .ok (.value (.int .u64 x)) w := by
 rw [run_callFunc_extern (e := Extern.MathFloatBits.float64bits) Tryz.func105 (by kernel_rfl) (by kernel_rfl) (by kernel_rfl) (by kernel_rfl)]
 rfl
theorem Tryz.run_frombits (n : Int) (w : World) : (callFunc 104 #[.int .u64 n]).run Tryz.prog w = .ok (.value (.float .f64 n.toNat)) w := by
 rw [run_callFunc_extern (e := Extern.MathFloatBits.float64frombits) Tryz.func104 (by kernel_rfl) (by kernel_rfl) (by kernel_rfl) (by kernel_rfl)]
 rfl
theorem Tryz.run_down (x : Nat) (hx : Tryz.isNum (FloatKind.f64.decode x) = true) (w : World) : (callFunc 102 #[.float .f64 x]).run Tryz.prog w = .ok (.value (.float .f64 (Tryz.downB x))) w := by
 rw [run_callFunc_extern (e := Extern.MathFloor.toIntegral "math.archFloor" .down) Tryz.func102 (by kernel_rfl) (by kernel_rfl) (by kernel_rfl) (by kernel_rfl)]
 have key : ∀ d, FloatKind.f64.decode x = d → Tryz.isNum d = true → (Extern.MathFloor.toIntegral "math.archFloor" .down #[.float .f64 x]).run Tryz.prog w = .ok (.float .f64 (FloatKind.f64.encode (d.integral .down))) w := by
  intro d h hd
  conv => lhs; arg 2; whnf
  rw [h]
  cases d with
  | nan s t => cases hd
  | infinity s => rfl
  | number s a b => rfl
 rw [key _ rfl hx]
 rfl
theorem Tryz.abs_walk (x : Nat) (w : World) : Calls Tryz.prog 101 #[.float .f64 x] w fun e w' => e = .returned (.float .f64 (Tryz.absB x).toNat) ∧ w' = w := by
 have h1 := Tryz.run_bits x
 have h2 := Tryz.run_frombits
 go_enter Tryz.func101, Tryz.ntmps101
 go_wp2
 go_ret
 exact ⟨rfl, rfl⟩
theorem Tryz.floor_walk (x : Nat) (hx : Tryz.isNum (FloatKind.f64.decode x) = true) (w : World) : Calls Tryz.prog 100 #[.float .f64 x] w fun e w' => e = .returned (.float .f64 (Tryz.downB x)) ∧ w' = w := by
 have h1 := Tryz.run_down x hx
 go_enter Tryz.func100, Tryz.ntmps100
 go_wp2
 go_ret
 exact ⟨rfl, rfl⟩
end Go.Proofs
namespace Go.Ev
open Go Go.Proofs
set_option maxRecDepth 100000
def flA (k : FloatKind) (x : Nat) : A := .one (.lit (.float k x))
def absSp : Spec := fun args h => match args with
 | [.one (.lit (.float .f64 x))] => .leaf (flA .f64 (Tryz.absB x).toNat, h)
 | _ => .fail 720
theorem abs_ok : SpecOk Tryz.prog 101 absSp := by
 intro args h v h' hr E w vals rh hargs
 unfold absSp at hr
 split at hr
 ·rename_i x
  simp only [Tree.run, Option.some.injEq, Prod.mk.injEq] at hr
  obtain ⟨rfl, rfl⟩ := hr
  match vals, hargs with
  | [y], ⟨⟨hy, _⟩, _⟩ =>
   subst hy
   exact (Tryz.abs_walk x w).mono fun e w' ⟨he, hw⟩ => ⟨_, E, he, ⟨rfl, rfl⟩, by subst hw; exact Stp.refl rh⟩
 ·cases hr
def flrSp : Spec := fun args h => match args with
 | [.one (.lit (.float .f64 x))] => .need (Tryz.isNum (FloatKind.f64.decode x)) (.leaf (flA .f64 (Tryz.downB x), h))
 | _ => .fail 721
theorem flr_ok : SpecOk Tryz.prog 100 flrSp := by
 intro args h v h' hr E w vals rh hargs
 unfold flrSp at hr
 split at hr
 ·rename_i x
  obtain ⟨hx, hr⟩ := Tree.need_some hr
  simp only [Tree.run, Option.some.injEq, Prod.mk.injEq] at hr
  obtain ⟨rfl, rfl⟩ := hr
  match vals, hargs with
  | [y], ⟨⟨hy, _⟩, _⟩ =>
   subst hy
   exact (Tryz.floor_walk x hx w).mono fun e w' ⟨he, hw⟩ => ⟨_, E, he, ⟨rfl, rfl⟩, by subst hw; exact Stp.refl rh⟩
 ·cases hr
def tbF0 : List (FuncId × Spec) := (100, flrSp) :: (101, absSp) :: tb_tiny
theorem tbF0_ok : TabOk Tryz.prog (tabOf tbF0) := tab_cons (tab_cons tb_tiny_ok abs_ok) flr_ok
def q25 : Nat := 1048576000
def qOk (x : Nat) : Bool := Nat.beq x 0 || Nat.beq x q25
def levQ (x : Nat) : Int := match Nat.beq x 0 with | true => 0 | false => 4
def smpQ (n : Int) : Nat := match n == 0 with | true => 0 | false => q25
theorem qOk_or {x : Nat} (h : qOk x = true) : x = 0 ∨ x = q25 := by
 unfold qOk at h
 rw [Bool.or_eq_true] at h
 exact h.imp Nat.eq_of_beq_eq_true Nat.eq_of_beq_eq_true
theorem ckS_0 : (evFun Tryz.prog (tabOf tbF0) modes 100 82 [flA .f32 0] hp0).run = some (int 0, hp0) := by kernel_rfl
theorem ckS_q : (evFun Tryz.prog (tabOf tbF0) modes 100 82 [flA .f32 q25] hp0).run = some (int 0, hp0) := by kernel_rfl
theorem lev_0 : (evFun Tryz.prog (tabOf tbF0) modes 100 84 [flA .f32 0] hp0).run = some (int 0, hp0) := by kernel_rfl
theorem lev_q : (evFun Tryz.prog (tabOf tbF0) modes 100 84 [flA .f32 q25] hp0).run = some (int 4, hp0) := by kernel_rfl
theorem smp_0 : (evFun Tryz.prog (tabOf tbF0) modes 100 89 [int 0] hp0).run = some (flA .f32 0, hp0) := by kernel_rfl
theorem smp_q : (evFun Tryz.prog (tabOf tbF0) modes 100 89 [int 4] hp0).run = some (flA .f32 q25, hp0) := by kernel_rfl
theorem one_ok {f : FuncId} {F : A → Tree A} (hF : ∀ a v, (F a).run = some v → a.noId = true ∧ v.noId = true ∧ CallAt Tryz.prog f [a] hp0 v hp0) : SpecOk Tryz.prog f fun args h => match args with
  | [a] => (F a).bind fun v => .leaf (v, h)
  | _ => .fail 722 := by
 intro args h v h' hr E w vals rh hargs
 simp only at hr
 split at hr
 ·rename_i a
  obtain ⟨b, hb, hr⟩ := Tree.bind_some hr
  simp only [Tree.run, Option.some.injEq, Prod.mk.injEq] at hr
  obtain ⟨rfl, rfl⟩ := hr
  obtain ⟨h1, h2, h3⟩ := hF a _ hb
  exact lift0 h3 h2 (by simp [h1]) rh hargs
 ·cases hr
def ckSF : A → Tree A
 | .one (.lit (.float .f32 x)) => .need (qOk x) (.leaf (int 0))
 | _ => .fail 723
def ckSSp : Spec := fun args h => match args with
 | [a] => (ckSF a).bind fun v => .leaf (v, h)
 | _ => .fail 722
theorem ckS_ok : SpecOk Tryz.prog 82 ckSSp := one_ok (F := ckSF) fun a v hr => by
 unfold ckSF at hr
 split at hr
 ·obtain ⟨hx, hr⟩ := Tree.need_some hr
  simp only [Tree.run, Option.some.injEq] at hr
  subst hr
  rcases qOk_or hx with rfl | rfl
  ·exact ⟨rfl, rfl, call_ev tbF0_ok ckS_0⟩
  ·exact ⟨rfl, rfl, call_ev tbF0_ok ckS_q⟩
 ·cases hr
def levF (lv : Nat → Int) : A → Tree A
 | .one (.lit (.float .f32 x)) => .need (qOk x) (.leaf (int (lv x)))
 | _ => .fail 724
def levSp (lv : Nat → Int) : Spec := fun args h => match args with
 | [a] => (levF lv a).bind fun v => .leaf (v, h)
 | _ => .fail 722
theorem lev_ok : SpecOk Tryz.prog 84 (levSp levQ) := one_ok (F := levF levQ) fun a v hr => by
 unfold levF at hr
 split at hr
 ·obtain ⟨hx, hr⟩ := Tree.need_some hr
  simp only [Tree.run, Option.some.injEq] at hr
  subst hr
  rcases qOk_or hx with rfl | rfl
  ·exact ⟨rfl, rfl, call_ev tbF0_ok lev_0⟩
  ·exact ⟨rfl, rfl, call_ev tbF0_ok lev_q⟩
 ·cases hr
def smpF (sm : Int → Nat) : A → Tree A
 | .one (.lit (.int .i64 n)) => .need (n == 0 || n == 4) (.leaf (flA .f32 (sm n)))
 | _ => .fail 725
def smpSp (sm : Int → Nat) : Spec := fun args h => match args with
 | [a] => (smpF sm a).bind fun v => .leaf (v, h)
 | _ => .fail 722
theorem smp_ok : SpecOk Tryz.prog 89 (smpSp smpQ) := one_ok (F := smpF smpQ) fun a v hr => by
 unfold smpF at hr
 split at hr
 ·rename_i n
  obtain ⟨hx, hr⟩ := Tree.need_some hr
  simp only [Tree.run, Option.some.injEq] at hr
  subst hr
  rw [Bool.or_eq_true, beq_iff_eq, beq_iff_eq] at hx
  rcases hx with rfl | rfl
  ·exact ⟨rfl, rfl, call_ev tbF0_ok smp_0⟩
  ·exact ⟨rfl, rfl, call_ev tbF0_ok smp_q⟩
 ·cases hr
end Go.Ev
