/- Risen; a sky's copy. Conditions: as the entries say. -/
import Derived.Test.YtjckcdpjibfacaaGreatAtE
namespace Go.Ev
open Go Go.Proofs
set_option maxRecDepth 100000
def tbR (E : FE) (vx vy vz : FV) : List (FuncId × Spec) := (14, aASp E vx vy vz) :: tbD E vx vy vz
theorem tbR_ok : TabOk Tryz.prog (tabOf (tbR skyE vX vY vZ)) := tab_cons tbD_ok aA_ok
section
variable (E : FE) (vx vy vz : FV) (nm : ByteArray) (n : Nat) (g0 g1 g2 g3 : Nat → Int) (t : Int)
noncomputable def aRT : Tree ((Bool × A × Hp) ⊕ (List Bool × St)) := preA Tryz.prog (tabOf (tbR E vx vy vz)) Tryz.f17 [skyA nm n, int t] (skH n g0 g1 g2 g3) (false, false)
end
def rsB (x y z : Int) : Bool := (noneE x y z == 0) && decide (z > 0)
def rsR (x y z : Int) : A := .tup [(false, [.lit (.bool (rsB x y z))]), (false, [ci (noneE x y z)])]
section
variable (E : FE) (vx vy vz : FV) (nm : ByteArray) (n : Nat) (g0 g1 g2 g3 : Nat → Int) (t : Int)
def aRF : FT
 | [t], [], [nm], [⟨some _, n, [.int .i64 g0, .int .i64 g1, .int .i64 g2, .int .i64 g3]⟩] => .need (atOk E nm n g0 g1 g2 g3 t) (.leaf (rsR (vx n g0 g1 g2 g3 t) (vy n g0 g1 g2 g3 t) (vz n g0 g1 g2 g3 t), []))
 | _, _, _, _ => .fail 702
def aRSp : Spec := fun args h => specT [(true, [.s, .t skyD]), (false, [.i])] [] (aRF E vx vy vz) args h
def aRL (b : Bool) : SkL := .leaf (.inl (true, .tup [(false, [.lit (.bool b)]), (false, [ci (noneE (vx n g0 g1 g2 g3 t) (vy n g0 g1 g2 g3 t) (vz n g0 g1 g2 g3 t))])], skH n g0 g1 g2 g3))
def aRS : SkL := .need (okN n) (.need (atOk E nm n g0 g1 g2 g3 t) (.node (noneE (vx n g0 g1 g2 g3 t) (vy n g0 g1 g2 g3 t) (vz n g0 g1 g2 g3 t) == 0) (aRL vx vy vz n g0 g1 g2 g3 t (decide (vz n g0 g1 g2 g3 t > 0))) (aRL vx vy vz n g0 g1 g2 g3 t false)))
theorem aR_into : aRT E vx vy vz nm n g0 g1 g2 g3 t = into (aRT E vx vy vz nm n g0 g1 g2 g3 t) (aRS E vx vy vz nm n g0 g1 g2 g3 t) := by kernel_rfl
theorem aR_fits : fits (aRT E vx vy vz nm n g0 g1 g2 g3 t) (aRS E vx vy vz nm n g0 g1 g2 g3 t) = true := by kernel_rfl
end
theorem aR_call (nm : ByteArray) (n : Nat) (g0 g1 g2 g3 : Nat → Int) (t : Int) (_ : SkyOk n g0 g1 g2 g3) (h0 : g0 0 ≤ t) (h1 : t ≤ g0 (n - 1)) (hE : skyE nm n g0 g1 g2 g3 = 0) : CallAt Tryz.prog 17 [skyA nm n, int t] (skH n g0 g1 g2 g3) (rsR (vX n g0 g1 g2 g3 t) (vY n g0 g1 g2 g3 t) (vZ n g0 g1 g2 g3 t)) (skH n g0 g1 g2 g3) := by
 refine call_sk tbR_ok Tryz.func17 (by kernel_rfl) (false, false) (by kernel_rfl) (S := aRS skyE vX vY vZ nm n g0 g1 g2 g3 t) (aR_into skyE vX vY vZ nm n g0 g1 g2 g3 t) (aR_fits skyE vX vY vZ nm n g0 g1 g2 g3 t) (SkLeads.all ?_)
 have hk : atOk skyE nm n g0 g1 g2 g3 t = true := by
  unfold atOk
  rw [hE]
  simp only [Bool.and_eq_true, decide_eq_true_eq]
  exact ⟨rfl, h0, h1⟩
 refine sk_need (okN_ok n) (sk_need hk (sk_either (fun h => sk_leaf ?_) fun h => sk_leaf ?_))
 ·show (_, _) = (_, _)
  unfold rsR rsB
  rw [h]; rfl
 ·show (_, _) = (_, _)
  unfold rsR rsB
  rw [h]; rfl
theorem aR_ok : SpecOk Tryz.prog 17 (aRSp skyE vX vY vZ) := entry_at (F := aRF skyE vX vY vZ) (V := fun n g0 g1 g2 g3 t => rsR (vX n g0 g1 g2 g3 t) (vY n g0 g1 g2 g3 t) (vZ n g0 g1 g2 g3 t)) (fun l m ns ts => by unfold aRF; rfl) aR_call
noncomputable def apN (et : TypeId) (k : Nat) : Bool := Nat.ble (k + 1) (k + 1) && Nat.blt ((k + 1 + 1) * ((Tryz.prog.info? et).map (·.bytes)).getD 0) 140737488355328 && Nat.ble (k + 1 + 1) 9223372036854775807
theorem apN_ok {et : TypeId} {k : Nat} (he : ((Tryz.prog.info? et).map (·.bytes)).getD 0 ≤ 64) (hk : k ≤ 1000000) : apN et k = true := by
 unfold apN
 rw [ble_self]
 generalize ((Tryz.prog.info? et).map (·.bytes)).getD 0 = b at he
 have h1 : Nat.blt ((k + 1 + 1) * b) 140737488355328 = true := by
  rw [Nat.blt_eq]
  have : (k + 1 + 1) * b ≤ 2000000 * 64 := Nat.mul_le_mul (by omega) he
  omega
 have h2 : Nat.ble (k + 1 + 1) 9223372036854775807 = true := by rw [Nat.ble_eq]; omega
 rw [h1, h2]; rfl
def putK (g : Nat → Int) (k : Nat) : Nat → Int := putF g (k + 1) (g (ixN (k + 1)))
theorem putK_eq (g : Nat → Int) (k : Nat) : putK g k = g := by
 unfold putK
 rw [show ixN (k + 1) = k + 1 from idx_nat _]
 exact putF_self _ _
theorem four_rows {x0 x1 x2 x3 : Int} {g0 g1 g2 g3 : Nat → Int} (h0 : x0 = g0 0) (h1 : x1 = g1 0) (h2 : x2 = g2 0) (h3 : x3 = g3 0) {e : TypeId} : ∀ (E : Env) (w : World) (p : Nat × Nat × Nat), blkIs E w p ⟨false, e, .flat [ci x0, ci x1, ci x2, ci x3]⟩ → blkIs E w p ⟨false, e, .rows 1 (skC g0 g1 g2 g3)⟩ := by
 subst h0; subst h1; subst h2; subst h3
 refine blk_body rfl (fun cs e => by cases e) fun E arr hh => rows_one rfl (fun j c col h1 h2 => ?_) hh
 match j, h1, h2 with
 | 0, h1, h2 => injection h1 with h1; injection h2 with h2; subst h1; subst h2; rfl
 | 1, h1, h2 => injection h1 with h1; injection h2 with h2; subst h1; subst h2; rfl
 | 2, h1, h2 => injection h1 with h1; injection h2 with h2; subst h1; subst h2; rfl
 | 3, h1, h2 => injection h1 with h1; injection h2 with h2; subst h1; subst h2; rfl
end Go.Ev
