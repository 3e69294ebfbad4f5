/- Entries: the sun at a tick, At, Risen, a sky's copy. Conditions: as the entries say. -/
import Derived.Test.YtjckcdpjibfacaaGreatAt
namespace Go.Ev
open Go Go.Proofs
set_option maxRecDepth 100000
abbrev FV := Nat → (Nat → Int) → (Nat → Int) → (Nat → Int) → (Nat → Int) → Int → Int
abbrev FE := ByteArray → Nat → (Nat → Int) → (Nat → Int) → (Nat → Int) → (Nat → Int) → Int
def atOk (E : FE) (nm : ByteArray) (n : Nat) (g0 g1 g2 g3 : Nat → Int) (t : Int) : Bool := E nm n g0 g1 g2 g3 == 0 && (decide (g0 0 ≤ t) && decide (t ≤ g0 (n - 1)))
theorem atOk_of {nm : ByteArray} {n : Nat} {g0 g1 g2 g3 : Nat → Int} {t : Int} (h : atOk skyE nm n g0 g1 g2 g3 t = true) : SkyOk n g0 g1 g2 g3 ∧ g0 0 ≤ t ∧ t ≤ g0 (n - 1) ∧ skyE nm n g0 g1 g2 g3 = 0 := by
 unfold atOk at h
 simp only [Bool.and_eq_true, decide_eq_true_eq, beq_iff_eq] at h
 exact ⟨(sky_ok h.1).1, h.2.1, h.2.2, h.1⟩
section
variable (E : FE) (vx vy vz : FV)
def atEF : FT
 | [t], [], [nm], [⟨some _, n, [.int .i64 g0, .int .i64 g1, .int .i64 g2, .int .i64 g3]⟩] => .need (atOk E nm n g0 g1 g2 g3 t) (.leaf (vec (vx n g0 g1 g2 g3 t) (vy n g0 g1 g2 g3 t) (vz n g0 g1 g2 g3 t), []))
 | _, _, _, _ => .fail 702
def atSp : Spec := fun args h => specT [(true, [.s, .t skyD]), (false, [.i])] [] (atEF E vx vy vz) args h
end
def vX : FV := fun n g0 g1 g2 g3 t => svR n g0 g1 g2 g3 g1 t
def vY : FV := fun n g0 g1 g2 g3 t => svR n g0 g1 g2 g3 g2 t
def vZ : FV := fun n g0 g1 g2 g3 t => svR n g0 g1 g2 g3 g3 t
theorem at_ok : SpecOk Tryz.prog 34 (atSp skyE vX vY vZ) := by
 refine specT_ok rfl (by decide) fun l m n ts v news hl hm hn ht hnil hF => ?_
 unfold atEF at hF
 split at hF
 ·rename_i t nm id n g0 g1 g2 g3
  obtain ⟨hok, hF⟩ := Tree.need_some hF
  simp only [Tree.run, Option.some.injEq, Prod.mk.injEq] at hF
  obtain ⟨rfl, rfl⟩ := hF
  obtain ⟨hs, h0, h1, _⟩ := atOk_of hok
  exact at_call hs h0 h1 nm
 ·cases hF
def tbD (E : FE) (vx vy vz : FV) : List (FuncId × Spec) := (34, atSp E vx vy vz) :: (32, ckSp E) :: tbK
theorem tbD_ok : TabOk Tryz.prog (tabOf (tbD skyE vX vY vZ)) := tab_cons (tab_cons tbK_ok pk_ok) at_ok
def lB (n : Nat) : Bool := decide (0 ≤ IntKind.i64.wrap ((n : Int) - 1)) && decide (IntKind.i64.wrap ((n : Int) - 1) < (n : Int))
def lN (n : Nat) : Nat := 0 + Int.toNat (IntKind.i64.wrap ((n : Int) - 1))
def z0N : Nat := 0 + Int.toNat 0
def atR (x y z e : Int) : A := .tup [(true, [ci x, ci y, ci z]), (false, [ci e])]
def noneE (x y z : Int) : Int := errIf (z3 x y z) 7
theorem entry_at {f : FuncId} {V : Nat → (Nat → Int) → (Nat → Int) → (Nat → Int) → (Nat → Int) → Int → A} {F : FT} (hF : ∀ l m ns ts, F l m ns ts = match l, m, ns, ts with
      | [t], [], [nm], [⟨some _, n, [.int .i64 g0, .int .i64 g1, .int .i64 g2, .int .i64 g3]⟩] => .need (atOk skyE nm n g0 g1 g2 g3 t) (.leaf (V n g0 g1 g2 g3 t, []))
      | _, _, _, _ => .fail 702)
    (hc : ∀ (nm : ByteArray) (n : Nat) (g0 g1 g2 g3 : Nat → Int) (t : Int), SkyOk n g0 g1 g2 g3 → g0 0 ≤ t → t ≤ g0 (n - 1) → skyE nm n g0 g1 g2 g3 = 0 → CallAt Tryz.prog f [skyA nm n, int t] (skH n g0 g1 g2 g3) (V n g0 g1 g2 g3 t) (skH n g0 g1 g2 g3)) :
    SpecOk Tryz.prog f fun args h => specT [(true, [.s, .t skyD]), (false, [.i])] [] F args h := by
  refine specT_ok rfl (by decide) fun l m n ts v news hl hm hn ht hnil hr => ?_
  rw [hF] at hr
  split at hr
  · rename_i t nm id n g0 g1 g2 g3
    obtain ⟨hok, hr⟩ := Tree.need_some hr
    simp only [Tree.run, Option.some.injEq, Prod.mk.injEq] at hr
    obtain ⟨rfl, rfl⟩ := hr
    obtain ⟨hs, h0, h1, h2⟩ := atOk_of hok
    exact hc nm n g0 g1 g2 g3 t hs h0 h1 h2
  · cases hr
section
variable (E : FE) (vx vy vz : FV) (nm : ByteArray) (n : Nat) (g0 g1 g2 g3 : Nat → Int) (t : Int)
def aAF : FT
 | [t], [], [nm], [⟨some _, n, [.int .i64 g0, .int .i64 g1, .int .i64 g2, .int .i64 g3]⟩] => .need (atOk E nm n g0 g1 g2 g3 t) (.leaf (atR (vx n g0 g1 g2 g3 t) (vy n g0 g1 g2 g3 t) (vz n g0 g1 g2 g3 t) (noneE (vx n g0 g1 g2 g3 t) (vy n g0 g1 g2 g3 t) (vz n g0 g1 g2 g3 t)), []))
 | _, _, _, _ => .fail 702
def aASp : Spec := fun args h => specT [(true, [.s, .t skyD]), (false, [.i])] [] (aAF E vx vy vz) args h
noncomputable def aAT : Tree ((Bool × A × Hp) ⊕ (List Bool × St)) := preA Tryz.prog (tabOf (tbD E vx vy vz)) Tryz.f14 [skyA nm n, int t] (skH n g0 g1 g2 g3) (false, false)
def aAL (x y z e : Int) : SkL := .leaf (.inl (true, atR x y z e, skH n g0 g1 g2 g3))
def ckE (e1 e2 : Nat → Int) : Int := errIf (decide (t > e1 (lN n))) (e2 0)
def aAS : SkL := .need (okN n) (.node (E nm n g0 g1 g2 g3 != 0) (aAL n g0 g1 g2 g3 0 0 0 (E nm n g0 g1 g2 g3)) (.need (zB n) (.need (Nat.blt z0N n) (.need (lB n) (.need (Nat.blt (lN n) n)
 (.node (decide (t < g0 z0N)) (.tt (aAL n g0 g1 g2 g3 0 0 0 14)) (.node (errIf (decide (t > g0 (lN n))) 14 != 0) (aAL n g0 g1 g2 g3 0 0 0 (errIf (decide (t > g0 (lN n))) 14))
  (.need (okN n) (.need (atOk E nm n g0 g1 g2 g3 t) (aAL n g0 g1 g2 g3 (vx n g0 g1 g2 g3 t) (vy n g0 g1 g2 g3 t) (vz n g0 g1 g2 g3 t) (noneE (vx n g0 g1 g2 g3 t) (vy n g0 g1 g2 g3 t) (vz n g0 g1 g2 g3 t))))))))))))
theorem aA_into : aAT E vx vy vz nm n g0 g1 g2 g3 t = into (aAT E vx vy vz nm n g0 g1 g2 g3 t) (aAS E vx vy vz nm n g0 g1 g2 g3 t) := by kernel_rfl
theorem aA_fits : fits (aAT E vx vy vz nm n g0 g1 g2 g3 t) (aAS E vx vy vz nm n g0 g1 g2 g3 t) = true := by kernel_rfl
end
theorem lN_eq {n : Nat} (h : 1 ≤ n) (h2 : n ≤ 1000000) : IntKind.i64.wrap ((n : Int) - 1) = ((n - 1 : Nat) : Int) ∧ lN n = n - 1 ∧ lB n = true ∧ Nat.blt (lN n) n = true ∧ zB n = true ∧ Nat.blt z0N n = true := by
 have e : IntKind.i64.wrap ((n : Int) - 1) = ((n - 1 : Nat) : Int) := by rw [wrap_id (by omega) (by omega)]; omega
 have e2 : lN n = n - 1 := by unfold lN; rw [e, idx_nat]
 refine ⟨e, e2, ?_, by rw [e2, Nat.blt_eq]; omega, ?_, by rw [Nat.blt_eq]; exact h⟩
 ·unfold lB; rw [e]; simp only [Bool.and_eq_true, decide_eq_true_eq]; omega
 ·unfold zB; simp only [Bool.and_eq_true, decide_eq_true_eq]; omega
theorem aA_call (nm : ByteArray) (n : Nat) (g0 g1 g2 g3 : Nat → Int) (t : Int) (hs : SkyOk n g0 g1 g2 g3) (h0 : g0 0 ≤ t) (h1 : t ≤ g0 (n - 1)) (hE : skyE nm n g0 g1 g2 g3 = 0) : CallAt Tryz.prog 14 [skyA nm n, int t] (skH n g0 g1 g2 g3) (atR (vX n g0 g1 g2 g3 t) (vY n g0 g1 g2 g3 t) (vZ n g0 g1 g2 g3 t) (noneE (vX n g0 g1 g2 g3 t) (vY n g0 g1 g2 g3 t) (vZ n g0 g1 g2 g3 t))) (skH n g0 g1 g2 g3) := by
 have hn := hs.few
 have hn2 := hs.two
 obtain ⟨_, l2, l3, l4, l5, l6⟩ := lN_eq (n := n) (by omega) (by omega)
 refine call_sk tbD_ok Tryz.func14 (by kernel_rfl) (false, false) (by kernel_rfl) (S := aAS skyE vX vY vZ nm n g0 g1 g2 g3 t) (aA_into skyE vX vY vZ nm n g0 g1 g2 g3 t) (aA_fits skyE vX vY vZ nm n g0 g1 g2 g3 t) (SkLeads.all ?_)
 have e0 : decide (t < g0 z0N) = false := by
  show decide (t < g0 0) = false
  simp only [decide_eq_false_iff_not]; omega
 have e1 : decide (t > g0 (lN n)) = false := by rw [l2]; simp only [decide_eq_false_iff_not]; omega
 refine sk_need (okN_ok n) (sk_no (by rw [hE]; rfl) (sk_need l5 (sk_need l6 (sk_need l3 (sk_need l4 (sk_no e0 (sk_no (by rw [e1]; rfl) (sk_need (okN_ok n) (sk_need ?_ (sk_leaf rfl))))))))))
 unfold atOk
 rw [hE]
 simp only [Bool.and_eq_true, decide_eq_true_eq]
 exact ⟨rfl, h0, h1⟩
theorem aA_ok : SpecOk Tryz.prog 14 (aASp skyE vX vY vZ) := entry_at (F := aAF skyE vX vY vZ) (V := fun n g0 g1 g2 g3 t => atR (vX n g0 g1 g2 g3 t) (vY n g0 g1 g2 g3 t) (vZ n g0 g1 g2 g3 t) (noneE (vX n g0 g1 g2 g3 t) (vY n g0 g1 g2 g3 t) (vZ n g0 g1 g2 g3 t))) (fun l m ns ts => by unfold aAF; rfl) aA_call
end Go.Ev
