/- TopQuartzDay: behind its third loop; its last one, over the spans. Conditions: none. -/
import Derived.Test.YtjckcdpjibfacaaGreatQz5
namespace Go.Ev
open Go Go.Proofs
set_option maxRecDepth 100000
def qzV8 : List Nat := [4, 11, 12, 13, 38, 42, 347, 348, 349]
def qzV9 : List Nat := [4, 11, 12, 13, 38, 42, 44, 45, 347, 348, 349]
def path8 : List Bool := [true, true, true, true, true, true, true, true, true, true, true, true, true, true, true, true, true, true, false, true]
noncomputable def qzC8 : Code := nthLoop qzC path8
section
variable (fl : Bool) (f : Fq) (nm : ByteArray) (m : Nat) (g0 g1 g2 g3 : Nat → Int) (x y z num den : Int) (t0 wd : Int) (wn : Nat) (F : Nat → Nat)
noncomputable def qzA6 (k : Int) : Tree ((X × St) ⊕ (List Bool × St)) := evO2 (reQ fl f) true qzC path6 qzV8 [4] (qzB nm m g0 g1 g2 g3 x y z num den) (.exit 6, qzH6 fl f nm m g0 g1 g2 g3 t0 wd wn F k)
def spS8 : A := match fl with
 | true => slO 2 2 (f.m (m + 2) g0 g1 g2 g3)
 | false => nilA
def spN8 : Nat := match fl with
 | true => f.m (m + 2) g0 g1 g2 g3
 | false => 0
def qzW8 : List Blk := match fl with
 | true => [mapX wd wn 3, spnB f m g0 g1 g2 g3, smpB wn F]
 | false => [mapX wd wn 2, smpB wn F]
def qzE8 (s j : Int) : List (Nat × A) := [(4, boo false), (11, int t0), (12, int wd), (13, pt 1), (38, int (f.to wn F)), (42, int s), (347, spS8 fl f m g0 g1 g2 g3), (348, int (spN8 fl f m g0 g1 g2 g3)), (349, int j)]
def qzH8 (s j : Int) : St := qzN m g0 g1 g2 g3 (qzE8 fl f m g0 g1 g2 g3 t0 wd wn F s j) (qzW8 fl f m g0 g1 g2 g3 wd wn F)
def qzNo : St := qzN m g0 g1 g2 g3 [(4, boo false)] []
def owK (wn : Nat) : Bool := Nat.blt 0 wn && Nat.ble wn 1000000
def flpQ : Nat → Nat := msZ f.lv f.sm (flG f.lv f.sm f.fr wn F)
def qzP6 : SkO := .need (okN wn) (.need (owK wn) (.need (okN wn) (.need (mapOk wd 1 wn && allN qOk F wn) (.need (okN wn) (.need (owK wn) (.need (okN wn) (.need (mapOk wd 1 wn && allN qOk F wn) (.need (okN wn) (.need (mapOk wn 1 wn && allN qOk (flpQ f wn F) wn)
 (.ff (.ff (.ff (.node (f.to wn F != f.to wn (flpQ f wn F)) (.leaf (.inl (.ret, qzNo m g0 g1 g2 g3))) (.leaf (.inr (path8, qzH8 fl f m g0 g1 g2 g3 t0 wd wn F 0 0))))))))))))))))
theorem qzA6_into (k : Int) : qzA6 fl f nm m g0 g1 g2 g3 x y z num den t0 wd wn F k = into (qzA6 fl f nm m g0 g1 g2 g3 x y z num den t0 wd wn F k) (qzP6 fl f m g0 g1 g2 g3 t0 wd wn F) := by
 cases fl with
 | true => kernel_rfl
 | false => kernel_rfl
theorem qzA6_fits (k : Int) : fits (qzA6 fl f nm m g0 g1 g2 g3 x y z num den t0 wd wn F k) (qzP6 fl f m g0 g1 g2 g3 t0 wd wn F) = true := by
 cases fl with
 | true => kernel_rfl
 | false => kernel_rfl
noncomputable def qzA8 (s : Int) (j : Nat) : Tree ((X × St) ⊕ (List Bool × St)) := (evB (reQ fl f) qzC8 (qzH8 fl f m g0 g1 g2 g3 t0 wd wn F s (j : Int))).bind (canO qzV9 qzV8 (qzB nm m g0 g1 g2 g3 x y z num den))
end
end Go.Ev
namespace Go.Ev
open Go Go.Proofs
set_option maxRecDepth 100000
def path10 : List Bool := [true, true, false, true, true, true]
section
variable (fl : Bool) (f : Fq) (nm : ByteArray) (m : Nat) (g0 g1 g2 g3 : Nat → Int) (x y z num den : Int) (t0 wd : Int) (wn : Nat) (F : Nat → Nat) (a b s t : Int) (j : Int)
def qzW9 : List Blk := [mapX wd wn 4, ⟨false, 69, .flat [ci a, ci b]⟩, spnB f m g0 g1 g2 g3, smpB wn F]
def qzE9 : List (Nat × A) := [(4, boo false), (11, int t0), (12, int wd), (13, pt 1), (38, int (f.to wn F)), (42, int s), (44, pt 2), (45, int t), (347, slO 3 2 (f.m (m + 2) g0 g1 g2 g3)), (348, int (f.m (m + 2) g0 g1 g2 g3 : Nat)), (349, int j)]
def qzH9 : St := qzN m g0 g1 g2 g3 (qzE9 f m g0 g1 g2 g3 t0 wd wn F s t j) (qzW9 f m g0 g1 g2 g3 wd wn F a b)
noncomputable def qzT10 : Tree (X × St) := (reQ true f (nthLoop qzC8 path10) (qzH9 f m g0 g1 g2 g3 t0 wd wn F a b s t j)).bind (canonT qzV9 qzV9 (qzB nm m g0 g1 g2 g3 x y z num den))
noncomputable def qzA9 : Tree ((X × St) ⊕ (List Bool × St)) := evO2 (reQ true f) true qzC8 path10 [] qzV8 (qzB nm m g0 g1 g2 g3 x y z num den) (.exit 10, qzH9 f m g0 g1 g2 g3 t0 wd wn F a b s t j)
noncomputable def qzA9r : Tree ((X × St) ⊕ (List Bool × St)) := evO2 (reQ true f) true qzC8 path10 [] qzV8 (qzB nm m g0 g1 g2 g3 x y z num den) (.ret, qzH9 f m g0 g1 g2 g3 t0 wd wn F a b s t j)
noncomputable def qzA10 : Tree ((X × St) ⊕ (List Bool × St)) := evO2 (reQ fl f) true qzC path8 [] [4] (qzB nm m g0 g1 g2 g3 x y z num den) (.exit 8, qzH8 fl f m g0 g1 g2 g3 t0 wd wn F s j)
def itZ : Int := IntKind.i64.wrap (t - t0)
def ne25 (x : Nat) : Bool := FloatKind.f32.format.order x q25 != some .eq
def qzS10 : SkX := .node (decide (t < b)) (.need (decide (0 ≤ itZ t0 t) && decide (itZ t0 t < (wn : Int))) (.need (Nat.blt (0 + (itZ t0 t).toNat) wn) (.node (ne25 (F (0 + (itZ t0 t).toNat))) (.leaf (.ret, qzH9 f m g0 g1 g2 g3 t0 wd wn F a b s t j)) (.leaf (.normal, qzH9 f m g0 g1 g2 g3 t0 wd wn F a b (IntKind.i64.wrap (s + 4)) (IntKind.i64.wrap (t + 1)) j)))))
 (.leaf (.exit 10, qzH9 f m g0 g1 g2 g3 t0 wd wn F a b s t j))
theorem qzT10_into : qzT10 f nm m g0 g1 g2 g3 x y z num den t0 wd wn F a b s t j = into (qzT10 f nm m g0 g1 g2 g3 x y z num den t0 wd wn F a b s t j) (qzS10 f m g0 g1 g2 g3 t0 wd wn F a b s t j) := by kernel_rfl
theorem qzT10_fits : fits (qzT10 f nm m g0 g1 g2 g3 x y z num den t0 wd wn F a b s t j) (qzS10 f m g0 g1 g2 g3 t0 wd wn F a b s t j) = true := by kernel_rfl
theorem qzA9_is : qzA9 f nm m g0 g1 g2 g3 x y z num den t0 wd wn F a b s t j = .leaf (.inl (.normal, qzH8 true f m g0 g1 g2 g3 t0 wd wn F s (IntKind.i64.wrap (j + 1)))) := by kernel_rfl
def qzP10 : SkO := .node (s == f.to wn F) (.leaf (.inl (.ret, qzYes m g0 g1 g2 g3))) (.leaf (.inl (.ret, qzNo m g0 g1 g2 g3)))
theorem qzA10_into : qzA10 fl f nm m g0 g1 g2 g3 x y z num den t0 wd wn F s j = into (qzA10 fl f nm m g0 g1 g2 g3 x y z num den t0 wd wn F s j) (qzP10 f m g0 g1 g2 g3 wn F s) := by
 cases fl with
 | true => kernel_rfl
 | false => kernel_rfl
theorem qzA10_fits : fits (qzA10 fl f nm m g0 g1 g2 g3 x y z num den t0 wd wn F s j) (qzP10 f m g0 g1 g2 g3 wn F s) = true := by
 cases fl with
 | true => kernel_rfl
 | false => kernel_rfl
def spF (j : Nat) : Int := f.F (m + 2) g0 g1 g2 g3 (ixN j)
def spT (j : Nat) : Int := f.T (m + 2) g0 g1 g2 g3 (ixN j)
def qzS8 (s : Int) (j : Nat) : SkO := .node (decide ((j : Int) < ((f.m (m + 2) g0 g1 g2 g3 : Nat) : Int))) (.need (kB (f.m (m + 2) g0 g1 g2 g3) j) (.need (Nat.blt (ixN j) (f.m (m + 2) g0 g1 g2 g3)) (.need (Nat.blt (ixN j) (f.m (m + 2) g0 g1 g2 g3)) (.node (decide (spF f m g0 g1 g2 g3 j < t0)) (.tt (.tt (.leaf (.inl (.ret, qzH8 true f m g0 g1 g2 g3 t0 wd wn F s (j : Int))))))
  (.node (decide (spT f m g0 g1 g2 g3 j > IntKind.i64.wrap (t0 + wd))) (.tt (.leaf (.inl (.ret, qzH8 true f m g0 g1 g2 g3 t0 wd wn F s (j : Int))))) (.node (decide (spF f m g0 g1 g2 g3 j ≥ spT f m g0 g1 g2 g3 j)) (.leaf (.inl (.ret, qzH8 true f m g0 g1 g2 g3 t0 wd wn F s (j : Int)))) (.leaf (.inr (path10, qzH9 f m g0 g1 g2 g3 t0 wd wn F (spF f m g0 g1 g2 g3 j) (spT f m g0 g1 g2 g3 j) s (spF f m g0 g1 g2 g3 j) (j : Int))))))))))
 (.leaf (.inl (.exit 8, qzH8 true f m g0 g1 g2 g3 t0 wd wn F s (j : Int))))
theorem qzA8_into (s : Int) (j : Nat) : qzA8 true f nm m g0 g1 g2 g3 x y z num den t0 wd wn F s j = into (qzA8 true f nm m g0 g1 g2 g3 x y z num den t0 wd wn F s j) (qzS8 f m g0 g1 g2 g3 t0 wd wn F s j) := by kernel_rfl
theorem qzA8_fits (s : Int) (j : Nat) : fits (qzA8 true f nm m g0 g1 g2 g3 x y z num den t0 wd wn F s j) (qzS8 f m g0 g1 g2 g3 t0 wd wn F s j) = true := by kernel_rfl
def qzS8f (s : Int) : SkO := .ff (.leaf (.inl (.exit 8, qzH8 false f m g0 g1 g2 g3 t0 wd wn F s 0)))
theorem qzA8f_into (s : Int) : qzA8 false f nm m g0 g1 g2 g3 x y z num den t0 wd wn F s 0 = into (qzA8 false f nm m g0 g1 g2 g3 x y z num den t0 wd wn F s 0) (qzS8f f m g0 g1 g2 g3 t0 wd wn F s) := by kernel_rfl
theorem qzA8f_fits (s : Int) : fits (qzA8 false f nm m g0 g1 g2 g3 x y z num den t0 wd wn F s 0) (qzS8f f m g0 g1 g2 g3 t0 wd wn F s) = true := by kernel_rfl
end
end Go.Ev
