/- SaltRuns: its run by a sketch, and that it is true. Conditions: the two variables that awake() reads; the list of steps is a table. -/
import Derived.Test.YtlpchgidkibbeaaGreatDoorLRuns0
import Derived.Test.YtlpchgidkibbeaaGreatDoorPRuns
namespace Go.Ev
open Go Go.Proofs
set_option maxRecDepth 100000

abbrev R6 := ByteArray × Int × Int × Int × Int × Int
abbrev SkL := Sk ((Bool × A × Hp) ⊕ (List Bool × St))
section
variable (H : Hp)
def lfT (b : Bool) : SkL := .leaf (.inl (true, boo b, H))
/-- the comparisons of what a run handed back -/
def eqSk (p q : R6) : SkL := .node (p.1.toList == q.1.toList && (p.2.1 == q.2.1 && true)) (.node (p.2.2.1 == q.2.2.1 && (p.2.2.2.1 == q.2.2.2.1 && true)) (.node (p.2.2.2.2.1 == q.2.2.2.2.1) (.node (p.2.2.2.2.2 == q.2.2.2.2.2) (lfT H true) (lfT H false)) (.ff (lfT H false))) (.ff (.ff (lfT H false)))) (.ff (.ff (.ff (lfT H false))))
variable (n : Nat) (z0 : Nat → ByteArray) (z1 z2 : Nat → Int) (r0 r1 r2 r3 r4 r5 : Int) (s : ByteArray) (heat : Int)
def bad6 (e : Int) : R6 := (emptyB, 0, 0, 0, 0, e)
def okN : Bool := (Nat.ble n n && true) && true
def one2 : Int := firstZ [qrulesErr r0 r1 r2 r3 r4 r5, qrecvErr s heat]
def lrA (p : R6) : SkL := .need (okN n) (.need (Nat.ble n 1000000 && !(r0 == 0)) (eqSk H p (rvQ (qrGo z0 z1 z2 r0 r1 r2 r3 r4 r5 n 0 s heat 0 0))))
def lrB (p : R6) : SkL := .node (one2 r0 r1 r2 r3 r4 r5 s heat == 0)
  (.need (okN n) (.need (Nat.ble n 9223372036854775807) (.node (qplanE n (qpC z0 z1 z2 r0) == 0) (lrA H n z0 z1 z2 r0 r1 r2 r3 r4 r5 s heat p) (eqSk H p (bad6 (qplanE n (qpC z0 z1 z2 r0)))))))
  (.node (one2 r0 r1 r2 r3 r4 r5 s heat == 0) (lrA H n z0 z1 z2 r0 r1 r2 r3 r4 r5 s heat p) (eqSk H p (bad6 (one2 r0 r1 r2 r3 r4 r5 s heat))))
def runP (n : Nat) (z0 : Nat → ByteArray) (z1 z2 : Nat → Int) (r0 r1 r2 r3 r4 r5 : Int) (s : ByteArray) (heat : Int) : R6 := rvS (srunE n z0 z1 z2 r0 r1 r2 r3 r4 r5 s heat) (srGo z0 z1 z2 r0 r1 r2 r3 r4 r5 n 0 s heat 0 0)
def lrS : SkL := .node (decide ((s.size : Int) > 40)) (.tt (lfT H true)) (.need (okN n) (.need (Nat.ble n 9223372036854775807) (.node (!shortB n z0) (lfT H true) (.need (okN n) (.need (Nat.ble n 1000000) (.node (Nat.beq n 0)
  (lrB H n z0 z1 z2 r0 r1 r2 r3 r4 r5 s heat (runP 0 (fun _ => ⟨#[]⟩) (fun _ => 0) (fun _ => 0) r0 r1 r2 r3 r4 r5 s heat))
  (.need (okN n) (.need (Nat.ble n 1000000) (lrB H n z0 z1 z2 r0 r1 r2 r3 r4 r5 s heat (runP n z0 z1 z2 r0 r1 r2 r3 r4 r5 s heat))))))))))
end
section
variable (n : Nat) (z0 : Nat → ByteArray) (z1 z2 : Nat → Int) (r0 r1 r2 r3 r4 r5 : Int) (s : ByteArray) (heat : Int)
noncomputable def lrT : Tree ((Bool × A × Hp) ⊕ (List Bool × St)) := preA Tryz.prog (tabOf tbR) Tryz.f8 [.agg (rulesC r0 r1 r2 r3 r4 r5), .agg [cs s, ci heat], slT 0 3 n] (hpL1 n (st3 z0 z1 z2)) (false, true)
theorem lr_into : lrT n z0 z1 z2 r0 r1 r2 r3 r4 r5 s heat = into (lrT n z0 z1 z2 r0 r1 r2 r3 r4 r5 s heat) (lrS (hpL1 n (st3 z0 z1 z2)) n z0 z1 z2 r0 r1 r2 r3 r4 r5 s heat) := by kernel_rfl
theorem lr_fits : fits (lrT n z0 z1 z2 r0 r1 r2 r3 r4 r5 s heat) (lrS (hpL1 n (st3 z0 z1 z2)) n z0 z1 z2 r0 r1 r2 r3 r4 r5 s heat) = true := by kernel_rfl
end
end Go.Ev
