/- Sure of the program. Conditions: the list is short. -/
import Derived.Test.YtlpchgidkibbeaaGreatDoorSure0
import Derived.Test.YtlpchgidkibbeaaGreatDoorLaw2
namespace Go.Ev
open Go Go.Proofs
set_option maxRecDepth 100000

section
variable (n : Nat) (z0 : Nat → ByteArray) (z1 z2 z3 : Nat → Int) (r0 r1 r2 r3 r4 r5 : Int)
def suK (s : ByteArray) (heat light : Int) (k : Nat) : Bool := stepK ([r0, r1, r2, r3, r4, r5] ++ ([heat] ++ ([light, z3 (0 + Int.toNat (k : Int))] ++ []))) [] [s, z0 (0 + Int.toNat (k : Int))]
def suSk2 (k : Nat) (s1 : ByteArray) (h1 : Int) (s2 : ByteArray) (h2 : Int) : Sk (X × St) :=
  .tt (.nn (.nn (.need (suK z0 z3 r0 r1 r2 r3 r4 r5 s2 h2 (z2 (0 + Int.toNat (k : Int))) k)
    (.node (se z0 z2 z3 r0 r1 r2 r3 r4 r5 (0 + Int.toNat (k : Int)) s2 h2 != 0)
      (.leaf (.exit 0, suX n z0 z1 z2 z3 (ss1 z0 z1 z3 r0 r1 r2 r3 r4 r5 (0 + Int.toNat (k : Int)) s1 h1) (sh1 z0 z1 z3 r0 r1 r2 r3 r4 r5 (0 + Int.toNat (k : Int)) s1 h1) s2 h2 (k : Int) (se z0 z2 z3 r0 r1 r2 r3 r4 r5 (0 + Int.toNat (k : Int)) s2 h2)))
      (.ff (.leaf (.normal, suH n z0 z1 z2 z3 r0 r1 r2 r3 r4 r5 (IntKind.i64.wrap ((k : Int) + 1)) (ss1 z0 z1 z3 r0 r1 r2 r3 r4 r5 (0 + Int.toNat (k : Int)) s1 h1) (sh1 z0 z1 z3 r0 r1 r2 r3 r4 r5 (0 + Int.toNat (k : Int)) s1 h1) (ss1 z0 z2 z3 r0 r1 r2 r3 r4 r5 (0 + Int.toNat (k : Int)) s2 h2) (sh1 z0 z2 z3 r0 r1 r2 r3 r4 r5 (0 + Int.toNat (k : Int)) s2 h2))))))))
def suSk1 (k : Nat) (s1 : ByteArray) (h1 : Int) (s2 : ByteArray) (h2 : Int) : Sk (X × St) :=
  .tt (.nn (.nn (.need (suK z0 z3 r0 r1 r2 r3 r4 r5 s1 h1 (z1 (0 + Int.toNat (k : Int))) k)
    (.node (se z0 z1 z3 r0 r1 r2 r3 r4 r5 (0 + Int.toNat (k : Int)) s1 h1 != 0)
      (.leaf (.exit 0, suX n z0 z1 z2 z3 s1 h1 s2 h2 (k : Int) (se z0 z1 z3 r0 r1 r2 r3 r4 r5 (0 + Int.toNat (k : Int)) s1 h1)))
      (suSk2 n z0 z1 z2 z3 r0 r1 r2 r3 r4 r5 k s1 h1 s2 h2)))))
def suSk (k : Nat) (s1 : ByteArray) (h1 : Int) (s2 : ByteArray) (h2 : Int) : Sk (X × St) :=
  .node (decide ((k : Int) < (n : Int))) (.need (decide (0 ≤ (k : Int)) && decide ((k : Int) < (n : Int))) (.need (Nat.blt (0 + Int.toNat (k : Int)) n) (.need (Nat.blt (0 + Int.toNat (k : Int)) n) (.need (Nat.blt (0 + Int.toNat (k : Int)) n) (.need (Nat.blt (0 + Int.toNat (k : Int)) n)
    (suSk1 n z0 z1 z2 z3 r0 r1 r2 r3 r4 r5 k s1 h1 s2 h2)))))) (.leaf (.exit 0, suX n z0 z1 z2 z3 s1 h1 s2 h2 0 0))
theorem su_round (s0 : ByteArray) (heat0 : Int) (k : Nat) (s1 : ByteArray) (h1 : Int) (s2 : ByteArray) (h2 : Int) : suT n z0 z1 z2 z3 r0 r1 r2 r3 r4 r5 s0 heat0 k s1 h1 s2 h2 = into (suT n z0 z1 z2 z3 r0 r1 r2 r3 r4 r5 s0 heat0 k s1 h1 s2 h2) (suSk n z0 z1 z2 z3 r0 r1 r2 r3 r4 r5 k s1 h1 s2 h2) := by kernel_rfl
theorem su_fits (s0 : ByteArray) (heat0 : Int) (k : Nat) (s1 : ByteArray) (h1 : Int) (s2 : ByteArray) (h2 : Int) : fits (suT n z0 z1 z2 z3 r0 r1 r2 r3 r4 r5 s0 heat0 k s1 h1 s2 h2) (suSk n z0 z1 z2 z3 r0 r1 r2 r3 r4 r5 k s1 h1 s2 h2) = true := by kernel_rfl
end
section
variable (n : Nat) (z0 : Nat → ByteArray) (z1 z2 z3 : Nat → Int) (r0 r1 r2 r3 r4 r5 : Int)
def sureE (s : ByteArray) (heat : Int) : Int := firstZ [rulesErr r0 r1 r2 r3 r4 r5, recvErr s heat, errIf (decide ((n : Int) > 256)) 5, (fnz (mapTC0 z0 z1 z2 z3 r0 r1 r2 r3 r4 r5) n 0).getD 0]
noncomputable def suPreA (s : ByteArray) (heat E : Int) : Sk ((X × St) ⊕ (List Bool × St)) := .node (E != 0) (.leaf (.inl (.ret, suR n z0 z1 z2 z3 0 0 0 E))) (.leaf (.inr (pathF Tryz.f14, suH n z0 z1 z2 z3 r0 r1 r2 r3 r4 r5 ((0 : Nat) : Int) s heat s heat)))
noncomputable def suPre (s : ByteArray) (heat : Int) : Sk ((X × St) ⊕ (List Bool × St)) :=
  .nn (.nn (.nn (.need ((Nat.ble n n && true) && ((true && true) && true)) (.need (Nat.ble n 1000000) (.node (Nat.beq n 0) (suPreA n z0 z1 z2 z3 r0 r1 r2 r3 r4 r5 s heat (firstZ [rulesErr r0 r1 r2 r3 r4 r5, recvErr s heat, errIf (decide ((n : Int) > 256)) 5, 0]))
    (.need (Nat.ble n n) (suPreA n z0 z1 z2 z3 r0 r1 r2 r3 r4 r5 s heat (sureE n z0 z1 z2 z3 r0 r1 r2 r3 r4 r5 s heat))))))))
theorem su_pre (s : ByteArray) (heat : Int) : suO n z0 z1 z2 z3 r0 r1 r2 r3 r4 r5 s heat = into (suO n z0 z1 z2 z3 r0 r1 r2 r3 r4 r5 s heat) (suPre n z0 z1 z2 z3 r0 r1 r2 r3 r4 r5 s heat) := by kernel_rfl
theorem su_pre_fits (s : ByteArray) (heat : Int) : fits (suO n z0 z1 z2 z3 r0 r1 r2 r3 r4 r5 s heat) (suPre n z0 z1 z2 z3 r0 r1 r2 r3 r4 r5 s heat) = true := by kernel_rfl
def suEnd (s1 : ByteArray) (h1 : Int) (s2 : ByteArray) (h2 i e : Int) : Sk ((X × St) ⊕ (List Bool × St)) := .node (e != 0) (.leaf (.inl (.ret, suR n z0 z1 z2 z3 0 0 i e))) (.leaf (.inl (.ret, suR n z0 z1 z2 z3 h1 h2 0 0)))
theorem su_exit (s0 : ByteArray) (heat0 : Int) (s1 : ByteArray) (h1 : Int) (s2 : ByteArray) (h2 i e : Int) : suPo n z0 z1 z2 z3 r0 r1 r2 r3 r4 r5 s0 heat0 (.exit 0, suX n z0 z1 z2 z3 s1 h1 s2 h2 i e) = into (suPo n z0 z1 z2 z3 r0 r1 r2 r3 r4 r5 s0 heat0 (.exit 0, suX n z0 z1 z2 z3 s1 h1 s2 h2 i e)) (suEnd n z0 z1 z2 z3 s1 h1 s2 h2 i e) := by kernel_rfl
theorem su_exit_fits (s0 : ByteArray) (heat0 : Int) (s1 : ByteArray) (h1 : Int) (s2 : ByteArray) (h2 i e : Int) : fits (suPo n z0 z1 z2 z3 r0 r1 r2 r3 r4 r5 s0 heat0 (.exit 0, suX n z0 z1 z2 z3 s1 h1 s2 h2 i e)) (suEnd n z0 z1 z2 z3 s1 h1 s2 h2 i e) = true := by kernel_rfl
end
end Go.Ev
