/- Run of the reference: its rounds, piece by piece. Conditions: none. -/
import Derived.Test.YtlpchgidkibbeaaGreatDoorRunS
namespace Go.Ev
open Go Go.Proofs
set_option maxRecDepth 100000

section
variable (n : Nat) (z0 : Nat → ByteArray) (z1 z2 : Nat → Int) (r0 r1 r2 r3 r4 r5 : Int)
noncomputable def qL : Code := loopF Tryz.f66
theorem qL_eq : qL = .seq (navC qL [false]) (.seq (.block 1 (.seq (navC qL [true, false, false, false]) (.seq (navC qL [true, false, false, true, false]) (navC qL [true, false, false, true, true])))) (navC qL [true, true])) := by kernel_rfl
/-- behind the step: the new receiver and its balance lie by themselves -/
def qrM (i : Int) (s : ByteArray) (heat t l : Int) (s1 : ByteArray) (h1 t1 l1 e : Int) : St := qrN n z0 z1 z2 [(2, slT 0 3 n), (3, pt 1), (4, pt 2), (6, pt 3), (7, pt 4), (8, int 0), (9, int 0), (10, pt 5), (11, int i), (12, pt 6), (13, pt 7), (14, int e)]
  [⟨false, 23, .flat (rulesC r0 r1 r2 r3 r4 r5)⟩, rcv 25 s heat, rcv 25 emptyB 0, bal 126 0 0, bal 126 t l, rcv 25 s1 h1, bal 126 t1 l1]
end
def qSl : List Nat := [2, 3, 4, 6, 7, 8, 9, 10, 11]
def qSl2 : List Nat := [2, 3, 4, 6, 7, 8, 9, 10, 11, 12, 13, 14]
def qSx : List Nat := [4, 6, 7, 8, 9, 10]
section
variable (n : Nat) (z0 : Nat → ByteArray) (z1 z2 : Nat → Int) (r0 r1 r2 r3 r4 r5 : Int)
noncomputable def qp1 (s0 : ByteArray) (heat0 : Int) (k : Nat) (s : ByteArray) (heat t l : Int) : Tree (X × St) := pieceT (recT Tryz.prog (tabOf tb_cp)) qSl qSx (navC qL [false]) (qrB n z0 z1 z2 r0 r1 r2 r3 r4 r5 s0 heat0) (qrH n z0 z1 z2 r0 r1 r2 r3 r4 r5 (k : Int) s heat t l)
def qs1S (k : Nat) (s : ByteArray) (heat t l : Int) : Sk (X × St) := .node (decide ((k : Int) < (n : Int))) (.leaf (.normal, qrH n z0 z1 z2 r0 r1 r2 r3 r4 r5 (k : Int) s heat t l)) (.leaf (.exit 0, qrX n z0 z1 z2 s heat t l 0 0))
theorem qp1_into (s0 : ByteArray) (heat0 : Int) (k : Nat) (s : ByteArray) (heat t l : Int) : qp1 n z0 z1 z2 r0 r1 r2 r3 r4 r5 s0 heat0 k s heat t l = into (qp1 n z0 z1 z2 r0 r1 r2 r3 r4 r5 s0 heat0 k s heat t l) (qs1S n z0 z1 z2 r0 r1 r2 r3 r4 r5 k s heat t l) := by kernel_rfl
theorem qp1_fits (s0 : ByteArray) (heat0 : Int) (k : Nat) (s : ByteArray) (heat t l : Int) : fits (qp1 n z0 z1 z2 r0 r1 r2 r3 r4 r5 s0 heat0 k s heat t l) (qs1S n z0 z1 z2 r0 r1 r2 r3 r4 r5 k s heat t l) = true := by kernel_rfl
noncomputable def qp2 (s0 : ByteArray) (heat0 : Int) (k : Nat) (s : ByteArray) (heat t l : Int) : Tree (X × St) := pieceT (recT Tryz.prog (tabOf tb_cp)) qSl2 qSx (navC qL [true, false, false, false]) (qrB n z0 z1 z2 r0 r1 r2 r3 r4 r5 s0 heat0) (qrH n z0 z1 z2 r0 r1 r2 r3 r4 r5 (k : Int) s heat t l)
def qs2S (k : Nat) (s : ByteArray) (heat t l : Int) : Sk (X × St) := .need (decide (0 ≤ (k : Int)) && decide ((k : Int) < (n : Int))) (.need (Nat.blt (0 + Int.toNat (k : Int)) n) (.need (Nat.blt (0 + Int.toNat (k : Int)) n) (.need (Nat.blt (0 + Int.toNat (k : Int)) n)
  (.need (qstK ([r0, r1, r2, r3, r4, r5] ++ ([heat] ++ ([z1 (0 + Int.toNat (k : Int)), z2 (0 + Int.toNat (k : Int))] ++ []))) [] [s, z0 (0 + Int.toNat (k : Int))])
    (.leaf (.normal, qrM n z0 z1 z2 r0 r1 r2 r3 r4 r5 (k : Int) s heat t l (qs1 z0 z1 z2 r0 r1 r2 r3 r4 r5 (0 + Int.toNat (k : Int)) s heat) (qh1 z0 z1 z2 r0 r1 r2 r3 r4 r5 (0 + Int.toNat (k : Int)) s heat) (qt1 z0 z1 z2 r0 r1 r2 r3 r4 r5 (0 + Int.toNat (k : Int)) s heat) (ql1 z0 z1 z2 r0 r1 r2 r3 r4 r5 (0 + Int.toNat (k : Int)) s heat) (qe z0 z1 z2 r0 r1 r2 r3 r4 r5 (0 + Int.toNat (k : Int)) s heat)))))))
theorem qp2_into (s0 : ByteArray) (heat0 : Int) (k : Nat) (s : ByteArray) (heat t l : Int) : qp2 n z0 z1 z2 r0 r1 r2 r3 r4 r5 s0 heat0 k s heat t l = into (qp2 n z0 z1 z2 r0 r1 r2 r3 r4 r5 s0 heat0 k s heat t l) (qs2S n z0 z1 z2 r0 r1 r2 r3 r4 r5 k s heat t l) := by kernel_rfl
theorem qp2_fits (s0 : ByteArray) (heat0 : Int) (k : Nat) (s : ByteArray) (heat t l : Int) : fits (qp2 n z0 z1 z2 r0 r1 r2 r3 r4 r5 s0 heat0 k s heat t l) (qs2S n z0 z1 z2 r0 r1 r2 r3 r4 r5 k s heat t l) = true := by kernel_rfl
noncomputable def qp3 (s0 : ByteArray) (heat0 : Int) (k : Nat) (s : ByteArray) (heat t l : Int) (s1 : ByteArray) (h1 t1 l1 e : Int) : Tree (X × St) := pieceT (recT Tryz.prog (tabOf tb_cp)) qSl2 qSx (navC qL [true, false, false, true, false]) (qrB n z0 z1 z2 r0 r1 r2 r3 r4 r5 s0 heat0) (qrM n z0 z1 z2 r0 r1 r2 r3 r4 r5 (k : Int) s heat t l s1 h1 t1 l1 e)
def qs3S (k : Nat) (s : ByteArray) (heat t l : Int) (s1 : ByteArray) (h1 t1 l1 e : Int) : Sk (X × St) := .node (e != 0) (.leaf (.ret, qrY n z0 z1 z2 s heat t l (k : Int) e)) (.leaf (.normal, qrM n z0 z1 z2 r0 r1 r2 r3 r4 r5 (k : Int) s heat t l s1 h1 t1 l1 e))
theorem qp3_into (s0 : ByteArray) (heat0 : Int) (k : Nat) (s : ByteArray) (heat t l : Int) (s1 : ByteArray) (h1 t1 l1 e : Int) : qp3 n z0 z1 z2 r0 r1 r2 r3 r4 r5 s0 heat0 k s heat t l s1 h1 t1 l1 e = into (qp3 n z0 z1 z2 r0 r1 r2 r3 r4 r5 s0 heat0 k s heat t l s1 h1 t1 l1 e) (qs3S n z0 z1 z2 r0 r1 r2 r3 r4 r5 k s heat t l s1 h1 t1 l1 e) := by kernel_rfl
theorem qp3_fits (s0 : ByteArray) (heat0 : Int) (k : Nat) (s : ByteArray) (heat t l : Int) (s1 : ByteArray) (h1 t1 l1 e : Int) : fits (qp3 n z0 z1 z2 r0 r1 r2 r3 r4 r5 s0 heat0 k s heat t l s1 h1 t1 l1 e) (qs3S n z0 z1 z2 r0 r1 r2 r3 r4 r5 k s heat t l s1 h1 t1 l1 e) = true := by kernel_rfl
noncomputable def qp5 (s0 : ByteArray) (heat0 : Int) (k : Nat) (s : ByteArray) (heat t l : Int) : Tree (X × St) := pieceT (recT Tryz.prog (tabOf tb_cp)) qSl qSx (navC qL [true, true]) (qrB n z0 z1 z2 r0 r1 r2 r3 r4 r5 s0 heat0) (qrH n z0 z1 z2 r0 r1 r2 r3 r4 r5 (k : Int) s heat t l)
theorem qp5_into (s0 : ByteArray) (heat0 : Int) (k : Nat) (s : ByteArray) (heat t l : Int) : qp5 n z0 z1 z2 r0 r1 r2 r3 r4 r5 s0 heat0 k s heat t l = into (qp5 n z0 z1 z2 r0 r1 r2 r3 r4 r5 s0 heat0 k s heat t l) (.leaf (.normal, qrH n z0 z1 z2 r0 r1 r2 r3 r4 r5 (IntKind.i64.wrap ((k : Int) + 1)) s heat t l)) := by kernel_rfl
theorem qp5_fits (s0 : ByteArray) (heat0 : Int) (k : Nat) (s : ByteArray) (heat t l : Int) : fits (qp5 n z0 z1 z2 r0 r1 r2 r3 r4 r5 s0 heat0 k s heat t l) (.leaf (.normal, qrH n z0 z1 z2 r0 r1 r2 r3 r4 r5 (IntKind.i64.wrap ((k : Int) + 1)) s heat t l)) = true := by kernel_rfl
end
end Go.Ev
