/- Run of the reference: the region in which a round ends. Conditions: none. -/
import Derived.Test.YtlpchgidkibbeaaGreatDoorQRun
namespace Go.Ev
open Go Go.Proofs
set_option maxRecDepth 100000

section
variable (n : Nat) (z0 : Nat → ByteArray) (z1 z2 : Nat → Int) (r0 r1 r2 r3 r4 r5 : Int)
noncomputable def qp4 (s0 : ByteArray) (heat0 i : Int) (s : ByteArray) (heat t l : Int) (s1 : ByteArray) (h1 t1 l1 e : Int) : Tree (X × St) := pieceT (recT Tryz.prog (tabOf tb_cp)) qSl qSx (navC qL [true, false, false, true, true]) (qrB n z0 z1 z2 r0 r1 r2 r3 r4 r5 s0 heat0) (qrM n z0 z1 z2 r0 r1 r2 r3 r4 r5 i s heat t l s1 h1 t1 l1 e)
theorem qp4_into (s0 : ByteArray) (heat0 i : Int) (s : ByteArray) (heat t l : Int) (s1 : ByteArray) (h1 t1 l1 e : Int) : qp4 n z0 z1 z2 r0 r1 r2 r3 r4 r5 s0 heat0 i s heat t l s1 h1 t1 l1 e = into (qp4 n z0 z1 z2 r0 r1 r2 r3 r4 r5 s0 heat0 i s heat t l s1 h1 t1 l1 e) (.leaf (.normal, qrH n z0 z1 z2 r0 r1 r2 r3 r4 r5 i s1 h1 (w64 (t + t1)) (w64 (l + l1)))) := by kernel_rfl
theorem qp4_fits (s0 : ByteArray) (heat0 i : Int) (s : ByteArray) (heat t l : Int) (s1 : ByteArray) (h1 t1 l1 e : Int) : fits (qp4 n z0 z1 z2 r0 r1 r2 r3 r4 r5 s0 heat0 i s heat t l s1 h1 t1 l1 e) (.leaf (.normal, qrH n z0 z1 z2 r0 r1 r2 r3 r4 r5 i s1 h1 (w64 (t + t1)) (w64 (l + l1)))) = true := by kernel_rfl
end
end Go.Ev
