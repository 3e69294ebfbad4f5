/- Run of the reference and of the program: states of their loops. Conditions: as the entries say. -/
import Derived.Test.YtlpchgidkibbeaaGreatDoorScan
namespace Go.Ev
open Go Go.Proofs

/-! ### spillage/spillageref08.Run -/
section
variable (n : Nat) (z0 : Nat → ByteArray) (z1 z2 : Nat → Int) (r0 r1 r2 r3 r4 r5 : Int)
def qe (k : Nat) (s : ByteArray) (heat : Int) : Int := qErr r0 r1 r2 r3 r4 r5 heat (z1 k) (z2 k) s (z0 k)
def qs1 (k : Nat) (s : ByteArray) (heat : Int) : ByteArray := sif (qe z0 z1 z2 r0 r1 r2 r3 r4 r5 k s heat) (afNs s (z0 k))
def qh1 (k : Nat) (s : ByteArray) (heat : Int) : Int := zif (qe z0 z1 z2 r0 r1 r2 r3 r4 r5 k s heat) (outT r1 (qH r0 r5 heat (z1 k) (z2 k) s (z0 k)))
def qt1 (k : Nat) (s : ByteArray) (heat : Int) : Int := zif (qe z0 z1 z2 r0 r1 r2 r3 r4 r5 k s heat) (qT r0 r5 heat (z2 k) s (z0 k))
def ql1 (k : Nat) (s : ByteArray) (heat : Int) : Int := zif (qe z0 z1 z2 r0 r1 r2 r3 r4 r5 k s heat) (lostW r1 (qH r0 r5 heat (z1 k) (z2 k) s (z0 k)))
def qrN (env : List (Nat × A)) (news : List Blk) : St := stN 52 (envL env) (bsS [⟨some 0, n, st3 z0 z1 z2⟩] []) [] news true
def rcv (e : TypeId) (s : ByteArray) (heat : Int) : Blk := ⟨false, e, .flat [cs s, ci heat]⟩
def bal (e : TypeId) (t l : Int) : Blk := ⟨false, e, .flat [ci t, ci l]⟩
def qrB (s : ByteArray) (heat : Int) : St := { baseB 52 [.agg (rulesC r0 r1 r2 r3 r4 r5), .agg [cs s, ci heat], slT 0 3 n] (hpT [⟨some 0, n, st3 z0 z1 z2⟩] [] []) with keep := true }
def qrH (i : Int) (s : ByteArray) (heat t l : Int) : St := qrN n z0 z1 z2 [(2, slT 0 3 n), (3, pt 1), (4, pt 2), (6, pt 3), (7, pt 4), (8, int 0), (9, int 0), (10, pt 5), (11, int i)]
  [⟨false, 23, .flat (rulesC r0 r1 r2 r3 r4 r5)⟩, rcv 25 s heat, rcv 25 emptyB 0, bal 126 0 0, bal 126 t l]
def qrX (s : ByteArray) (heat t l i e : Int) : St := qrN n z0 z1 z2 [(4, pt 1), (6, pt 2), (7, pt 3), (8, int i), (9, int e), (10, pt 4)]
  [rcv 25 s heat, rcv 25 emptyB 0, bal 126 0 0, bal 126 t l]

/-! ### spillage/salt.Run -/
def se (k : Nat) (s : ByteArray) (heat : Int) : Int := pE1 r0 r1 r2 r3 r4 r5 heat (z1 k) (z2 k) s (z0 k)
def ss1 (k : Nat) (s : ByteArray) (heat : Int) : ByteArray := sif (se z0 z1 z2 r0 r1 r2 r3 r4 r5 k s heat) (actNs s (z0 k))
def sh1 (k : Nat) (s : ByteArray) (heat : Int) : Int := zif (se z0 z1 z2 r0 r1 r2 r3 r4 r5 k s heat) (outW r0 r1 r5 heat (z1 k) (z2 k))
def st1 (k : Nat) (s : ByteArray) (heat : Int) : Int := zif (se z0 z1 z2 r0 r1 r2 r3 r4 r5 k s heat) (takenW r0 r5 heat (z2 k))
def sl1 (k : Nat) (s : ByteArray) (heat : Int) : Int := zif (se z0 z1 z2 r0 r1 r2 r3 r4 r5 k s heat) (lostW r1 (heat1W r0 r5 heat (z1 k) (z2 k)))
def srN (env : List (Nat × A)) (news : List Blk) : St := stN 74 (envL env) (bsS [⟨some 0, n, st3 z0 z1 z2⟩] glA) (globsG 1 glA) news true
def srB (s : ByteArray) (heat : Int) : St := { baseB 74 [.agg (rulesC r0 r1 r2 r3 r4 r5), .agg [cs s, ci heat], slT 0 3 n] (hpT [⟨some 0, n, st3 z0 z1 z2⟩] glA []) with keep := true }
def srH (i : Int) (s : ByteArray) (heat t l : Int) : St := srN n z0 z1 z2 [(3, pt 2), (4, pt 3), (6, pt 4), (7, pt 5), (8, int 0), (9, int 0), (11, pt 6), (36, slT 0 3 n), (37, int n), (38, int i)]
  [⟨false, 34, .flat (rulesC r0 r1 r2 r3 r4 r5)⟩, rcv 35 s heat, rcv 35 emptyB 0, bal 120 0 0, bal 120 t l]
def srX (s : ByteArray) (heat t l i e : Int) : St := srN n z0 z1 z2 [(4, pt 2), (6, pt 3), (7, pt 4), (8, int i), (9, int e), (11, pt 5)]
  [rcv 35 s heat, rcv 35 emptyB 0, bal 120 0 0, bal 120 t l]
end
section
variable (n : Nat) (z0 : Nat → ByteArray) (z1 z2 : Nat → Int)
/-- where a step fails: the results are empty -/
def qrY (s : ByteArray) (heat t l i e : Int) : St := qrX n z0 z1 z2 s heat t l i e
def srY (s : ByteArray) (heat t l i e : Int) : St := srX n z0 z1 z2 s heat t l i e
end
end Go.Ev
