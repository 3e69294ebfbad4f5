/- Sure of the program and of the reference: states of their loops. Conditions: none. -/
import Derived.Test.YtlpchgidkibbeaaGreatDoorTScan
import Derived.Test.YtlpchgidkibbeaaGreatDoorRun0
namespace Go.Ev
open Go Go.Proofs

def itv (lo hi : Int) : Blk := ⟨false, 30, .flat [ci lo, ci hi]⟩
abbrev R5 := ByteArray × Int × ByteArray × Int × Option (Nat × Int)
section
variable (n : Nat) (z0 : Nat → ByteArray) (z1 z2 z3 : Nat → Int) (r0 r1 r2 r3 r4 r5 : Int)
/-! ### spillage/salt.Sure -/
def suN (env : List (Nat × A)) (news : List Blk) : St := stN 95 (envL env) (bsS [⟨some 0, n, st4 z0 z1 z2 z3⟩] glA) (globsG 1 glA) news true
def suB (s : ByteArray) (heat : Int) : St := { baseB 95 [.agg (rulesC r0 r1 r2 r3 r4 r5), .agg [cs s, ci heat], slT 0 4 n] (hpT [⟨some 0, n, st4 z0 z1 z2 z3⟩] glA []) with keep := true }
def suH (i : Int) (s1 : ByteArray) (h1 : Int) (s2 : ByteArray) (h2 : Int) : St := suN n z0 z1 z2 z3 [(3, pt 2), (6, pt 3), (7, int 0), (8, int 0), (10, pt 4), (11, pt 5), (12, int 0), (13, int 0), (41, slT 0 4 n), (42, int n), (43, int i)]
  [⟨false, 34, .flat (rulesC r0 r1 r2 r3 r4 r5)⟩, itv 0 0, rcv 35 s1 h1, rcv 35 s2 h2]
def suX (s1 : ByteArray) (h1 : Int) (s2 : ByteArray) (h2 i e : Int) : St := suN n z0 z1 z2 z3 [(6, pt 2), (7, int 0), (8, int 0), (10, pt 3), (11, pt 4), (12, int i), (13, int e)] [itv 0 0, rcv 35 s1 h1, rcv 35 s2 h2]
def suR (lo hi i e : Int) : St := suN n z0 z1 z2 z3 [(6, pt 2), (7, int i), (8, int e)] [itv lo hi]
end
def suSl : List Nat := [3, 6, 7, 8, 10, 11, 12, 13, 41, 42, 43]
def suSx : List Nat := [6, 7, 8, 10, 11, 12, 13]
/-- what Sure hands back -/
def surA (lo hi i e : Int) : A := .tup [(true, [ci lo, ci hi]), (false, [ci i]), (false, [ci e])]
abbrev R4 := Int × Int × Int × Int
def surA4 (r : R4) : A := surA r.1 r.2.1 r.2.2.1 r.2.2.2
def suQ (x : R5) : R4 := match x with
  | (_, h1, _, h2, none) => (h1, h2, 0, 0)
  | (_, _, _, _, some (k, e)) => (0, 0, (k : Int), e)
def suP (E : Int) (x : R5) : R4 := match E != 0 with
  | true => (0, 0, 0, E)
  | false => suQ x
section
variable (n : Nat) (z0 : Nat → ByteArray) (z1 z2 z3 : Nat → Int) (r0 r1 r2 r3 r4 r5 : Int)
/-- the rounds from one on: the two receivers, and where a step fails -/
def suGo : Nat → Nat → ByteArray → Int → ByteArray → Int → R5
  | 0, _, s1, h1, s2, h2 => (s1, h1, s2, h2, none)
  | m + 1, k, s1, h1, s2, h2 => match se z0 z1 z3 r0 r1 r2 r3 r4 r5 k s1 h1 != 0 with
    | true => (s1, h1, s2, h2, some (k, se z0 z1 z3 r0 r1 r2 r3 r4 r5 k s1 h1))
    | false => match se z0 z2 z3 r0 r1 r2 r3 r4 r5 k s2 h2 != 0 with
      | true => (ss1 z0 z1 z3 r0 r1 r2 r3 r4 r5 k s1 h1, sh1 z0 z1 z3 r0 r1 r2 r3 r4 r5 k s1 h1, s2, h2, some (k, se z0 z2 z3 r0 r1 r2 r3 r4 r5 k s2 h2))
      | false => suGo m (k + 1) (ss1 z0 z1 z3 r0 r1 r2 r3 r4 r5 k s1 h1) (sh1 z0 z1 z3 r0 r1 r2 r3 r4 r5 k s1 h1) (ss1 z0 z2 z3 r0 r1 r2 r3 r4 r5 k s2 h2) (sh1 z0 z2 z3 r0 r1 r2 r3 r4 r5 k s2 h2)
def suOut (x : R5) : X × St := match x with
  | (s1, h1, s2, h2, none) => (.exit 0, suX n z0 z1 z2 z3 s1 h1 s2 h2 0 0)
  | (s1, h1, s2, h2, some (k, e)) => (.exit 0, suX n z0 z1 z2 z3 s1 h1 s2 h2 (k : Int) e)
noncomputable def suT (s0 : ByteArray) (heat0 : Int) (k : Nat) (s1 : ByteArray) (h1 : Int) (s2 : ByteArray) (h2 : Int) : Tree (X × St) := (recT Tryz.prog (tabOf tb_tq) (loopF Tryz.f14) (suH n z0 z1 z2 z3 r0 r1 r2 r3 r4 r5 k s1 h1 s2 h2)).bind (canonT suSl suSx (suB n z0 z1 z2 z3 r0 r1 r2 r3 r4 r5 s0 heat0))
noncomputable def suO (s : ByteArray) (heat : Int) : Tree ((X × St) ⊕ (List Bool × St)) := evO (recT Tryz.prog (tabOf tb_tq)) (bodyOf Tryz.f14) suSl [6, 7, 8] (suB n z0 z1 z2 z3 r0 r1 r2 r3 r4 r5 s heat)
noncomputable def suPo (s : ByteArray) (heat : Int) (q : X × St) : Tree ((X × St) ⊕ (List Bool × St)) := evO2 (recT Tryz.prog (tabOf tb_tq)) true (bodyOf Tryz.f14) (pathF Tryz.f14) [] [6, 7, 8] (suB n z0 z1 z2 z3 r0 r1 r2 r3 r4 r5 s heat) q
end

/-! ### spillage/spillageref08.Sure -/
section
variable (n : Nat) (z0 : Nat → ByteArray) (z1 z2 z3 : Nat → Int) (r0 r1 r2 r3 r4 r5 : Int)
def quN (env : List (Nat × A)) (news : List Blk) : St := stN 91 (envL env) (bsS [⟨some 0, n, st4 z0 z1 z2 z3⟩] []) [] news true
def quB (s : ByteArray) (heat : Int) : St := { baseB 91 [.agg (rulesC r0 r1 r2 r3 r4 r5), .agg [cs s, ci heat], slT 0 4 n] (hpT [⟨some 0, n, st4 z0 z1 z2 z3⟩] [] []) with keep := true }
def quH (i : Int) (s1 : ByteArray) (h1 : Int) (s2 : ByteArray) (h2 : Int) : St := quN n z0 z1 z2 z3 [(2, slT 0 4 n), (3, pt 1), (6, pt 2), (7, int 0), (8, int 0), (9, pt 3), (10, pt 4), (11, int i)]
  [⟨false, 23, .flat (rulesC r0 r1 r2 r3 r4 r5)⟩, itv 0 0, rcv 25 s1 h1, rcv 25 s2 h2]
/-- behind the first step -/
def quM1 (i : Int) (s1 : ByteArray) (h1 : Int) (s2 : ByteArray) (h2 : Int) (u1 : ByteArray) (v1 e1 : Int) : St := quN n z0 z1 z2 z3 [(2, slT 0 4 n), (3, pt 1), (6, pt 2), (7, int 0), (8, int 0), (9, pt 3), (10, pt 4), (11, int i), (12, pt 5), (14, int e1)]
  [⟨false, 23, .flat (rulesC r0 r1 r2 r3 r4 r5)⟩, itv 0 0, rcv 25 s1 h1, rcv 25 s2 h2, rcv 25 u1 v1]
/-- behind both steps -/
def quM2 (i : Int) (s1 : ByteArray) (h1 : Int) (s2 : ByteArray) (h2 : Int) (u1 : ByteArray) (v1 e1 : Int) (u2 : ByteArray) (v2 e2 : Int) : St := quN n z0 z1 z2 z3 [(2, slT 0 4 n), (3, pt 1), (6, pt 2), (7, int 0), (8, int 0), (9, pt 3), (10, pt 4), (11, int i), (12, pt 5), (14, int e1), (15, pt 6), (17, int e2)]
  [⟨false, 23, .flat (rulesC r0 r1 r2 r3 r4 r5)⟩, itv 0 0, rcv 25 s1 h1, rcv 25 s2 h2, rcv 25 u1 v1, rcv 25 u2 v2]
/-- behind the test -/
def quM3 (i : Int) (s1 : ByteArray) (h1 : Int) (s2 : ByteArray) (h2 : Int) (u1 : ByteArray) (v1 : Int) (u2 : ByteArray) (v2 : Int) : St := quN n z0 z1 z2 z3 [(2, slT 0 4 n), (3, pt 1), (6, pt 2), (7, int 0), (8, int 0), (9, pt 3), (10, pt 4), (11, int i), (12, pt 5), (15, pt 6)]
  [⟨false, 23, .flat (rulesC r0 r1 r2 r3 r4 r5)⟩, itv 0 0, rcv 25 s1 h1, rcv 25 s2 h2, rcv 25 u1 v1, rcv 25 u2 v2]
def quX (s1 : ByteArray) (h1 : Int) (s2 : ByteArray) (h2 : Int) : St := quN n z0 z1 z2 z3 [(6, pt 1), (7, int 0), (8, int 0), (9, pt 2), (10, pt 3)] [itv 0 0, rcv 25 s1 h1, rcv 25 s2 h2]
/-- where a step fails -/
def quY (s1 : ByteArray) (h1 : Int) (s2 : ByteArray) (h2 i e : Int) : St := quN n z0 z1 z2 z3 [(6, pt 1), (7, int i), (8, int e), (9, pt 2), (10, pt 3)] [itv 0 0, rcv 25 s1 h1, rcv 25 s2 h2]
def quR (lo hi i e : Int) : St := quN n z0 z1 z2 z3 [(6, pt 1), (7, int i), (8, int e)] [itv lo hi]
def quE (k : Nat) (s1 : ByteArray) (h1 : Int) (s2 : ByteArray) (h2 : Int) : Int := firstZ [qe z0 z1 z3 r0 r1 r2 r3 r4 r5 k s1 h1, qe z0 z2 z3 r0 r1 r2 r3 r4 r5 k s2 h2]
/-- the reference's rounds from one on -/
def quGo : Nat → Nat → ByteArray → Int → ByteArray → Int → R5
  | 0, _, s1, h1, s2, h2 => (s1, h1, s2, h2, none)
  | m + 1, k, s1, h1, s2, h2 => match quE z0 z1 z2 z3 r0 r1 r2 r3 r4 r5 k s1 h1 s2 h2 != 0 with
    | true => (s1, h1, s2, h2, some (k, quE z0 z1 z2 z3 r0 r1 r2 r3 r4 r5 k s1 h1 s2 h2))
    | false => quGo m (k + 1) (qs1 z0 z1 z3 r0 r1 r2 r3 r4 r5 k s1 h1) (qh1 z0 z1 z3 r0 r1 r2 r3 r4 r5 k s1 h1) (qs1 z0 z2 z3 r0 r1 r2 r3 r4 r5 k s2 h2) (qh1 z0 z2 z3 r0 r1 r2 r3 r4 r5 k s2 h2)
def quOut (x : R5) : X × St := match x with
  | (s1, h1, s2, h2, none) => (.exit 0, quX n z0 z1 z2 z3 s1 h1 s2 h2)
  | (s1, h1, s2, h2, some (k, e)) => (.ret, quY n z0 z1 z2 z3 s1 h1 s2 h2 (k : Int) e)
end
def quSl : List Nat := [2, 3, 6, 7, 8, 9, 10, 11]
def quSl1 : List Nat := [2, 3, 6, 7, 8, 9, 10, 11, 12, 14]
def quSl2 : List Nat := [2, 3, 6, 7, 8, 9, 10, 11, 12, 14, 15, 17]
def quSl3 : List Nat := [2, 3, 6, 7, 8, 9, 10, 11, 12, 15]
def quSx : List Nat := [6, 7, 8, 9, 10]
noncomputable def quL : Code := loopF Tryz.f20
end Go.Ev
