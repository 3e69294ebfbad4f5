/- Layers that are put together: states of the two functions' loops. Conditions: none. -/
import Derived.Test.YtlpchgidkibbeaaGreatDoorTank3
namespace Go.Ev
open Go Go.Proofs
set_option maxRecDepth 100000
abbrev T3 := Nat × (Nat → Int) × (Nat → Int)
def pushT (s : T3) (x y : Int) : T3 := (s.1 + 1, putF s.2.1 s.1 x, putF s.2.2 s.1 y)
def mergeT (s : T3) : T3 := (s.1 - 1, putF s.2.1 (s.1 - 2) (w64 (s.2.1 (s.1 - 2) + s.2.1 (s.1 - 1))), putF s.2.2 (s.1 - 2) (w64 (s.2.2 (s.1 - 2) + s.2.2 (s.1 - 1))))
def canM (s : T3) : Bool := match decide ((s.1 : Int) > 1) with
 | true => !(cold s.2.1 s.2.2 (s.1 - 2) (s.1 - 1))
 | false => false
def mergeN : Nat → T3 → T3
 | 0, s => s
 | f + 1, s => match canM s with
  | true => mergeN f (mergeT s)
  | false => s
def togS (z1 z2 : Nat → Int) : Nat → T3
 | 0 => (0, fun _ => 0, fun _ => 0)
 | k + 1 => mergeN ((togS z1 z2 k).1 + 1) (pushT (togS z1 z2 k) (z1 k) (z2 k))
section
variable (n : Nat) (z1 z2 : Nat → Int)
def tgN (env : List (Nat × A)) (news : List Blk) : St := stN 60 (envL env) (bsS [⟨some 0, n, tkC z1 z2⟩] []) [] news true
def tgB : St := { baseB 60 [slT 0 2 n] (tankH n z1 z2) with keep := true }
def tgA (m : Nat) : A := match m with | 0 => nilA | m + 1 => slO 1 2 (m + 1)
def tgBl (e : TypeId) (s : T3) : List Blk := match s.1 with | 0 => [] | m + 1 => [⟨false, e, .rows (m + 1) (tkC s.2.1 s.2.2)⟩]
def tgS (s : T3) (i : Int) : St := tgN n z1 z2 [(3, .one (.fn 140 [])), (4, tgA s.1), (9, slT 0 2 n), (10, int n), (11, int i)] (tgBl 152 s)
def tgI (s : T3) (i : Int) : St := tgN n z1 z2 [(3, .one (.fn 140 [])), (4, tgA s.1), (7, int (s.1 : Int)), (9, slT 0 2 n), (10, int n), (11, int i)] (tgBl 152 s)
noncomputable def tgC : Code := loopF Tryz.f107
noncomputable def tgPI : List Bool := pathOf tgC 0
noncomputable def tgRe : Code → St → Tree (X × St) := recT Tryz.prog (tabOf tbT1)
noncomputable def tgIT (s : T3) (i : Int) : Tree (X × St) := (tgRe (nthLoop tgC tgPI) (tgI n z1 z2 s i)).bind (canonT [3, 4, 7, 9, 10, 11] [3, 4, 9, 10, 11] (tgB n z1 z2))
noncomputable def tgR1 (s : T3) (k : Nat) : Tree ((X × St) ⊕ (List Bool × St)) := (evB tgRe tgC (tgS n z1 z2 s (k : Int))).bind (canO [3, 4, 7, 9, 10, 11] [3, 4] (tgB n z1 z2))
noncomputable def tgR2 (s : T3) (k : Nat) : Tree ((X × St) ⊕ (List Bool × St)) := (evR tgRe true tgC tgPI (.exit 2) (tgS n z1 z2 s (k : Int))).bind (canO [] [3, 4, 9, 10, 11] (tgB n z1 z2))
def qgN (env : List (Nat × A)) (news : List Blk) : St := stN 77 (envL env) (bsS [⟨some 0, n, tkC z1 z2⟩] []) [] news true
def qgB : St := { baseB 77 [slT 0 2 n] (tankH n z1 z2) with keep := true }
def qgS (s : T3) (i : Int) : St := qgN n z1 z2 [(0, slT 0 2 n), (3, tgA s.1), (4, int i)] (tgBl 98 s)
def qgI (s : T3) (i : Int) : St := qgN n z1 z2 [(0, slT 0 2 n), (3, tgA s.1), (4, int i), (5, int (s.1 : Int))] (tgBl 98 s)
noncomputable def qgC : Code := loopF Tryz.f110
noncomputable def qgPI : List Bool := pathOf qgC 0
noncomputable def qgIT (s : T3) (i : Int) : Tree (X × St) := (tgRe (nthLoop qgC qgPI) (qgI n z1 z2 s i)).bind (canonT [0, 3, 4, 5] [0, 3, 4] (qgB n z1 z2))
noncomputable def qgR1 (s : T3) (k : Nat) : Tree ((X × St) ⊕ (List Bool × St)) := (evB tgRe qgC (qgS n z1 z2 s (k : Int))).bind (canO [0, 3, 4, 5] [3] (qgB n z1 z2))
noncomputable def qgR2 (s : T3) (k : Nat) : Tree ((X × St) ⊕ (List Bool × St)) := (evR tgRe true qgC qgPI (.exit 2) (qgS n z1 z2 s (k : Int))).bind (canO [] [0, 3, 4] (qgB n z1 z2))
end
end Go.Ev
