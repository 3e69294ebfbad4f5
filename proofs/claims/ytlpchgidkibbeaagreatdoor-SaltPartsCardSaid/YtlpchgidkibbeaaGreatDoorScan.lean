/- Functions that go through a list of steps: sizes, checks, runs. Conditions: as the entries say. -/
import Derived.Test.YtlpchgidkibbeaaGreatDoorCpy
namespace Go.Ev
open Go Go.Proofs

/-! ### spillage/spillageref08.ShortPlan -/
def anyL (z : Nat → ByteArray) : Nat → Nat → Bool
  | 0, _ => false
  | m + 1, k => match decide (((z k).size : Int) > 40) with
    | true => true
    | false => anyL z m (k + 1)
def shortB (n : Nat) (z : Nat → ByteArray) : Bool := match anyL z n 0 with
  | true => false
  | false => match decide ((n : Int) ≤ 24) with
    | true => true
    | false => (n : Int) == 257
def spN (n : Nat) (cols : List Col) (env : List (Nat × A)) : St := stN 25 (envL env) (bsS [⟨some 0, n, cols⟩] []) [] []
def spB (n : Nat) (cols : List Col) (m : Nat) : St := baseB 25 [slT 0 m n] (hpT [⟨some 0, n, cols⟩] [] [])
def spH (n : Nat) (cols : List Col) (m : Nat) (i : Int) : St := spN n cols [(0, slT 0 m n), (2, boo false), (3, int i)]
def spX (n : Nat) (cols : List Col) (m : Nat) : St := spN n cols [(0, slT 0 m n), (2, boo false)]
def spS (n : Nat) (cols : List Col) (m : Nat) (z : Nat → ByteArray) (k : Nat) : Tree (X × St) := .node (decide ((k : Int) < (n : Int))) (.need (decide (0 ≤ (k : Int)) && decide ((k : Int) < (n : Int))) (.need (Nat.blt (0 + Int.toNat (k : Int)) n) (.node (decide (((z (0 + Int.toNat (k : Int))).size : Int) > 40)) (.leaf (.ret, spX n cols m)) (.leaf (.normal, spH n cols m (IntKind.i64.wrap ((k : Int) + 1))))))) (.leaf (.exit 0, spX n cols m))
def spFin (n : Nat) (cols : List Col) (m : Nat) (z : Nat → ByteArray) (k : Nat) : X × St := match anyL z (n - k) k with
  | true => (.ret, spX n cols m)
  | false => (.exit 0, spX n cols m)
def spF : FT
  | [], [], [], [⟨_, n, [.str z0, .int .i64 _, .int .i64 _]⟩] => .need (Nat.ble n 9223372036854775807) (.leaf (boo (shortB n z0), []))
  | _, _, _, _ => .fail 361
def stepD : List Col := [.str fun _ => ⟨#[]⟩, .int .i64 fun _ => 0, .int .i64 fun _ => 0]
def spSp : Spec := fun args h => specT [(false, [.t stepD])] [] spF args h
/-! ### spillage/spillageref08.CheckPlan -/
def qpC (z0 : Nat → ByteArray) (z1 z2 : Nat → Int) (r0 : Int) : Nat → Int := fun k => qstepErr r0 (z1 k) (z2 k) (z0 k)
def qplanE (n : Nat) (g : Nat → Int) : Int := match decide ((n : Int) > 256) with
  | true => 5
  | false => (fnz g n 0).getD 0
section
variable (n : Nat) (z0 : Nat → ByteArray) (z1 z2 : Nat → Int) (r0 r1 r2 r3 r4 r5 : Int)
def st3 : List Col := [.str z0, .int .i64 z1, .int .i64 z2]
def rulesC : List C := [ci r0, ci r1, ci r2, ci r3, ci r4, ci r5]
def cpN (env : List (Nat × A)) (news : List Blk) : St := stN 25 (envL env) (bsS [⟨some 0, n, st3 z0 z1 z2⟩] []) [] news
def cpB : St := baseB 25 [.agg (rulesC r0 r1 r2 r3 r4 r5), slT 0 3 n] (hpT [⟨some 0, n, st3 z0 z1 z2⟩] [] [])
def pt (id : Nat) : A := .one (.ptr id 0 1 0)
def cpH (i : Int) : St := cpN n z0 z1 z2 [(1, slT 0 3 n), (2, pt 1), (4, int 0), (5, int i)] [⟨false, 23, .flat (rulesC r0 r1 r2 r3 r4 r5)⟩]
def cpX (e : Int) : St := cpN n z0 z1 z2 [(4, int e)] []
def cpS (k : Nat) : Tree (X × St) := .node (decide ((k : Int) < (n : Int))) (.need (decide (0 ≤ (k : Int)) && decide ((k : Int) < (n : Int))) (.need (Nat.blt (0 + Int.toNat (k : Int)) n) (.need (Nat.blt (0 + Int.toNat (k : Int)) n) (.need (Nat.blt (0 + Int.toNat (k : Int)) n) (.need true (.node (qpC z0 z1 z2 r0 (0 + Int.toNat (k : Int)) != 0) (.leaf (.ret, cpX n z0 z1 z2 (qpC z0 z1 z2 r0 (0 + Int.toNat (k : Int))))) (.leaf (.normal, cpH n z0 z1 z2 r0 r1 r2 r3 r4 r5 (IntKind.i64.wrap ((k : Int) + 1)))))))))) (.leaf (.exit 0, cpX n z0 z1 z2 0))
def cpFin (k : Nat) : X × St := match fnz (qpC z0 z1 z2 r0) (n - k) k with
  | some e => (.ret, cpX n z0 z1 z2 e)
  | none => (.exit 0, cpX n z0 z1 z2 0)
end
def cpF : FT
  | [r0, _, _, _, _, _], [], [], [⟨_, n, [.str z0, .int .i64 z1, .int .i64 z2]⟩] => .need (Nat.ble n 9223372036854775807) (.leaf (int (qplanE n (qpC z0 z1 z2 r0)), []))
  | _, _, _, _ => .fail 362
def i6 : List CK := [.i, .i, .i, .i, .i, .i]
def cpSp : Spec := fun args h => specT [(true, i6), (false, [.t stepD])] [] cpF args h
def tb_cp : List (FuncId × Spec) := (65, cpSp) :: (62, spSp) :: tb_mapS
end Go.Ev
