/- Functions that make a list of another one, element by element. Conditions: the list is short. (Printed by gen_cpy.py.) -/
import Derived.Test.YtlpchgidkibbeaaGreatDoorLift
import Derived.Test.YtlpchgidkibbeaaGreatDoorStp2
namespace Go.Ev
open Go Go.Proofs

def slT (j m n : Nat) : A := .one (.sl false j 0 m 0 n)
def slO (j m n : Nat) : A := .one (.sl true j 0 m 0 n)
/-- a list that is handed back: nil, or a row of the call's own -/
def resL (j m : Nat) : Nat → A
  | 0 => nilA
  | k + 1 => slO j m (k + 1)
def resBl (e : TypeId) (n : Nat) (cols : List Col) : List Blk := match n with
  | 0 => []
  | k + 1 => [⟨false, e, .rows (k + 1) cols⟩]
def baseB (size : Nat) (args : List A) (h : Hp) : St := { size := size, env := initEnv 0 args .nil, hp := { h with low := h.next } }
def glA : List (Nat × List C) := [(0, actsL)]
/-! ### spillage/spillagelaw08.steps -/
def stepsB (n : Nat) (z0 : Nat → ByteArray) (z1 : Nat → Int) (z2 : Nat → Int) : St := baseB 18 [slT 0 3 n] (hpT [⟨some 0, n, [.str z0, .int .i64 z1, .int .i64 z2]⟩] [] [])
def stepsN (n : Nat) (z0 : Nat → ByteArray) (z1 : Nat → Int) (z2 : Nat → Int) (news : List Blk) (env : List (Nat × A)) : St := stN 18 (envL env) (bsS [⟨some 0, n, [.str z0, .int .i64 z1, .int .i64 z2]⟩] []) (globsG 1 []) news
def stepsH (n : Nat) (z0 : Nat → ByteArray) (z1 : Nat → Int) (z2 : Nat → Int) : Nat → St
  | 0 => stepsN n z0 z1 z2 [] [(3, nilA), (6, slT 0 3 n), (7, int n), (8, int 0)]
  | k + 1 => stepsN n z0 z1 z2 [⟨false, 139, .rows (k + 1) [.str z0, .int .i64 z1, .int .i64 z2]⟩] [(3, slO 1 3 (k + 1)), (6, slT 0 3 n), (7, int n), (8, int ((k + 1 : Nat) : Int))]
def stepsX (n : Nat) (z0 : Nat → ByteArray) (z1 : Nat → Int) (z2 : Nat → Int) : Nat → St
  | 0 => stepsN n z0 z1 z2 [] [(3, nilA)]
  | k + 1 => stepsN n z0 z1 z2 [⟨false, 139, .rows (k + 1) [.str z0, .int .i64 z1, .int .i64 z2]⟩] [(3, slO 1 3 (k + 1))]
noncomputable def stepsS (n : Nat) (z0 : Nat → ByteArray) (z1 : Nat → Int) (z2 : Nat → Int) : Nat → Tree (X × St)
  | 0 => .node (decide ((0 : Int) < (n : Int))) (.need (decide ((0 : Int) ≤ 0) && decide ((0 : Int) < (n : Int))) (.need (Nat.blt (0 + Int.toNat 0) n) (.need (Nat.blt (0 + Int.toNat 0) n) (.need (Nat.blt (0 + Int.toNat 0) n) (.need true (.leaf (.normal, stepsN n z0 z1 z2 [⟨false, 139, .flat [cs (z0 0), ci (z1 0), ci (z2 0)]⟩] [(3, slO 1 3 1), (6, slT 0 3 n), (7, int n), (8, int (IntKind.i64.wrap (((0 : Nat) : Int) + 1)))]))))))) (.leaf (.exit 0, stepsX n z0 z1 z2 0))
  | k + 1 => .node (decide (((k + 1 : Nat) : Int) < (n : Int))) (.need (decide (0 ≤ ((k + 1 : Nat) : Int)) && decide (((k + 1 : Nat) : Int) < (n : Int))) (.need (Nat.blt (0 + Int.toNat ((k + 1 : Nat) : Int)) n) (.need (Nat.blt (0 + Int.toNat ((k + 1 : Nat) : Int)) n) (.need (Nat.blt (0 + Int.toNat ((k + 1 : Nat) : Int)) n) (.need (Nat.ble (k + 1) (k + 1) && Nat.blt ((k + 1 + 1) * ((Tryz.prog.info? 139).map (·.bytes)).getD 0) 140737488355328 && Nat.ble (k + 1 + 1) 9223372036854775807) (.leaf (.normal, stepsN n z0 z1 z2 [⟨false, 139, .rows (k + 1 + 1) [.str (putF z0 (k + 1) (z0 (0 + Int.toNat ((k + 1 : Nat) : Int)))), .int .i64 (putF z1 (k + 1) (z1 (0 + Int.toNat ((k + 1 : Nat) : Int)))), .int .i64 (putF z2 (k + 1) (z2 (0 + Int.toNat ((k + 1 : Nat) : Int))))]⟩] [(3, slO 1 3 (k + 1 + 1)), (6, slT 0 3 n), (7, int n), (8, int (IntKind.i64.wrap (((k + 1 : Nat) : Int) + 1)))]))))))) (.leaf (.exit 0, stepsX n z0 z1 z2 (k + 1)))
def stepsF : FT
  | [], [], [], [⟨_, n, [.str z0, .int .i64 z1, .int .i64 z2]⟩] => .need (Nat.ble n 1000000) (.node (Nat.beq n 0) (.leaf (nilA, [])) (.leaf (slO (1) 3 n, [⟨false, 139, .rows n [.str z0, .int .i64 z1, .int .i64 z2]⟩])))
  | _, _, _, _ => .fail 360
def stepsSp : Spec := fun args h => specT [(false, [.t [.str fun _ => ⟨#[]⟩, .int .i64 fun _ => 0, .int .i64 fun _ => 0]])] [] stepsF args h
def tb_steps : List (FuncId × Spec) := (64, stepsSp) :: tb_qst
/-! ### spillage/salt.mapped[spillage/salt.Step,spillage/api.Errno] -/
def mapSC0 (z0 : Nat → ByteArray) (z1 : Nat → Int) (z2 : Nat → Int) (r0 : Int) (r1 : Int) (r2 : Int) (r3 : Int) (r4 : Int) (r5 : Int) : Nat → Int := fun ix => stepErr r0 (z1 ix) (z2 ix) (z0 ix)
def mapSB (n : Nat) (z0 : Nat → ByteArray) (z1 : Nat → Int) (z2 : Nat → Int) (r0 : Int) (r1 : Int) (r2 : Int) (r3 : Int) (r4 : Int) (r5 : Int) : St := baseB 22 [slT 0 3 n, .one (.fb 121 [(true, [.int .i64 r0, .int .i64 r1, .int .i64 r2, .int .i64 r3, .int .i64 r4, .int .i64 r5])])] (hpT [⟨some 0, n, [.str z0, .int .i64 z1, .int .i64 z2]⟩] [(0, actsL)] [])
def mapSN (n : Nat) (z0 : Nat → ByteArray) (z1 : Nat → Int) (z2 : Nat → Int) (r0 : Int) (r1 : Int) (r2 : Int) (r3 : Int) (r4 : Int) (r5 : Int) (news : List Blk) (env : List (Nat × A)) : St := stN 22 (envL env) (bsS [⟨some 0, n, [.str z0, .int .i64 z1, .int .i64 z2]⟩] [(0, actsL)]) (globsG 1 [(0, actsL)]) news
def mapSH (n : Nat) (z0 : Nat → ByteArray) (z1 : Nat → Int) (z2 : Nat → Int) (r0 : Int) (r1 : Int) (r2 : Int) (r3 : Int) (r4 : Int) (r5 : Int) : Nat → St
  | 0 => mapSN n z0 z1 z2 r0 r1 r2 r3 r4 r5 [] [(5, nilA), (8, slT 0 3 n), (9, int n), (10, int 0), (1, .one (.fb 121 [(true, [.int .i64 r0, .int .i64 r1, .int .i64 r2, .int .i64 r3, .int .i64 r4, .int .i64 r5])]))]
  | k + 1 => mapSN n z0 z1 z2 r0 r1 r2 r3 r4 r5 [⟨false, 31, .rows (k + 1) [.int .i64 (mapSC0 z0 z1 z2 r0 r1 r2 r3 r4 r5)]⟩] [(5, slO 2 1 (k + 1)), (8, slT 0 3 n), (9, int n), (10, int ((k + 1 : Nat) : Int)), (1, .one (.fb 121 [(true, [.int .i64 r0, .int .i64 r1, .int .i64 r2, .int .i64 r3, .int .i64 r4, .int .i64 r5])]))]
def mapSX (n : Nat) (z0 : Nat → ByteArray) (z1 : Nat → Int) (z2 : Nat → Int) (r0 : Int) (r1 : Int) (r2 : Int) (r3 : Int) (r4 : Int) (r5 : Int) : Nat → St
  | 0 => mapSN n z0 z1 z2 r0 r1 r2 r3 r4 r5 [] [(5, nilA)]
  | k + 1 => mapSN n z0 z1 z2 r0 r1 r2 r3 r4 r5 [⟨false, 31, .rows (k + 1) [.int .i64 (mapSC0 z0 z1 z2 r0 r1 r2 r3 r4 r5)]⟩] [(5, slO 2 1 (k + 1))]
noncomputable def mapSS (n : Nat) (z0 : Nat → ByteArray) (z1 : Nat → Int) (z2 : Nat → Int) (r0 : Int) (r1 : Int) (r2 : Int) (r3 : Int) (r4 : Int) (r5 : Int) : Nat → Tree (X × St)
  | 0 => .node (decide ((0 : Int) < (n : Int))) (.need (decide ((0 : Int) ≤ 0) && decide ((0 : Int) < (n : Int))) (.need (Nat.blt (0 + Int.toNat 0) n) (.need (Nat.blt (0 + Int.toNat 0) n) (.need (Nat.blt (0 + Int.toNat 0) n) (.need true (.need true (.leaf (.normal, mapSN n z0 z1 z2 r0 r1 r2 r3 r4 r5 [⟨false, 31, .flat [ci ((mapSC0 z0 z1 z2 r0 r1 r2 r3 r4 r5) 0)]⟩] [(5, slO 2 1 1), (8, slT 0 3 n), (9, int n), (10, int (IntKind.i64.wrap (((0 : Nat) : Int) + 1))), (1, .one (.fb 121 [(true, [.int .i64 r0, .int .i64 r1, .int .i64 r2, .int .i64 r3, .int .i64 r4, .int .i64 r5])]))])))))))) (.leaf (.exit 0, mapSX n z0 z1 z2 r0 r1 r2 r3 r4 r5 0))
  | k + 1 => .node (decide (((k + 1 : Nat) : Int) < (n : Int))) (.need (decide (0 ≤ ((k + 1 : Nat) : Int)) && decide (((k + 1 : Nat) : Int) < (n : Int))) (.need (Nat.blt (0 + Int.toNat ((k + 1 : Nat) : Int)) n) (.need (Nat.blt (0 + Int.toNat ((k + 1 : Nat) : Int)) n) (.need (Nat.blt (0 + Int.toNat ((k + 1 : Nat) : Int)) n) (.need true (.need (Nat.ble (k + 1) (k + 1) && Nat.blt ((k + 1 + 1) * ((Tryz.prog.info? 31).map (·.bytes)).getD 0) 140737488355328 && Nat.ble (k + 1 + 1) 9223372036854775807) (.leaf (.normal, mapSN n z0 z1 z2 r0 r1 r2 r3 r4 r5 [⟨false, 31, .rows (k + 1 + 1) [.int .i64 (putF (mapSC0 z0 z1 z2 r0 r1 r2 r3 r4 r5) (k + 1) ((mapSC0 z0 z1 z2 r0 r1 r2 r3 r4 r5) (0 + Int.toNat ((k + 1 : Nat) : Int))))]⟩] [(5, slO 2 1 (k + 1 + 1)), (8, slT 0 3 n), (9, int n), (10, int (IntKind.i64.wrap (((k + 1 : Nat) : Int) + 1))), (1, .one (.fb 121 [(true, [.int .i64 r0, .int .i64 r1, .int .i64 r2, .int .i64 r3, .int .i64 r4, .int .i64 r5])]))])))))))) (.leaf (.exit 0, mapSX n z0 z1 z2 r0 r1 r2 r3 r4 r5 (k + 1)))
def mapSF : FT
  | [r0, r1, r2, r3, r4, r5], [], [], [⟨_, n, [.str z0, .int .i64 z1, .int .i64 z2]⟩] => .need (Nat.ble n 1000000) (.node (Nat.beq n 0) (.leaf (nilA, [])) (.leaf (slO (2) 1 n, [⟨false, 31, .rows n [.int .i64 (mapSC0 z0 z1 z2 r0 r1 r2 r3 r4 r5)]⟩])))
  | _, _, _, _ => .fail 360
def mapSSp : Spec := fun args h => specT [(false, [.t [.str fun _ => ⟨#[]⟩, .int .i64 fun _ => 0, .int .i64 fun _ => 0]]), (false, [.fb 121 6])] [(0, actsL)] mapSF args h
def tb_mapS : List (FuncId × Spec) := (120, mapSSp) :: tb_steps
end Go.Ev
