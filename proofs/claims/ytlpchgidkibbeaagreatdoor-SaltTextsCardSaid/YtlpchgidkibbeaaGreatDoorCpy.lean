/- Functions that make a list of another one, element by element. Conditions: the list is short. (Printed by gen_cpy.py.) -/
import Derived.Test.YtlpchgidkibbeaaGreatDoorLift
import Derived.Test.YtlpchgidkibbeaaGreatDoorStp2
namespace Go.Ev
open Go Go.Proofs

def slT (j m n : Nat) : A := .one (.sl false j 0 m 0 n)
def slO (j m n : Nat) : A := .one (.sl true j 0 m 0 n)
/-- a list that is handed back: nil, or a row of the call's own -/
def resL (j m : Nat) : Nat → A
  | 0 => nilA
  | k + 1 => slO j m (k + 1)
def resBl (e : TypeId) (n : Nat) (cols : List Col) : List Blk := match n with
  | 0 => []
  | k + 1 => [⟨false, e, .rows (k + 1) cols⟩]
def baseB (size : Nat) (args : List A) (h : Hp) : St := { size := size, env := initEnv 0 args .nil, hp := { h with low := h.next } }
def glA : List (Nat × List C) := [(0, actsL)]
theorem glA_noId : (glA.all fun x => noIds x.2) = true := by decide

/-! ### spillage/spillagelaw08.steps -/
def stepsB (n : Nat) (z0 : Nat → ByteArray) (z1 : Nat → Int) (z2 : Nat → Int) : St := baseB 18 [slT 0 3 n] (hpT [⟨some 0, n, [.str z0, .int .i64 z1, .int .i64 z2]⟩] [] [])
def stepsN (n : Nat) (z0 : Nat → ByteArray) (z1 : Nat → Int) (z2 : Nat → Int) (news : List Blk) (env : List (Nat × A)) : St := stN 18 (envL env) (bsS [⟨some 0, n, [.str z0, .int .i64 z1, .int .i64 z2]⟩] []) (globsG 1 []) news
def stepsH (n : Nat) (z0 : Nat → ByteArray) (z1 : Nat → Int) (z2 : Nat → Int) : Nat → St
  | 0 => stepsN n z0 z1 z2 [] [(3, nilA), (6, slT 0 3 n), (7, int n), (8, int 0)]
  | k + 1 => stepsN n z0 z1 z2 [⟨false, 139, .rows (k + 1) [.str z0, .int .i64 z1, .int .i64 z2]⟩] [(3, slO 1 3 (k + 1)), (6, slT 0 3 n), (7, int n), (8, int ((k + 1 : Nat) : Int))]
def stepsX (n : Nat) (z0 : Nat → ByteArray) (z1 : Nat → Int) (z2 : Nat → Int) : Nat → St
  | 0 => stepsN n z0 z1 z2 [] [(3, nilA)]
  | k + 1 => stepsN n z0 z1 z2 [⟨false, 139, .rows (k + 1) [.str z0, .int .i64 z1, .int .i64 z2]⟩] [(3, slO 1 3 (k + 1))]
noncomputable def stepsS (n : Nat) (z0 : Nat → ByteArray) (z1 : Nat → Int) (z2 : Nat → Int) : Nat → Tree (X × St)
  | 0 => .node (decide ((0 : Int) < (n : Int))) (.need (decide ((0 : Int) ≤ 0) && decide ((0 : Int) < (n : Int))) (.need (Nat.blt (0 + Int.toNat 0) n) (.need (Nat.blt (0 + Int.toNat 0) n) (.need (Nat.blt (0 + Int.toNat 0) n) (.need true (.leaf (.normal, stepsN n z0 z1 z2 [⟨false, 139, .flat [cs (z0 0), ci (z1 0), ci (z2 0)]⟩] [(3, slO 1 3 1), (6, slT 0 3 n), (7, int n), (8, int (IntKind.i64.wrap (((0 : Nat) : Int) + 1)))]))))))) (.leaf (.exit 0, stepsX n z0 z1 z2 0))
  | k + 1 => .node (decide (((k + 1 : Nat) : Int) < (n : Int))) (.need (decide (0 ≤ ((k + 1 : Nat) : Int)) && decide (((k + 1 : Nat) : Int) < (n : Int))) (.need (Nat.blt (0 + Int.toNat ((k + 1 : Nat) : Int)) n) (.need (Nat.blt (0 + Int.toNat ((k + 1 : Nat) : Int)) n) (.need (Nat.blt (0 + Int.toNat ((k + 1 : Nat) : Int)) n) (.need (Nat.ble (k + 1) (k + 1) && Nat.blt ((k + 1 + 1) * ((Tryz.prog.info? 139).map (·.bytes)).getD 0) 140737488355328 && Nat.ble (k + 1 + 1) 9223372036854775807) (.leaf (.normal, stepsN n z0 z1 z2 [⟨false, 139, .rows (k + 1 + 1) [.str (putF z0 (k + 1) (z0 (0 + Int.toNat ((k + 1 : Nat) : Int)))), .int .i64 (putF z1 (k + 1) (z1 (0 + Int.toNat ((k + 1 : Nat) : Int)))), .int .i64 (putF z2 (k + 1) (z2 (0 + Int.toNat ((k + 1 : Nat) : Int))))]⟩] [(3, slO 1 3 (k + 1 + 1)), (6, slT 0 3 n), (7, int n), (8, int (IntKind.i64.wrap (((k + 1 : Nat) : Int) + 1)))]))))))) (.leaf (.exit 0, stepsX n z0 z1 z2 (k + 1)))
theorem steps_round (n : Nat) (z0 : Nat → ByteArray) (z1 : Nat → Int) (z2 : Nat → Int) (k : Nat) : (recT Tryz.prog (tabOf tb_qst) (loopF Tryz.f64) (stepsH n z0 z1 z2 k)).bind (canonT [3, 6, 7, 8] [3] (stepsB n z0 z1 z2)) = stepsS n z0 z1 z2 k := by
  cases k with
  | zero => kernel_rfl
  | succ k => kernel_rfl
theorem steps_loop (n : Nat) (z0 : Nat → ByteArray) (z1 : Nat → Int) (z2 : Nat → Int) (hn : n ≤ 1000000) : ComesF Tryz.prog (.loop (loopF Tryz.f64)) (stepsB n z0 z1 z2) (stepsH n z0 z1 z2 0) fun q => q = (.exit 0, stepsX n z0 z1 z2 n) := by
  refine loop_is (recT_ok tb_qst_ok) rfl [3, 6, 7, 8] [3] (stepsH n z0 z1 z2) (fun k => n - k) (fun k => k ≤ n) (fun _ => (.exit 0, stepsX n z0 z1 z2 n)) (stepsS n z0 z1 z2) (fun k _ => steps_round n z0 z1 z2 k) (fun k hk => ?_) 0 (Nat.zero_le n)
  cases k with
  | zero =>
    unfold stepsS
    by_cases h : 0 < n
    · have e1 : decide ((0 : Int) < (n : Int)) = true := by simpa using h
      have hb : Nat.blt (0 + Int.toNat 0) n = true := by rw [Nat.blt_eq]; simpa using h
      simp only [e1, Tree.All, hb]
      refine ⟨(by first | exact trivial | rfl), (by first | exact trivial | rfl), (by first | exact trivial | rfl), (by first | exact trivial | rfl), (by first | exact trivial | rfl), 1, ?_, h, by omega, (by first | exact trivial | rfl)⟩
      rw [wrap_succ (k := 0) (by omega)]
      exact le_news (show 1 + 1 ≤ lim by decide) ⟨⟨rfl, blk_body rfl (fun cs e => by cases e) fun E arr hh => rows_one rfl (fun j c col h1 h2 => by match j, h1, h2 with | 0, h1, h2 => injection h1 with h1; injection h2 with h2; subst h1; subst h2; rfl | 1, h1, h2 => injection h1 with h1; injection h2 with h2; subst h1; subst h2; rfl | 2, h1, h2 => injection h1 with h1; injection h2 with h2; subst h1; subst h2; rfl) hh⟩, trivial⟩
    · have h0 : n = 0 := by omega
      subst h0
      rfl
  | succ k =>
    unfold stepsS
    by_cases h : k + 1 < n
    · have e1 : decide (((k + 1 : Nat) : Int) < (n : Int)) = true := by simp only [decide_eq_true_eq]; omega
      have e2 : decide ((0 : Int) ≤ ((k + 1 : Nat) : Int)) = true := by simp only [decide_eq_true_eq]; omega
      have hb : Nat.blt (k + 1) n = true := by rw [Nat.blt_eq]; omega
      have e0 : ((Tryz.prog.info? 139).map (·.bytes)).getD 0 = 32 := by kernel_rfl
      have e3 : Nat.blt ((k + 1 + 1) * ((Tryz.prog.info? 139).map (·.bytes)).getD 0) 140737488355328 = true := by rw [e0, Nat.blt_eq]; omega
      have e4 : Nat.ble (k + 1 + 1) 9223372036854775807 = true := by rw [Nat.ble_eq]; omega
      simp only [e1, e2, e3, e4, ble_self, Tree.All, Nat.zero_add, Int.toNat_natCast, hb, putF_self]
      refine ⟨(by first | exact trivial | rfl), (by first | exact trivial | rfl), (by first | exact trivial | rfl), (by first | exact trivial | rfl), (by first | exact trivial | rfl), k + 1 + 1, ?_, h, by omega, (by first | exact trivial | rfl)⟩
      rw [wrap_succ (by omega)]
      exact St.Le.refl _
    · have h0 : n = k + 1 := by omega
      have e1 : decide (((k + 1 : Nat) : Int) < (n : Int)) = false := by simp only [decide_eq_false_iff_not]; omega
      simp only [e1, Tree.All]
      rw [h0]
theorem steps_call (n : Nat) (z0 : Nat → ByteArray) (z1 : Nat → Int) (z2 : Nat → Int) (hn : n ≤ 1000000) : CallAt Tryz.prog 64 [slT 0 3 n] (hpT [⟨some 0, n, [.str z0, .int .i64 z1, .int .i64 z2]⟩] [] []) (resL 1 3 n) (hpT [⟨some 0, n, [.str z0, .int .i64 z1, .int .i64 z2]⟩] [] (resBl 139 n [.str z0, .int .i64 z1, .int .i64 z2])) := by
  refine call_base (recT_ok tb_qst_ok) (c := bodyOf Tryz.f64) (fn := Tryz.f64) Tryz.func64 (by kernel_rfl) (by kernel_rfl) (false, false) 1 [3, 6, 7, 8] [2] (sB := stepsB n z0 z1 z2) (by kernel_rfl) (t := .leaf (.inr (pathF Tryz.f64, stepsH n z0 z1 z2 0))) (by kernel_rfl) ?_
  refine cutF_stop _ true [] [2] (steps_loop n z0 z1 z2 hn) fun q hq => ?_
  subst hq
  cases n with
  | zero =>
    refine (congrArg (Tree.All _) (show evO2 (recT Tryz.prog (tabOf tb_qst)) true (bodyOf Tryz.f64) (pathF Tryz.f64) [] [2] (stepsB 0 z0 z1 z2) (.exit 0, stepsX 0 z0 z1 z2 0) = .leaf (.inl (.ret, stepsN 0 z0 z1 z2 [] [(2, nilA)])) by kernel_rfl)).mpr (cutF_done (left_of (b := true) (by kernel_rfl)))
  | succ k =>
    refine (congrArg (Tree.All _) (show evO2 (recT Tryz.prog (tabOf tb_qst)) true (bodyOf Tryz.f64) (pathF Tryz.f64) [] [2] (stepsB (k + 1) z0 z1 z2) (.exit 0, stepsX (k + 1) z0 z1 z2 (k + 1)) = .leaf (.inl (.ret, stepsN (k + 1) z0 z1 z2 [⟨false, 139, .rows (k + 1) [.str z0, .int .i64 z1, .int .i64 z2]⟩] [(2, slO 1 3 (k + 1))])) by kernel_rfl)).mpr (cutF_done (left_of (b := false) (by kernel_rfl)))
def stepsF : FT
  | [], [], [], [⟨_, n, [.str z0, .int .i64 z1, .int .i64 z2]⟩] => .need (Nat.ble n 1000000) (.node (Nat.beq n 0) (.leaf (nilA, [])) (.leaf (slO (1) 3 n, [⟨false, 139, .rows n [.str z0, .int .i64 z1, .int .i64 z2]⟩])))
  | _, _, _, _ => .fail 360
def stepsSp : Spec := fun args h => specT [(false, [.t [.str fun _ => ⟨#[]⟩, .int .i64 fun _ => 0, .int .i64 fun _ => 0]])] [] stepsF args h
theorem steps_ok : SpecOk Tryz.prog 64 stepsSp := by
  refine specT_ok rfl (by decide) fun l m n ts v news hl hm hn ht hnil hF => ?_
  unfold stepsF at hF
  split at hF
  · rename_i  id n z0 z1 z2
    obtain ⟨hok, hF⟩ := Tree.need_some hF
    have hok := Nat.le_of_ble_eq_true hok
    cases id with
    | none =>
      have h0 : n = 0 := hnil _ (List.mem_singleton.2 rfl) rfl
      subst h0
      simp only [Tree.run, Nat.beq, Option.some.injEq, Prod.mk.injEq] at hF
      obtain ⟨rfl, rfl⟩ := hF
      exact call_ev tb_qst_ok (by kernel_rfl)
    | some id =>
      have hv : v = resL 1 3 n ∧ news = resBl 139 n [.str z0, .int .i64 z1, .int .i64 z2] := by
        cases n <;> (simp only [Tree.run, Nat.beq, Option.some.injEq, Prod.mk.injEq] at hF; obtain ⟨rfl, rfl⟩ := hF; exact ⟨rfl, rfl⟩)
      obtain ⟨rfl, rfl⟩ := hv
      exact steps_call n z0 z1 z2 hok
  · cases hF
def tb_steps : List (FuncId × Spec) := (64, stepsSp) :: tb_qst
theorem tb_steps_ok : TabOk Tryz.prog (tabOf tb_steps) := tab_cons tb_qst_ok steps_ok

/-! ### spillage/salt.mapped[spillage/salt.Step,spillage/api.Errno] -/
def mapSC0 (z0 : Nat → ByteArray) (z1 : Nat → Int) (z2 : Nat → Int) (r0 : Int) (r1 : Int) (r2 : Int) (r3 : Int) (r4 : Int) (r5 : Int) : Nat → Int := fun ix => stepErr r0 (z1 ix) (z2 ix) (z0 ix)
def mapSB (n : Nat) (z0 : Nat → ByteArray) (z1 : Nat → Int) (z2 : Nat → Int) (r0 : Int) (r1 : Int) (r2 : Int) (r3 : Int) (r4 : Int) (r5 : Int) : St := baseB 22 [slT 0 3 n, .one (.fb 121 [(true, [.int .i64 r0, .int .i64 r1, .int .i64 r2, .int .i64 r3, .int .i64 r4, .int .i64 r5])])] (hpT [⟨some 0, n, [.str z0, .int .i64 z1, .int .i64 z2]⟩] [(0, actsL)] [])
def mapSN (n : Nat) (z0 : Nat → ByteArray) (z1 : Nat → Int) (z2 : Nat → Int) (r0 : Int) (r1 : Int) (r2 : Int) (r3 : Int) (r4 : Int) (r5 : Int) (news : List Blk) (env : List (Nat × A)) : St := stN 22 (envL env) (bsS [⟨some 0, n, [.str z0, .int .i64 z1, .int .i64 z2]⟩] [(0, actsL)]) (globsG 1 [(0, actsL)]) news
def mapSH (n : Nat) (z0 : Nat → ByteArray) (z1 : Nat → Int) (z2 : Nat → Int) (r0 : Int) (r1 : Int) (r2 : Int) (r3 : Int) (r4 : Int) (r5 : Int) : Nat → St
  | 0 => mapSN n z0 z1 z2 r0 r1 r2 r3 r4 r5 [] [(5, nilA), (8, slT 0 3 n), (9, int n), (10, int 0), (1, .one (.fb 121 [(true, [.int .i64 r0, .int .i64 r1, .int .i64 r2, .int .i64 r3, .int .i64 r4, .int .i64 r5])]))]
  | k + 1 => mapSN n z0 z1 z2 r0 r1 r2 r3 r4 r5 [⟨false, 31, .rows (k + 1) [.int .i64 (mapSC0 z0 z1 z2 r0 r1 r2 r3 r4 r5)]⟩] [(5, slO 2 1 (k + 1)), (8, slT 0 3 n), (9, int n), (10, int ((k + 1 : Nat) : Int)), (1, .one (.fb 121 [(true, [.int .i64 r0, .int .i64 r1, .int .i64 r2, .int .i64 r3, .int .i64 r4, .int .i64 r5])]))]
def mapSX (n : Nat) (z0 : Nat → ByteArray) (z1 : Nat → Int) (z2 : Nat → Int) (r0 : Int) (r1 : Int) (r2 : Int) (r3 : Int) (r4 : Int) (r5 : Int) : Nat → St
  | 0 => mapSN n z0 z1 z2 r0 r1 r2 r3 r4 r5 [] [(5, nilA)]
  | k + 1 => mapSN n z0 z1 z2 r0 r1 r2 r3 r4 r5 [⟨false, 31, .rows (k + 1) [.int .i64 (mapSC0 z0 z1 z2 r0 r1 r2 r3 r4 r5)]⟩] [(5, slO 2 1 (k + 1))]
noncomputable def mapSS (n : Nat) (z0 : Nat → ByteArray) (z1 : Nat → Int) (z2 : Nat → Int) (r0 : Int) (r1 : Int) (r2 : Int) (r3 : Int) (r4 : Int) (r5 : Int) : Nat → Tree (X × St)
  | 0 => .node (decide ((0 : Int) < (n : Int))) (.need (decide ((0 : Int) ≤ 0) && decide ((0 : Int) < (n : Int))) (.need (Nat.blt (0 + Int.toNat 0) n) (.need (Nat.blt (0 + Int.toNat 0) n) (.need (Nat.blt (0 + Int.toNat 0) n) (.need true (.need true (.leaf (.normal, mapSN n z0 z1 z2 r0 r1 r2 r3 r4 r5 [⟨false, 31, .flat [ci ((mapSC0 z0 z1 z2 r0 r1 r2 r3 r4 r5) 0)]⟩] [(5, slO 2 1 1), (8, slT 0 3 n), (9, int n), (10, int (IntKind.i64.wrap (((0 : Nat) : Int) + 1))), (1, .one (.fb 121 [(true, [.int .i64 r0, .int .i64 r1, .int .i64 r2, .int .i64 r3, .int .i64 r4, .int .i64 r5])]))])))))))) (.leaf (.exit 0, mapSX n z0 z1 z2 r0 r1 r2 r3 r4 r5 0))
  | k + 1 => .node (decide (((k + 1 : Nat) : Int) < (n : Int))) (.need (decide (0 ≤ ((k + 1 : Nat) : Int)) && decide (((k + 1 : Nat) : Int) < (n : Int))) (.need (Nat.blt (0 + Int.toNat ((k + 1 : Nat) : Int)) n) (.need (Nat.blt (0 + Int.toNat ((k + 1 : Nat) : Int)) n) (.need (Nat.blt (0 + Int.toNat ((k + 1 : Nat) : Int)) n) (.need true (.need (Nat.ble (k + 1) (k + 1) && Nat.blt ((k + 1 + 1) * ((Tryz.prog.info? 31).map (·.bytes)).getD 0) 140737488355328 && Nat.ble (k + 1 + 1) 9223372036854775807) (.leaf (.normal, mapSN n z0 z1 z2 r0 r1 r2 r3 r4 r5 [⟨false, 31, .rows (k + 1 + 1) [.int .i64 (putF (mapSC0 z0 z1 z2 r0 r1 r2 r3 r4 r5) (k + 1) ((mapSC0 z0 z1 z2 r0 r1 r2 r3 r4 r5) (0 + Int.toNat ((k + 1 : Nat) : Int))))]⟩] [(5, slO 2 1 (k + 1 + 1)), (8, slT 0 3 n), (9, int n), (10, int (IntKind.i64.wrap (((k + 1 : Nat) : Int) + 1))), (1, .one (.fb 121 [(true, [.int .i64 r0, .int .i64 r1, .int .i64 r2, .int .i64 r3, .int .i64 r4, .int .i64 r5])]))])))))))) (.leaf (.exit 0, mapSX n z0 z1 z2 r0 r1 r2 r3 r4 r5 (k + 1)))
theorem mapS_round (n : Nat) (z0 : Nat → ByteArray) (z1 : Nat → Int) (z2 : Nat → Int) (r0 : Int) (r1 : Int) (r2 : Int) (r3 : Int) (r4 : Int) (r5 : Int) (k : Nat) : (recT Tryz.prog (tabOf tb_steps) (loopF Tryz.f120) (mapSH n z0 z1 z2 r0 r1 r2 r3 r4 r5 k)).bind (canonT [5, 8, 9, 10, 1] [5] (mapSB n z0 z1 z2 r0 r1 r2 r3 r4 r5)) = mapSS n z0 z1 z2 r0 r1 r2 r3 r4 r5 k := by
  cases k with
  | zero => kernel_rfl
  | succ k => kernel_rfl
theorem mapS_loop (n : Nat) (z0 : Nat → ByteArray) (z1 : Nat → Int) (z2 : Nat → Int) (r0 : Int) (r1 : Int) (r2 : Int) (r3 : Int) (r4 : Int) (r5 : Int) (hn : n ≤ 1000000) : ComesF Tryz.prog (.loop (loopF Tryz.f120)) (mapSB n z0 z1 z2 r0 r1 r2 r3 r4 r5) (mapSH n z0 z1 z2 r0 r1 r2 r3 r4 r5 0) fun q => q = (.exit 0, mapSX n z0 z1 z2 r0 r1 r2 r3 r4 r5 n) := by
  refine loop_is (recT_ok tb_steps_ok) rfl [5, 8, 9, 10, 1] [5] (mapSH n z0 z1 z2 r0 r1 r2 r3 r4 r5) (fun k => n - k) (fun k => k ≤ n) (fun _ => (.exit 0, mapSX n z0 z1 z2 r0 r1 r2 r3 r4 r5 n)) (mapSS n z0 z1 z2 r0 r1 r2 r3 r4 r5) (fun k _ => mapS_round n z0 z1 z2 r0 r1 r2 r3 r4 r5 k) (fun k hk => ?_) 0 (Nat.zero_le n)
  cases k with
  | zero =>
    unfold mapSS
    by_cases h : 0 < n
    · have e1 : decide ((0 : Int) < (n : Int)) = true := by simpa using h
      have hb : Nat.blt (0 + Int.toNat 0) n = true := by rw [Nat.blt_eq]; simpa using h
      simp only [e1, Tree.All, hb]
      refine ⟨(by first | exact trivial | rfl), (by first | exact trivial | rfl), (by first | exact trivial | rfl), (by first | exact trivial | rfl), (by first | exact trivial | rfl), (by first | exact trivial | rfl), 1, ?_, h, by omega, (by first | exact trivial | rfl)⟩
      rw [wrap_succ (k := 0) (by omega)]
      exact le_news (show 2 + 1 ≤ lim by decide) ⟨⟨rfl, blk_body rfl (fun cs e => by cases e) fun E arr hh => rows_one rfl (fun j c col h1 h2 => by match j, h1, h2 with | 0, h1, h2 => injection h1 with h1; injection h2 with h2; subst h1; subst h2; rfl) hh⟩, trivial⟩
    · have h0 : n = 0 := by omega
      subst h0
      rfl
  | succ k =>
    unfold mapSS
    by_cases h : k + 1 < n
    · have e1 : decide (((k + 1 : Nat) : Int) < (n : Int)) = true := by simp only [decide_eq_true_eq]; omega
      have e2 : decide ((0 : Int) ≤ ((k + 1 : Nat) : Int)) = true := by simp only [decide_eq_true_eq]; omega
      have hb : Nat.blt (k + 1) n = true := by rw [Nat.blt_eq]; omega
      have e0 : ((Tryz.prog.info? 31).map (·.bytes)).getD 0 = 8 := by kernel_rfl
      have e3 : Nat.blt ((k + 1 + 1) * ((Tryz.prog.info? 31).map (·.bytes)).getD 0) 140737488355328 = true := by rw [e0, Nat.blt_eq]; omega
      have e4 : Nat.ble (k + 1 + 1) 9223372036854775807 = true := by rw [Nat.ble_eq]; omega
      simp only [e1, e2, e3, e4, ble_self, Tree.All, Nat.zero_add, Int.toNat_natCast, hb, putF_self]
      refine ⟨(by first | exact trivial | rfl), (by first | exact trivial | rfl), (by first | exact trivial | rfl), (by first | exact trivial | rfl), (by first | exact trivial | rfl), (by first | exact trivial | rfl), k + 1 + 1, ?_, h, by omega, (by first | exact trivial | rfl)⟩
      rw [wrap_succ (by omega)]
      exact St.Le.refl _
    · have h0 : n = k + 1 := by omega
      have e1 : decide (((k + 1 : Nat) : Int) < (n : Int)) = false := by simp only [decide_eq_false_iff_not]; omega
      simp only [e1, Tree.All]
      rw [h0]
theorem mapS_call (n : Nat) (z0 : Nat → ByteArray) (z1 : Nat → Int) (z2 : Nat → Int) (r0 : Int) (r1 : Int) (r2 : Int) (r3 : Int) (r4 : Int) (r5 : Int) (hn : n ≤ 1000000) : CallAt Tryz.prog 120 [slT 0 3 n, .one (.fb 121 [(true, [.int .i64 r0, .int .i64 r1, .int .i64 r2, .int .i64 r3, .int .i64 r4, .int .i64 r5])])] (hpT [⟨some 0, n, [.str z0, .int .i64 z1, .int .i64 z2]⟩] [(0, actsL)] []) (resL 2 1 n) (hpT [⟨some 0, n, [.str z0, .int .i64 z1, .int .i64 z2]⟩] [(0, actsL)] (resBl 31 n [.int .i64 (mapSC0 z0 z1 z2 r0 r1 r2 r3 r4 r5)])) := by
  refine call_base (recT_ok tb_steps_ok) (c := bodyOf Tryz.f120) (fn := Tryz.f120) Tryz.func120 (by kernel_rfl) (by kernel_rfl) (false, false) 1 [5, 8, 9, 10, 1] [4] (sB := mapSB n z0 z1 z2 r0 r1 r2 r3 r4 r5) (by kernel_rfl) (t := .leaf (.inr (pathF Tryz.f120, mapSH n z0 z1 z2 r0 r1 r2 r3 r4 r5 0))) (by kernel_rfl) ?_
  refine cutF_stop _ true [] [4] (mapS_loop n z0 z1 z2 r0 r1 r2 r3 r4 r5 hn) fun q hq => ?_
  subst hq
  cases n with
  | zero =>
    refine (congrArg (Tree.All _) (show evO2 (recT Tryz.prog (tabOf tb_steps)) true (bodyOf Tryz.f120) (pathF Tryz.f120) [] [4] (mapSB 0 z0 z1 z2 r0 r1 r2 r3 r4 r5) (.exit 0, mapSX 0 z0 z1 z2 r0 r1 r2 r3 r4 r5 0) = .leaf (.inl (.ret, mapSN 0 z0 z1 z2 r0 r1 r2 r3 r4 r5 [] [(4, nilA)])) by kernel_rfl)).mpr (cutF_done (left_of (b := true) (by kernel_rfl)))
  | succ k =>
    refine (congrArg (Tree.All _) (show evO2 (recT Tryz.prog (tabOf tb_steps)) true (bodyOf Tryz.f120) (pathF Tryz.f120) [] [4] (mapSB (k + 1) z0 z1 z2 r0 r1 r2 r3 r4 r5) (.exit 0, mapSX (k + 1) z0 z1 z2 r0 r1 r2 r3 r4 r5 (k + 1)) = .leaf (.inl (.ret, mapSN (k + 1) z0 z1 z2 r0 r1 r2 r3 r4 r5 [⟨false, 31, .rows (k + 1) [.int .i64 (mapSC0 z0 z1 z2 r0 r1 r2 r3 r4 r5)]⟩] [(4, slO 2 1 (k + 1))])) by kernel_rfl)).mpr (cutF_done (left_of (b := false) (by kernel_rfl)))
def mapSF : FT
  | [r0, r1, r2, r3, r4, r5], [], [], [⟨_, n, [.str z0, .int .i64 z1, .int .i64 z2]⟩] => .need (Nat.ble n 1000000) (.node (Nat.beq n 0) (.leaf (nilA, [])) (.leaf (slO (2) 1 n, [⟨false, 31, .rows n [.int .i64 (mapSC0 z0 z1 z2 r0 r1 r2 r3 r4 r5)]⟩])))
  | _, _, _, _ => .fail 360
def mapSSp : Spec := fun args h => specT [(false, [.t [.str fun _ => ⟨#[]⟩, .int .i64 fun _ => 0, .int .i64 fun _ => 0]]), (false, [.fb 121 6])] [(0, actsL)] mapSF args h
theorem mapS_ok : SpecOk Tryz.prog 120 mapSSp := by
  refine specT_ok (by decide) (by decide) fun l m n ts v news hl hm hn ht hnil hF => ?_
  unfold mapSF at hF
  split at hF
  · rename_i r0 r1 r2 r3 r4 r5 id n z0 z1 z2
    obtain ⟨hok, hF⟩ := Tree.need_some hF
    have hok := Nat.le_of_ble_eq_true hok
    cases id with
    | none =>
      have h0 : n = 0 := hnil _ (List.mem_singleton.2 rfl) rfl
      subst h0
      simp only [Tree.run, Nat.beq, Option.some.injEq, Prod.mk.injEq] at hF
      obtain ⟨rfl, rfl⟩ := hF
      exact call_ev tb_steps_ok (by kernel_rfl)
    | some id =>
      have hv : v = resL 2 1 n ∧ news = resBl 31 n [.int .i64 (mapSC0 z0 z1 z2 r0 r1 r2 r3 r4 r5)] := by
        cases n <;> (simp only [Tree.run, Nat.beq, Option.some.injEq, Prod.mk.injEq] at hF; obtain ⟨rfl, rfl⟩ := hF; exact ⟨rfl, rfl⟩)
      obtain ⟨rfl, rfl⟩ := hv
      exact mapS_call n z0 z1 z2 r0 r1 r2 r3 r4 r5 hok
  · cases hF
def tb_mapS : List (FuncId × Spec) := (120, mapSSp) :: tb_steps
theorem tb_mapS_ok : TabOk Tryz.prog (tabOf tb_mapS) := tab_cons tb_steps_ok mapS_ok
end Go.Ev
