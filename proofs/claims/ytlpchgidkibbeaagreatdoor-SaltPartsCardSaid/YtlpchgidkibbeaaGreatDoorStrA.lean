/- Functions that make a list of another one, element by element: cycles, classes, errors of numbers and of cycles. Conditions: the list is short. (Printed by gen_scpy.py.) SaltStrain: the checks of histories and of cycles, by the program and by the reference. Conditions: none. (Printed by gen_shis.py.) SaltStrain: the checks of classes, by the program and by the reference. Conditions: none. (Printed by gen_scls.py.) SaltStrain: the class of a range, by the program and by the reference. Conditions: few classes. (Printed by gen_sidx.py.) SaltStrain: lists of numbers, and of cycles, that are compared. Conditions: short lists. (Printed by gen_ssame.py.) -/
import Derived.Test.YtlpchgidkibbeaaGreatDoorCpy
import Derived.Test.YtlpchgidkibbeaaGreatDoorFin
namespace Go.Ev
open Go Go.Proofs

/-! ### spillage/spillagelaw08.cycled -/
def cydB (n : Nat) (z0 : Nat → Int) (z1 : Nat → Int) : St := baseB 18 [slT 0 2 n] (hpT [⟨some 0, n, [.int .i64 z0, .int .i64 z1]⟩] [] [])
def cydN (n : Nat) (z0 : Nat → Int) (z1 : Nat → Int) (news : List Blk) (env : List (Nat × A)) : St := stN 18 (envL env) (bsS [⟨some 0, n, [.int .i64 z0, .int .i64 z1]⟩] []) (globsG 1 []) news
def cydH (n : Nat) (z0 : Nat → Int) (z1 : Nat → Int) : Nat → St
  | 0 => cydN n z0 z1 [] [(3, nilA), (6, slT 0 2 n), (7, int n), (8, int 0)]
  | k + 1 => cydN n z0 z1 [⟨false, 112, .rows (k + 1) [.int .i64 z0, .int .i64 z1]⟩] [(3, slO 1 2 (k + 1)), (6, slT 0 2 n), (7, int n), (8, int ((k + 1 : Nat) : Int))]
def cydX (n : Nat) (z0 : Nat → Int) (z1 : Nat → Int) : Nat → St
  | 0 => cydN n z0 z1 [] [(3, nilA)]
  | k + 1 => cydN n z0 z1 [⟨false, 112, .rows (k + 1) [.int .i64 z0, .int .i64 z1]⟩] [(3, slO 1 2 (k + 1))]
noncomputable def cydS (n : Nat) (z0 : Nat → Int) (z1 : Nat → Int) : Nat → Tree (X × St)
  | 0 => .node (decide ((0 : Int) < (n : Int))) (.need (decide ((0 : Int) ≤ 0) && decide ((0 : Int) < (n : Int))) (.need (Nat.blt (0 + Int.toNat 0) n) (.need (Nat.blt (0 + Int.toNat 0) n) (.need true (.leaf (.normal, cydN n z0 z1 [⟨false, 112, .flat [ci (z0 0), ci (z1 0)]⟩] [(3, slO 1 2 1), (6, slT 0 2 n), (7, int n), (8, int (IntKind.i64.wrap (((0 : Nat) : Int) + 1)))])))))) (.leaf (.exit 0, cydX n z0 z1 0))
  | k + 1 => .node (decide (((k + 1 : Nat) : Int) < (n : Int))) (.need (decide (0 ≤ ((k + 1 : Nat) : Int)) && decide (((k + 1 : Nat) : Int) < (n : Int))) (.need (Nat.blt (0 + Int.toNat ((k + 1 : Nat) : Int)) n) (.need (Nat.blt (0 + Int.toNat ((k + 1 : Nat) : Int)) n) (.need (Nat.ble (k + 1) (k + 1) && Nat.blt ((k + 1 + 1) * ((Tryz.prog.info? 112).map (·.bytes)).getD 0) 140737488355328 && Nat.ble (k + 1 + 1) 9223372036854775807) (.leaf (.normal, cydN n z0 z1 [⟨false, 112, .rows (k + 1 + 1) [.int .i64 (putF z0 (k + 1) (z0 (0 + Int.toNat ((k + 1 : Nat) : Int)))), .int .i64 (putF z1 (k + 1) (z1 (0 + Int.toNat ((k + 1 : Nat) : Int))))]⟩] [(3, slO 1 2 (k + 1 + 1)), (6, slT 0 2 n), (7, int n), (8, int (IntKind.i64.wrap (((k + 1 : Nat) : Int) + 1)))])))))) (.leaf (.exit 0, cydX n z0 z1 (k + 1)))
theorem cyd_round (n : Nat) (z0 : Nat → Int) (z1 : Nat → Int) (k : Nat) : (recT Tryz.prog (tabOf tb_qst) (loopF Tryz.f27) (cydH n z0 z1 k)).bind (canonT [3, 6, 7, 8] [3] (cydB n z0 z1)) = cydS n z0 z1 k := by
  cases k with
  | zero => kernel_rfl
  | succ k => kernel_rfl
theorem cyd_loop (n : Nat) (z0 : Nat → Int) (z1 : Nat → Int) (hn : n ≤ 1000000) : ComesF Tryz.prog (.loop (loopF Tryz.f27)) (cydB n z0 z1) (cydH n z0 z1 0) fun q => q = (.exit 0, cydX n z0 z1 n) := by
  refine loop_is (recT_ok tb_qst_ok) rfl [3, 6, 7, 8] [3] (cydH n z0 z1) (fun k => n - k) (fun k => k ≤ n) (fun _ => (.exit 0, cydX n z0 z1 n)) (cydS n z0 z1) (fun k _ => cyd_round n z0 z1 k) (fun k hk => ?_) 0 (Nat.zero_le n)
  cases k with
  | zero =>
    unfold cydS
    by_cases h : 0 < n
    · have e1 : decide ((0 : Int) < (n : Int)) = true := by simpa using h
      have hb : Nat.blt (0 + Int.toNat 0) n = true := by rw [Nat.blt_eq]; simpa using h
      simp only [e1, Tree.All, hb]
      refine ⟨(by first | exact trivial | rfl), (by first | exact trivial | rfl), (by first | exact trivial | rfl), (by first | exact trivial | rfl), 1, ?_, h, by omega, (by first | exact trivial | rfl)⟩
      rw [wrap_succ (k := 0) (by omega)]
      exact le_news (show 1 + 1 ≤ lim by decide) ⟨⟨rfl, blk_body rfl (fun cs e => by cases e) fun E arr hh => rows_one rfl (fun j c col h1 h2 => by match j, h1, h2 with | 0, h1, h2 => injection h1 with h1; injection h2 with h2; subst h1; subst h2; rfl | 1, h1, h2 => injection h1 with h1; injection h2 with h2; subst h1; subst h2; rfl) hh⟩, trivial⟩
    · have h0 : n = 0 := by omega
      subst h0
      rfl
  | succ k =>
    unfold cydS
    by_cases h : k + 1 < n
    · have e1 : decide (((k + 1 : Nat) : Int) < (n : Int)) = true := by simp only [decide_eq_true_eq]; omega
      have e2 : decide ((0 : Int) ≤ ((k + 1 : Nat) : Int)) = true := by simp only [decide_eq_true_eq]; omega
      have hb : Nat.blt (k + 1) n = true := by rw [Nat.blt_eq]; omega
      have e0 : ((Tryz.prog.info? 112).map (·.bytes)).getD 0 = 16 := by kernel_rfl
      have e3 : Nat.blt ((k + 1 + 1) * ((Tryz.prog.info? 112).map (·.bytes)).getD 0) 140737488355328 = true := by rw [e0, Nat.blt_eq]; omega
      have e4 : Nat.ble (k + 1 + 1) 9223372036854775807 = true := by rw [Nat.ble_eq]; omega
      simp only [e1, e2, e3, e4, ble_self, Tree.All, Nat.zero_add, Int.toNat_natCast, hb, putF_self]
      refine ⟨(by first | exact trivial | rfl), (by first | exact trivial | rfl), (by first | exact trivial | rfl), (by first | exact trivial | rfl), k + 1 + 1, ?_, h, by omega, (by first | exact trivial | rfl)⟩
      rw [wrap_succ (by omega)]
      exact St.Le.refl _
    · have h0 : n = k + 1 := by omega
      have e1 : decide (((k + 1 : Nat) : Int) < (n : Int)) = false := by simp only [decide_eq_false_iff_not]; omega
      simp only [e1, Tree.All]
      rw [h0]
theorem cyd_call (n : Nat) (z0 : Nat → Int) (z1 : Nat → Int) (hn : n ≤ 1000000) : CallAt Tryz.prog 27 [slT 0 2 n] (hpT [⟨some 0, n, [.int .i64 z0, .int .i64 z1]⟩] [] []) (resL 1 2 n) (hpT [⟨some 0, n, [.int .i64 z0, .int .i64 z1]⟩] [] (resBl 112 n [.int .i64 z0, .int .i64 z1])) := by
  refine call_base (recT_ok tb_qst_ok) (c := bodyOf Tryz.f27) (fn := Tryz.f27) Tryz.func27 (by kernel_rfl) (by kernel_rfl) (false, false) 1 [3, 6, 7, 8] [2] (sB := cydB n z0 z1) (by kernel_rfl) (t := .leaf (.inr (pathF Tryz.f27, cydH n z0 z1 0))) (by kernel_rfl) ?_
  refine cutF_stop _ true [] [2] (cyd_loop n z0 z1 hn) fun q hq => ?_
  subst hq
  cases n with
  | zero =>
    refine (congrArg (Tree.All _) (show evO2 (recT Tryz.prog (tabOf tb_qst)) true (bodyOf Tryz.f27) (pathF Tryz.f27) [] [2] (cydB 0 z0 z1) (.exit 0, cydX 0 z0 z1 0) = .leaf (.inl (.ret, cydN 0 z0 z1 [] [(2, nilA)])) by kernel_rfl)).mpr (cutF_done (left_of (b := true) (by kernel_rfl)))
  | succ k =>
    refine (congrArg (Tree.All _) (show evO2 (recT Tryz.prog (tabOf tb_qst)) true (bodyOf Tryz.f27) (pathF Tryz.f27) [] [2] (cydB (k + 1) z0 z1) (.exit 0, cydX (k + 1) z0 z1 (k + 1)) = .leaf (.inl (.ret, cydN (k + 1) z0 z1 [⟨false, 112, .rows (k + 1) [.int .i64 z0, .int .i64 z1]⟩] [(2, slO 1 2 (k + 1))])) by kernel_rfl)).mpr (cutF_done (left_of (b := false) (by kernel_rfl)))
def cydF : FT
  | [], [], [], [⟨_, n, [.int .i64 z0, .int .i64 z1]⟩] => .need (Nat.ble n 1000000) (.node (Nat.beq n 0) (.leaf (nilA, [])) (.leaf (slO (1) 2 n, [⟨false, 112, .rows n [.int .i64 z0, .int .i64 z1]⟩])))
  | _, _, _, _ => .fail 360
def cydSp : Spec := fun args h => specT [(false, [.t [.int .i64 fun _ => 0, .int .i64 fun _ => 0]])] [] cydF args h
theorem cyd_ok : SpecOk Tryz.prog 27 cydSp := by
  refine specT_ok rfl (by decide) fun l m n ts v news hl hm hn ht hnil hF => ?_
  unfold cydF at hF
  split at hF
  · rename_i  id n z0 z1
    obtain ⟨hok, hF⟩ := Tree.need_some hF
    have hok := Nat.le_of_ble_eq_true hok
    cases id with
    | none =>
      have h0 : n = 0 := hnil _ (List.mem_singleton.2 rfl) rfl
      subst h0
      simp only [Tree.run, Nat.beq, Option.some.injEq, Prod.mk.injEq] at hF
      obtain ⟨rfl, rfl⟩ := hF
      exact call_ev tb_qst_ok (by kernel_rfl)
    | some id =>
      have hv : v = resL 1 2 n ∧ news = resBl 112 n [.int .i64 z0, .int .i64 z1] := by
        cases n <;> (simp only [Tree.run, Nat.beq, Option.some.injEq, Prod.mk.injEq] at hF; obtain ⟨rfl, rfl⟩ := hF; exact ⟨rfl, rfl⟩)
      obtain ⟨rfl, rfl⟩ := hv
      exact cyd_call n z0 z1 hok
  · cases hF
def tb_cyd : List (FuncId × Spec) := (27, cydSp) :: tb_qst
theorem tb_cyd_ok : TabOk Tryz.prog (tabOf tb_cyd) := tab_cons tb_qst_ok cyd_ok

/-! ### spillage/spillagelaw08.classed -/
def cldB (n : Nat) (z0 : Nat → Int) (z1 : Nat → Int) : St := baseB 18 [slT 0 2 n] (hpT [⟨some 0, n, [.int .i64 z0, .int .i64 z1]⟩] [] [])
def cldN (n : Nat) (z0 : Nat → Int) (z1 : Nat → Int) (news : List Blk) (env : List (Nat × A)) : St := stN 18 (envL env) (bsS [⟨some 0, n, [.int .i64 z0, .int .i64 z1]⟩] []) (globsG 1 []) news
def cldH (n : Nat) (z0 : Nat → Int) (z1 : Nat → Int) : Nat → St
  | 0 => cldN n z0 z1 [] [(3, nilA), (6, slT 0 2 n), (7, int n), (8, int 0)]
  | k + 1 => cldN n z0 z1 [⟨false, 188, .rows (k + 1) [.int .i64 z0, .int .i64 z1]⟩] [(3, slO 1 2 (k + 1)), (6, slT 0 2 n), (7, int n), (8, int ((k + 1 : Nat) : Int))]
def cldX (n : Nat) (z0 : Nat → Int) (z1 : Nat → Int) : Nat → St
  | 0 => cldN n z0 z1 [] [(3, nilA)]
  | k + 1 => cldN n z0 z1 [⟨false, 188, .rows (k + 1) [.int .i64 z0, .int .i64 z1]⟩] [(3, slO 1 2 (k + 1))]
noncomputable def cldS (n : Nat) (z0 : Nat → Int) (z1 : Nat → Int) : Nat → Tree (X × St)
  | 0 => .node (decide ((0 : Int) < (n : Int))) (.need (decide ((0 : Int) ≤ 0) && decide ((0 : Int) < (n : Int))) (.need (Nat.blt (0 + Int.toNat 0) n) (.need (Nat.blt (0 + Int.toNat 0) n) (.need true (.leaf (.normal, cldN n z0 z1 [⟨false, 188, .flat [ci (z0 0), ci (z1 0)]⟩] [(3, slO 1 2 1), (6, slT 0 2 n), (7, int n), (8, int (IntKind.i64.wrap (((0 : Nat) : Int) + 1)))])))))) (.leaf (.exit 0, cldX n z0 z1 0))
  | k + 1 => .node (decide (((k + 1 : Nat) : Int) < (n : Int))) (.need (decide (0 ≤ ((k + 1 : Nat) : Int)) && decide (((k + 1 : Nat) : Int) < (n : Int))) (.need (Nat.blt (0 + Int.toNat ((k + 1 : Nat) : Int)) n) (.need (Nat.blt (0 + Int.toNat ((k + 1 : Nat) : Int)) n) (.need (Nat.ble (k + 1) (k + 1) && Nat.blt ((k + 1 + 1) * ((Tryz.prog.info? 188).map (·.bytes)).getD 0) 140737488355328 && Nat.ble (k + 1 + 1) 9223372036854775807) (.leaf (.normal, cldN n z0 z1 [⟨false, 188, .rows (k + 1 + 1) [.int .i64 (putF z0 (k + 1) (z0 (0 + Int.toNat ((k + 1 : Nat) : Int)))), .int .i64 (putF z1 (k + 1) (z1 (0 + Int.toNat ((k + 1 : Nat) : Int))))]⟩] [(3, slO 1 2 (k + 1 + 1)), (6, slT 0 2 n), (7, int n), (8, int (IntKind.i64.wrap (((k + 1 : Nat) : Int) + 1)))])))))) (.leaf (.exit 0, cldX n z0 z1 (k + 1)))
theorem cld_round (n : Nat) (z0 : Nat → Int) (z1 : Nat → Int) (k : Nat) : (recT Tryz.prog (tabOf tb_cyd) (loopF Tryz.f28) (cldH n z0 z1 k)).bind (canonT [3, 6, 7, 8] [3] (cldB n z0 z1)) = cldS n z0 z1 k := by
  cases k with
  | zero => kernel_rfl
  | succ k => kernel_rfl
theorem cld_loop (n : Nat) (z0 : Nat → Int) (z1 : Nat → Int) (hn : n ≤ 1000000) : ComesF Tryz.prog (.loop (loopF Tryz.f28)) (cldB n z0 z1) (cldH n z0 z1 0) fun q => q = (.exit 0, cldX n z0 z1 n) := by
  refine loop_is (recT_ok tb_cyd_ok) rfl [3, 6, 7, 8] [3] (cldH n z0 z1) (fun k => n - k) (fun k => k ≤ n) (fun _ => (.exit 0, cldX n z0 z1 n)) (cldS n z0 z1) (fun k _ => cld_round n z0 z1 k) (fun k hk => ?_) 0 (Nat.zero_le n)
  cases k with
  | zero =>
    unfold cldS
    by_cases h : 0 < n
    · have e1 : decide ((0 : Int) < (n : Int)) = true := by simpa using h
      have hb : Nat.blt (0 + Int.toNat 0) n = true := by rw [Nat.blt_eq]; simpa using h
      simp only [e1, Tree.All, hb]
      refine ⟨(by first | exact trivial | rfl), (by first | exact trivial | rfl), (by first | exact trivial | rfl), (by first | exact trivial | rfl), 1, ?_, h, by omega, (by first | exact trivial | rfl)⟩
      rw [wrap_succ (k := 0) (by omega)]
      exact le_news (show 1 + 1 ≤ lim by decide) ⟨⟨rfl, blk_body rfl (fun cs e => by cases e) fun E arr hh => rows_one rfl (fun j c col h1 h2 => by match j, h1, h2 with | 0, h1, h2 => injection h1 with h1; injection h2 with h2; subst h1; subst h2; rfl | 1, h1, h2 => injection h1 with h1; injection h2 with h2; subst h1; subst h2; rfl) hh⟩, trivial⟩
    · have h0 : n = 0 := by omega
      subst h0
      rfl
  | succ k =>
    unfold cldS
    by_cases h : k + 1 < n
    · have e1 : decide (((k + 1 : Nat) : Int) < (n : Int)) = true := by simp only [decide_eq_true_eq]; omega
      have e2 : decide ((0 : Int) ≤ ((k + 1 : Nat) : Int)) = true := by simp only [decide_eq_true_eq]; omega
      have hb : Nat.blt (k + 1) n = true := by rw [Nat.blt_eq]; omega
      have e0 : ((Tryz.prog.info? 188).map (·.bytes)).getD 0 = 16 := by kernel_rfl
      have e3 : Nat.blt ((k + 1 + 1) * ((Tryz.prog.info? 188).map (·.bytes)).getD 0) 140737488355328 = true := by rw [e0, Nat.blt_eq]; omega
      have e4 : Nat.ble (k + 1 + 1) 9223372036854775807 = true := by rw [Nat.ble_eq]; omega
      simp only [e1, e2, e3, e4, ble_self, Tree.All, Nat.zero_add, Int.toNat_natCast, hb, putF_self]
      refine ⟨(by first | exact trivial | rfl), (by first | exact trivial | rfl), (by first | exact trivial | rfl), (by first | exact trivial | rfl), k + 1 + 1, ?_, h, by omega, (by first | exact trivial | rfl)⟩
      rw [wrap_succ (by omega)]
      exact St.Le.refl _
    · have h0 : n = k + 1 := by omega
      have e1 : decide (((k + 1 : Nat) : Int) < (n : Int)) = false := by simp only [decide_eq_false_iff_not]; omega
      simp only [e1, Tree.All]
      rw [h0]
theorem cld_call (n : Nat) (z0 : Nat → Int) (z1 : Nat → Int) (hn : n ≤ 1000000) : CallAt Tryz.prog 28 [slT 0 2 n] (hpT [⟨some 0, n, [.int .i64 z0, .int .i64 z1]⟩] [] []) (resL 1 2 n) (hpT [⟨some 0, n, [.int .i64 z0, .int .i64 z1]⟩] [] (resBl 188 n [.int .i64 z0, .int .i64 z1])) := by
  refine call_base (recT_ok tb_cyd_ok) (c := bodyOf Tryz.f28) (fn := Tryz.f28) Tryz.func28 (by kernel_rfl) (by kernel_rfl) (false, false) 1 [3, 6, 7, 8] [2] (sB := cldB n z0 z1) (by kernel_rfl) (t := .leaf (.inr (pathF Tryz.f28, cldH n z0 z1 0))) (by kernel_rfl) ?_
  refine cutF_stop _ true [] [2] (cld_loop n z0 z1 hn) fun q hq => ?_
  subst hq
  cases n with
  | zero =>
    refine (congrArg (Tree.All _) (show evO2 (recT Tryz.prog (tabOf tb_cyd)) true (bodyOf Tryz.f28) (pathF Tryz.f28) [] [2] (cldB 0 z0 z1) (.exit 0, cldX 0 z0 z1 0) = .leaf (.inl (.ret, cldN 0 z0 z1 [] [(2, nilA)])) by kernel_rfl)).mpr (cutF_done (left_of (b := true) (by kernel_rfl)))
  | succ k =>
    refine (congrArg (Tree.All _) (show evO2 (recT Tryz.prog (tabOf tb_cyd)) true (bodyOf Tryz.f28) (pathF Tryz.f28) [] [2] (cldB (k + 1) z0 z1) (.exit 0, cldX (k + 1) z0 z1 (k + 1)) = .leaf (.inl (.ret, cldN (k + 1) z0 z1 [⟨false, 188, .rows (k + 1) [.int .i64 z0, .int .i64 z1]⟩] [(2, slO 1 2 (k + 1))])) by kernel_rfl)).mpr (cutF_done (left_of (b := false) (by kernel_rfl)))
def cldF : FT
  | [], [], [], [⟨_, n, [.int .i64 z0, .int .i64 z1]⟩] => .need (Nat.ble n 1000000) (.node (Nat.beq n 0) (.leaf (nilA, [])) (.leaf (slO (1) 2 n, [⟨false, 188, .rows n [.int .i64 z0, .int .i64 z1]⟩])))
  | _, _, _, _ => .fail 360
def cldSp : Spec := fun args h => specT [(false, [.t [.int .i64 fun _ => 0, .int .i64 fun _ => 0]])] [] cldF args h
theorem cld_ok : SpecOk Tryz.prog 28 cldSp := by
  refine specT_ok rfl (by decide) fun l m n ts v news hl hm hn ht hnil hF => ?_
  unfold cldF at hF
  split at hF
  · rename_i  id n z0 z1
    obtain ⟨hok, hF⟩ := Tree.need_some hF
    have hok := Nat.le_of_ble_eq_true hok
    cases id with
    | none =>
      have h0 : n = 0 := hnil _ (List.mem_singleton.2 rfl) rfl
      subst h0
      simp only [Tree.run, Nat.beq, Option.some.injEq, Prod.mk.injEq] at hF
      obtain ⟨rfl, rfl⟩ := hF
      exact call_ev tb_cyd_ok (by kernel_rfl)
    | some id =>
      have hv : v = resL 1 2 n ∧ news = resBl 188 n [.int .i64 z0, .int .i64 z1] := by
        cases n <;> (simp only [Tree.run, Nat.beq, Option.some.injEq, Prod.mk.injEq] at hF; obtain ⟨rfl, rfl⟩ := hF; exact ⟨rfl, rfl⟩)
      obtain ⟨rfl, rfl⟩ := hv
      exact cld_call n z0 z1 hok
  · cases hF
def tb_cld : List (FuncId × Spec) := (28, cldSp) :: tb_cyd
theorem tb_cld_ok : TabOk Tryz.prog (tabOf tb_cld) := tab_cons tb_cyd_ok cld_ok

/-! ### spillage/spillagelaw08.cycles -/
def cysB (n : Nat) (z0 : Nat → Int) (z1 : Nat → Int) : St := baseB 18 [slT 0 2 n] (hpT [⟨some 0, n, [.int .i64 z0, .int .i64 z1]⟩] [] [])
def cysN (n : Nat) (z0 : Nat → Int) (z1 : Nat → Int) (news : List Blk) (env : List (Nat × A)) : St := stN 18 (envL env) (bsS [⟨some 0, n, [.int .i64 z0, .int .i64 z1]⟩] []) (globsG 1 []) news
def cysH (n : Nat) (z0 : Nat → Int) (z1 : Nat → Int) : Nat → St
  | 0 => cysN n z0 z1 [] [(3, nilA), (6, slT 0 2 n), (7, int n), (8, int 0)]
  | k + 1 => cysN n z0 z1 [⟨false, 164, .rows (k + 1) [.int .i64 z0, .int .i64 z1]⟩] [(3, slO 1 2 (k + 1)), (6, slT 0 2 n), (7, int n), (8, int ((k + 1 : Nat) : Int))]
def cysX (n : Nat) (z0 : Nat → Int) (z1 : Nat → Int) : Nat → St
  | 0 => cysN n z0 z1 [] [(3, nilA)]
  | k + 1 => cysN n z0 z1 [⟨false, 164, .rows (k + 1) [.int .i64 z0, .int .i64 z1]⟩] [(3, slO 1 2 (k + 1))]
noncomputable def cysS (n : Nat) (z0 : Nat → Int) (z1 : Nat → Int) : Nat → Tree (X × St)
  | 0 => .node (decide ((0 : Int) < (n : Int))) (.need (decide ((0 : Int) ≤ 0) && decide ((0 : Int) < (n : Int))) (.need (Nat.blt (0 + Int.toNat 0) n) (.need (Nat.blt (0 + Int.toNat 0) n) (.need true (.leaf (.normal, cysN n z0 z1 [⟨false, 164, .flat [ci (z0 0), ci (z1 0)]⟩] [(3, slO 1 2 1), (6, slT 0 2 n), (7, int n), (8, int (IntKind.i64.wrap (((0 : Nat) : Int) + 1)))])))))) (.leaf (.exit 0, cysX n z0 z1 0))
  | k + 1 => .node (decide (((k + 1 : Nat) : Int) < (n : Int))) (.need (decide (0 ≤ ((k + 1 : Nat) : Int)) && decide (((k + 1 : Nat) : Int) < (n : Int))) (.need (Nat.blt (0 + Int.toNat ((k + 1 : Nat) : Int)) n) (.need (Nat.blt (0 + Int.toNat ((k + 1 : Nat) : Int)) n) (.need (Nat.ble (k + 1) (k + 1) && Nat.blt ((k + 1 + 1) * ((Tryz.prog.info? 164).map (·.bytes)).getD 0) 140737488355328 && Nat.ble (k + 1 + 1) 9223372036854775807) (.leaf (.normal, cysN n z0 z1 [⟨false, 164, .rows (k + 1 + 1) [.int .i64 (putF z0 (k + 1) (z0 (0 + Int.toNat ((k + 1 : Nat) : Int)))), .int .i64 (putF z1 (k + 1) (z1 (0 + Int.toNat ((k + 1 : Nat) : Int))))]⟩] [(3, slO 1 2 (k + 1 + 1)), (6, slT 0 2 n), (7, int n), (8, int (IntKind.i64.wrap (((k + 1 : Nat) : Int) + 1)))])))))) (.leaf (.exit 0, cysX n z0 z1 (k + 1)))
theorem cys_round (n : Nat) (z0 : Nat → Int) (z1 : Nat → Int) (k : Nat) : (recT Tryz.prog (tabOf tb_cld) (loopF Tryz.f40) (cysH n z0 z1 k)).bind (canonT [3, 6, 7, 8] [3] (cysB n z0 z1)) = cysS n z0 z1 k := by
  cases k with
  | zero => kernel_rfl
  | succ k => kernel_rfl
theorem cys_loop (n : Nat) (z0 : Nat → Int) (z1 : Nat → Int) (hn : n ≤ 1000000) : ComesF Tryz.prog (.loop (loopF Tryz.f40)) (cysB n z0 z1) (cysH n z0 z1 0) fun q => q = (.exit 0, cysX n z0 z1 n) := by
  refine loop_is (recT_ok tb_cld_ok) rfl [3, 6, 7, 8] [3] (cysH n z0 z1) (fun k => n - k) (fun k => k ≤ n) (fun _ => (.exit 0, cysX n z0 z1 n)) (cysS n z0 z1) (fun k _ => cys_round n z0 z1 k) (fun k hk => ?_) 0 (Nat.zero_le n)
  cases k with
  | zero =>
    unfold cysS
    by_cases h : 0 < n
    · have e1 : decide ((0 : Int) < (n : Int)) = true := by simpa using h
      have hb : Nat.blt (0 + Int.toNat 0) n = true := by rw [Nat.blt_eq]; simpa using h
      simp only [e1, Tree.All, hb]
      refine ⟨(by first | exact trivial | rfl), (by first | exact trivial | rfl), (by first | exact trivial | rfl), (by first | exact trivial | rfl), 1, ?_, h, by omega, (by first | exact trivial | rfl)⟩
      rw [wrap_succ (k := 0) (by omega)]
      exact le_news (show 1 + 1 ≤ lim by decide) ⟨⟨rfl, blk_body rfl (fun cs e => by cases e) fun E arr hh => rows_one rfl (fun j c col h1 h2 => by match j, h1, h2 with | 0, h1, h2 => injection h1 with h1; injection h2 with h2; subst h1; subst h2; rfl | 1, h1, h2 => injection h1 with h1; injection h2 with h2; subst h1; subst h2; rfl) hh⟩, trivial⟩
    · have h0 : n = 0 := by omega
      subst h0
      rfl
  | succ k =>
    unfold cysS
    by_cases h : k + 1 < n
    · have e1 : decide (((k + 1 : Nat) : Int) < (n : Int)) = true := by simp only [decide_eq_true_eq]; omega
      have e2 : decide ((0 : Int) ≤ ((k + 1 : Nat) : Int)) = true := by simp only [decide_eq_true_eq]; omega
      have hb : Nat.blt (k + 1) n = true := by rw [Nat.blt_eq]; omega
      have e0 : ((Tryz.prog.info? 164).map (·.bytes)).getD 0 = 16 := by kernel_rfl
      have e3 : Nat.blt ((k + 1 + 1) * ((Tryz.prog.info? 164).map (·.bytes)).getD 0) 140737488355328 = true := by rw [e0, Nat.blt_eq]; omega
      have e4 : Nat.ble (k + 1 + 1) 9223372036854775807 = true := by rw [Nat.ble_eq]; omega
      simp only [e1, e2, e3, e4, ble_self, Tree.All, Nat.zero_add, Int.toNat_natCast, hb, putF_self]
      refine ⟨(by first | exact trivial | rfl), (by first | exact trivial | rfl), (by first | exact trivial | rfl), (by first | exact trivial | rfl), k + 1 + 1, ?_, h, by omega, (by first | exact trivial | rfl)⟩
      rw [wrap_succ (by omega)]
      exact St.Le.refl _
    · have h0 : n = k + 1 := by omega
      have e1 : decide (((k + 1 : Nat) : Int) < (n : Int)) = false := by simp only [decide_eq_false_iff_not]; omega
      simp only [e1, Tree.All]
      rw [h0]
theorem cys_call (n : Nat) (z0 : Nat → Int) (z1 : Nat → Int) (hn : n ≤ 1000000) : CallAt Tryz.prog 40 [slT 0 2 n] (hpT [⟨some 0, n, [.int .i64 z0, .int .i64 z1]⟩] [] []) (resL 1 2 n) (hpT [⟨some 0, n, [.int .i64 z0, .int .i64 z1]⟩] [] (resBl 164 n [.int .i64 z0, .int .i64 z1])) := by
  refine call_base (recT_ok tb_cld_ok) (c := bodyOf Tryz.f40) (fn := Tryz.f40) Tryz.func40 (by kernel_rfl) (by kernel_rfl) (false, false) 1 [3, 6, 7, 8] [2] (sB := cysB n z0 z1) (by kernel_rfl) (t := .leaf (.inr (pathF Tryz.f40, cysH n z0 z1 0))) (by kernel_rfl) ?_
  refine cutF_stop _ true [] [2] (cys_loop n z0 z1 hn) fun q hq => ?_
  subst hq
  cases n with
  | zero =>
    refine (congrArg (Tree.All _) (show evO2 (recT Tryz.prog (tabOf tb_cld)) true (bodyOf Tryz.f40) (pathF Tryz.f40) [] [2] (cysB 0 z0 z1) (.exit 0, cysX 0 z0 z1 0) = .leaf (.inl (.ret, cysN 0 z0 z1 [] [(2, nilA)])) by kernel_rfl)).mpr (cutF_done (left_of (b := true) (by kernel_rfl)))
  | succ k =>
    refine (congrArg (Tree.All _) (show evO2 (recT Tryz.prog (tabOf tb_cld)) true (bodyOf Tryz.f40) (pathF Tryz.f40) [] [2] (cysB (k + 1) z0 z1) (.exit 0, cysX (k + 1) z0 z1 (k + 1)) = .leaf (.inl (.ret, cysN (k + 1) z0 z1 [⟨false, 164, .rows (k + 1) [.int .i64 z0, .int .i64 z1]⟩] [(2, slO 1 2 (k + 1))])) by kernel_rfl)).mpr (cutF_done (left_of (b := false) (by kernel_rfl)))
def cysF : FT
  | [], [], [], [⟨_, n, [.int .i64 z0, .int .i64 z1]⟩] => .need (Nat.ble n 1000000) (.node (Nat.beq n 0) (.leaf (nilA, [])) (.leaf (slO (1) 2 n, [⟨false, 164, .rows n [.int .i64 z0, .int .i64 z1]⟩])))
  | _, _, _, _ => .fail 360
def cysSp : Spec := fun args h => specT [(false, [.t [.int .i64 fun _ => 0, .int .i64 fun _ => 0]])] [] cysF args h
theorem cys_ok : SpecOk Tryz.prog 40 cysSp := by
  refine specT_ok rfl (by decide) fun l m n ts v news hl hm hn ht hnil hF => ?_
  unfold cysF at hF
  split at hF
  · rename_i  id n z0 z1
    obtain ⟨hok, hF⟩ := Tree.need_some hF
    have hok := Nat.le_of_ble_eq_true hok
    cases id with
    | none =>
      have h0 : n = 0 := hnil _ (List.mem_singleton.2 rfl) rfl
      subst h0
      simp only [Tree.run, Nat.beq, Option.some.injEq, Prod.mk.injEq] at hF
      obtain ⟨rfl, rfl⟩ := hF
      exact call_ev tb_cld_ok (by kernel_rfl)
    | some id =>
      have hv : v = resL 1 2 n ∧ news = resBl 164 n [.int .i64 z0, .int .i64 z1] := by
        cases n <;> (simp only [Tree.run, Nat.beq, Option.some.injEq, Prod.mk.injEq] at hF; obtain ⟨rfl, rfl⟩ := hF; exact ⟨rfl, rfl⟩)
      obtain ⟨rfl, rfl⟩ := hv
      exact cys_call n z0 z1 hok
  · cases hF
def tb_cys : List (FuncId × Spec) := (40, cysSp) :: tb_cld
theorem tb_cys_ok : TabOk Tryz.prog (tabOf tb_cys) := tab_cons tb_cld_ok cys_ok

/-! ### spillage/salt.mapped[int,spillage/api.Errno] -/
def mapIC0 (z0 : Nat → Int) : Nat → Int := fun ix => wW (z0 ix) (-100000) 100000
def mapIB (n : Nat) (z0 : Nat → Int) : St := baseB 22 [slT 0 1 n, .one (.fn 135 [])] (hpT [⟨some 0, n, [.int .i64 z0]⟩] [] [])
def mapIN (n : Nat) (z0 : Nat → Int) (news : List Blk) (env : List (Nat × A)) : St := stN 22 (envL env) (bsS [⟨some 0, n, [.int .i64 z0]⟩] []) (globsG 1 []) news
def mapIH (n : Nat) (z0 : Nat → Int) : Nat → St
  | 0 => mapIN n z0 [] [(5, nilA), (8, slT 0 1 n), (9, int n), (10, int 0), (1, .one (.fn 135 []))]
  | k + 1 => mapIN n z0 [⟨false, 31, .rows (k + 1) [.int .i64 (mapIC0 z0)]⟩] [(5, slO 1 1 (k + 1)), (8, slT 0 1 n), (9, int n), (10, int ((k + 1 : Nat) : Int)), (1, .one (.fn 135 []))]
def mapIX (n : Nat) (z0 : Nat → Int) : Nat → St
  | 0 => mapIN n z0 [] [(5, nilA)]
  | k + 1 => mapIN n z0 [⟨false, 31, .rows (k + 1) [.int .i64 (mapIC0 z0)]⟩] [(5, slO 1 1 (k + 1))]
noncomputable def mapIS (n : Nat) (z0 : Nat → Int) : Nat → Tree (X × St)
  | 0 => .node (decide ((0 : Int) < (n : Int))) (.need (decide ((0 : Int) ≤ 0) && decide ((0 : Int) < (n : Int))) (.need (Nat.blt (0 + Int.toNat 0) n) (.need true (.need true (.leaf (.normal, mapIN n z0 [⟨false, 31, .flat [ci ((mapIC0 z0) 0)]⟩] [(5, slO 1 1 1), (8, slT 0 1 n), (9, int n), (10, int (IntKind.i64.wrap (((0 : Nat) : Int) + 1))), (1, .one (.fn 135 []))])))))) (.leaf (.exit 0, mapIX n z0 0))
  | k + 1 => .node (decide (((k + 1 : Nat) : Int) < (n : Int))) (.need (decide (0 ≤ ((k + 1 : Nat) : Int)) && decide (((k + 1 : Nat) : Int) < (n : Int))) (.need (Nat.blt (0 + Int.toNat ((k + 1 : Nat) : Int)) n) (.need true (.need (Nat.ble (k + 1) (k + 1) && Nat.blt ((k + 1 + 1) * ((Tryz.prog.info? 31).map (·.bytes)).getD 0) 140737488355328 && Nat.ble (k + 1 + 1) 9223372036854775807) (.leaf (.normal, mapIN n z0 [⟨false, 31, .rows (k + 1 + 1) [.int .i64 (putF (mapIC0 z0) (k + 1) ((mapIC0 z0) (0 + Int.toNat ((k + 1 : Nat) : Int))))]⟩] [(5, slO 1 1 (k + 1 + 1)), (8, slT 0 1 n), (9, int n), (10, int (IntKind.i64.wrap (((k + 1 : Nat) : Int) + 1))), (1, .one (.fn 135 []))])))))) (.leaf (.exit 0, mapIX n z0 (k + 1)))
theorem mapI_round (n : Nat) (z0 : Nat → Int) (k : Nat) : (recT Tryz.prog (tabOf tb_cys) (loopF Tryz.f134) (mapIH n z0 k)).bind (canonT [5, 8, 9, 10, 1] [5] (mapIB n z0)) = mapIS n z0 k := by
  cases k with
  | zero => kernel_rfl
  | succ k => kernel_rfl
theorem mapI_loop (n : Nat) (z0 : Nat → Int) (hn : n ≤ 1000000) : ComesF Tryz.prog (.loop (loopF Tryz.f134)) (mapIB n z0) (mapIH n z0 0) fun q => q = (.exit 0, mapIX n z0 n) := by
  refine loop_is (recT_ok tb_cys_ok) rfl [5, 8, 9, 10, 1] [5] (mapIH n z0) (fun k => n - k) (fun k => k ≤ n) (fun _ => (.exit 0, mapIX n z0 n)) (mapIS n z0) (fun k _ => mapI_round n z0 k) (fun k hk => ?_) 0 (Nat.zero_le n)
  cases k with
  | zero =>
    unfold mapIS
    by_cases h : 0 < n
    · have e1 : decide ((0 : Int) < (n : Int)) = true := by simpa using h
      have hb : Nat.blt (0 + Int.toNat 0) n = true := by rw [Nat.blt_eq]; simpa using h
      simp only [e1, Tree.All, hb]
      refine ⟨(by first | exact trivial | rfl), (by first | exact trivial | rfl), (by first | exact trivial | rfl), (by first | exact trivial | rfl), 1, ?_, h, by omega, (by first | exact trivial | rfl)⟩
      rw [wrap_succ (k := 0) (by omega)]
      exact le_news (show 1 + 1 ≤ lim by decide) ⟨⟨rfl, blk_body rfl (fun cs e => by cases e) fun E arr hh => rows_one rfl (fun j c col h1 h2 => by match j, h1, h2 with | 0, h1, h2 => injection h1 with h1; injection h2 with h2; subst h1; subst h2; rfl) hh⟩, trivial⟩
    · have h0 : n = 0 := by omega
      subst h0
      rfl
  | succ k =>
    unfold mapIS
    by_cases h : k + 1 < n
    · have e1 : decide (((k + 1 : Nat) : Int) < (n : Int)) = true := by simp only [decide_eq_true_eq]; omega
      have e2 : decide ((0 : Int) ≤ ((k + 1 : Nat) : Int)) = true := by simp only [decide_eq_true_eq]; omega
      have hb : Nat.blt (k + 1) n = true := by rw [Nat.blt_eq]; omega
      have e0 : ((Tryz.prog.info? 31).map (·.bytes)).getD 0 = 8 := by kernel_rfl
      have e3 : Nat.blt ((k + 1 + 1) * ((Tryz.prog.info? 31).map (·.bytes)).getD 0) 140737488355328 = true := by rw [e0, Nat.blt_eq]; omega
      have e4 : Nat.ble (k + 1 + 1) 9223372036854775807 = true := by rw [Nat.ble_eq]; omega
      simp only [e1, e2, e3, e4, ble_self, Tree.All, Nat.zero_add, Int.toNat_natCast, hb, putF_self]
      refine ⟨(by first | exact trivial | rfl), (by first | exact trivial | rfl), (by first | exact trivial | rfl), (by first | exact trivial | rfl), k + 1 + 1, ?_, h, by omega, (by first | exact trivial | rfl)⟩
      rw [wrap_succ (by omega)]
      exact St.Le.refl _
    · have h0 : n = k + 1 := by omega
      have e1 : decide (((k + 1 : Nat) : Int) < (n : Int)) = false := by simp only [decide_eq_false_iff_not]; omega
      simp only [e1, Tree.All]
      rw [h0]
theorem mapI_call (n : Nat) (z0 : Nat → Int) (hn : n ≤ 1000000) : CallAt Tryz.prog 134 [slT 0 1 n, .one (.fn 135 [])] (hpT [⟨some 0, n, [.int .i64 z0]⟩] [] []) (resL 1 1 n) (hpT [⟨some 0, n, [.int .i64 z0]⟩] [] (resBl 31 n [.int .i64 (mapIC0 z0)])) := by
  refine call_base (recT_ok tb_cys_ok) (c := bodyOf Tryz.f134) (fn := Tryz.f134) Tryz.func134 (by kernel_rfl) (by kernel_rfl) (false, false) 1 [5, 8, 9, 10, 1] [4] (sB := mapIB n z0) (by kernel_rfl) (t := .leaf (.inr (pathF Tryz.f134, mapIH n z0 0))) (by kernel_rfl) ?_
  refine cutF_stop _ true [] [4] (mapI_loop n z0 hn) fun q hq => ?_
  subst hq
  cases n with
  | zero =>
    refine (congrArg (Tree.All _) (show evO2 (recT Tryz.prog (tabOf tb_cys)) true (bodyOf Tryz.f134) (pathF Tryz.f134) [] [4] (mapIB 0 z0) (.exit 0, mapIX 0 z0 0) = .leaf (.inl (.ret, mapIN 0 z0 [] [(4, nilA)])) by kernel_rfl)).mpr (cutF_done (left_of (b := true) (by kernel_rfl)))
  | succ k =>
    refine (congrArg (Tree.All _) (show evO2 (recT Tryz.prog (tabOf tb_cys)) true (bodyOf Tryz.f134) (pathF Tryz.f134) [] [4] (mapIB (k + 1) z0) (.exit 0, mapIX (k + 1) z0 (k + 1)) = .leaf (.inl (.ret, mapIN (k + 1) z0 [⟨false, 31, .rows (k + 1) [.int .i64 (mapIC0 z0)]⟩] [(4, slO 1 1 (k + 1))])) by kernel_rfl)).mpr (cutF_done (left_of (b := false) (by kernel_rfl)))
def mapIF : FT
  | [], [], [], [⟨_, n, [.int .i64 z0]⟩] => .need (Nat.ble n 1000000) (.node (Nat.beq n 0) (.leaf (nilA, [])) (.leaf (slO (1) 1 n, [⟨false, 31, .rows n [.int .i64 (mapIC0 z0)]⟩])))
  | _, _, _, _ => .fail 360
def mapISp : Spec := fun args h => specT [(false, [.t [.int .i64 fun _ => 0]]), (false, [.fn 135])] [] mapIF args h
theorem mapI_ok : SpecOk Tryz.prog 134 mapISp := by
  refine specT_ok rfl (by decide) fun l m n ts v news hl hm hn ht hnil hF => ?_
  unfold mapIF at hF
  split at hF
  · rename_i  id n z0
    obtain ⟨hok, hF⟩ := Tree.need_some hF
    have hok := Nat.le_of_ble_eq_true hok
    cases id with
    | none =>
      have h0 : n = 0 := hnil _ (List.mem_singleton.2 rfl) rfl
      subst h0
      simp only [Tree.run, Nat.beq, Option.some.injEq, Prod.mk.injEq] at hF
      obtain ⟨rfl, rfl⟩ := hF
      exact call_ev tb_cys_ok (by kernel_rfl)
    | some id =>
      have hv : v = resL 1 1 n ∧ news = resBl 31 n [.int .i64 (mapIC0 z0)] := by
        cases n <;> (simp only [Tree.run, Nat.beq, Option.some.injEq, Prod.mk.injEq] at hF; obtain ⟨rfl, rfl⟩ := hF; exact ⟨rfl, rfl⟩)
      obtain ⟨rfl, rfl⟩ := hv
      exact mapI_call n z0 hok
  · cases hF
def tb_mapI : List (FuncId × Spec) := (134, mapISp) :: tb_cys
theorem tb_mapI_ok : TabOk Tryz.prog (tabOf tb_mapI) := tab_cons tb_cys_ok mapI_ok

/-! ### spillage/salt.mapped[spillage/salt.Cycle,spillage/api.Errno] -/
def mapCC0 (z0 : Nat → Int) (z1 : Nat → Int) : Nat → Int := fun ix => firstZ [wW (z0 ix) (-100000) 100000, wW (z1 ix) (-100000) 100000]
def mapCB (n : Nat) (z0 : Nat → Int) (z1 : Nat → Int) : St := baseB 22 [slT 0 2 n, .one (.fn 139 [])] (hpT [⟨some 0, n, [.int .i64 z0, .int .i64 z1]⟩] [] [])
def mapCN (n : Nat) (z0 : Nat → Int) (z1 : Nat → Int) (news : List Blk) (env : List (Nat × A)) : St := stN 22 (envL env) (bsS [⟨some 0, n, [.int .i64 z0, .int .i64 z1]⟩] []) (globsG 1 []) news
def mapCH (n : Nat) (z0 : Nat → Int) (z1 : Nat → Int) : Nat → St
  | 0 => mapCN n z0 z1 [] [(5, nilA), (8, slT 0 2 n), (9, int n), (10, int 0), (1, .one (.fn 139 []))]
  | k + 1 => mapCN n z0 z1 [⟨false, 31, .rows (k + 1) [.int .i64 (mapCC0 z0 z1)]⟩] [(5, slO 1 1 (k + 1)), (8, slT 0 2 n), (9, int n), (10, int ((k + 1 : Nat) : Int)), (1, .one (.fn 139 []))]
def mapCX (n : Nat) (z0 : Nat → Int) (z1 : Nat → Int) : Nat → St
  | 0 => mapCN n z0 z1 [] [(5, nilA)]
  | k + 1 => mapCN n z0 z1 [⟨false, 31, .rows (k + 1) [.int .i64 (mapCC0 z0 z1)]⟩] [(5, slO 1 1 (k + 1))]
noncomputable def mapCS (n : Nat) (z0 : Nat → Int) (z1 : Nat → Int) : Nat → Tree (X × St)
  | 0 => .node (decide ((0 : Int) < (n : Int))) (.need (decide ((0 : Int) ≤ 0) && decide ((0 : Int) < (n : Int))) (.need (Nat.blt (0 + Int.toNat 0) n) (.need (Nat.blt (0 + Int.toNat 0) n) (.need true (.need true (.need true (.leaf (.normal, mapCN n z0 z1 [⟨false, 31, .flat [ci ((mapCC0 z0 z1) 0)]⟩] [(5, slO 1 1 1), (8, slT 0 2 n), (9, int n), (10, int (IntKind.i64.wrap (((0 : Nat) : Int) + 1))), (1, .one (.fn 139 []))])))))))) (.leaf (.exit 0, mapCX n z0 z1 0))
  | k + 1 => .node (decide (((k + 1 : Nat) : Int) < (n : Int))) (.need (decide (0 ≤ ((k + 1 : Nat) : Int)) && decide (((k + 1 : Nat) : Int) < (n : Int))) (.need (Nat.blt (0 + Int.toNat ((k + 1 : Nat) : Int)) n) (.need (Nat.blt (0 + Int.toNat ((k + 1 : Nat) : Int)) n) (.need true (.need true (.need (Nat.ble (k + 1) (k + 1) && Nat.blt ((k + 1 + 1) * ((Tryz.prog.info? 31).map (·.bytes)).getD 0) 140737488355328 && Nat.ble (k + 1 + 1) 9223372036854775807) (.leaf (.normal, mapCN n z0 z1 [⟨false, 31, .rows (k + 1 + 1) [.int .i64 (putF (mapCC0 z0 z1) (k + 1) ((mapCC0 z0 z1) (0 + Int.toNat ((k + 1 : Nat) : Int))))]⟩] [(5, slO 1 1 (k + 1 + 1)), (8, slT 0 2 n), (9, int n), (10, int (IntKind.i64.wrap (((k + 1 : Nat) : Int) + 1))), (1, .one (.fn 139 []))])))))))) (.leaf (.exit 0, mapCX n z0 z1 (k + 1)))
theorem mapC_round (n : Nat) (z0 : Nat → Int) (z1 : Nat → Int) (k : Nat) : (recT Tryz.prog (tabOf tb_mapI) (loopF Tryz.f138) (mapCH n z0 z1 k)).bind (canonT [5, 8, 9, 10, 1] [5] (mapCB n z0 z1)) = mapCS n z0 z1 k := by
  cases k with
  | zero => kernel_rfl
  | succ k => kernel_rfl
theorem mapC_loop (n : Nat) (z0 : Nat → Int) (z1 : Nat → Int) (hn : n ≤ 1000000) : ComesF Tryz.prog (.loop (loopF Tryz.f138)) (mapCB n z0 z1) (mapCH n z0 z1 0) fun q => q = (.exit 0, mapCX n z0 z1 n) := by
  refine loop_is (recT_ok tb_mapI_ok) rfl [5, 8, 9, 10, 1] [5] (mapCH n z0 z1) (fun k => n - k) (fun k => k ≤ n) (fun _ => (.exit 0, mapCX n z0 z1 n)) (mapCS n z0 z1) (fun k _ => mapC_round n z0 z1 k) (fun k hk => ?_) 0 (Nat.zero_le n)
  cases k with
  | zero =>
    unfold mapCS
    by_cases h : 0 < n
    · have e1 : decide ((0 : Int) < (n : Int)) = true := by simpa using h
      have hb : Nat.blt (0 + Int.toNat 0) n = true := by rw [Nat.blt_eq]; simpa using h
      simp only [e1, Tree.All, hb]
      refine ⟨(by first | exact trivial | rfl), (by first | exact trivial | rfl), (by first | exact trivial | rfl), (by first | exact trivial | rfl), (by first | exact trivial | rfl), (by first | exact trivial | rfl), 1, ?_, h, by omega, (by first | exact trivial | rfl)⟩
      rw [wrap_succ (k := 0) (by omega)]
      exact le_news (show 1 + 1 ≤ lim by decide) ⟨⟨rfl, blk_body rfl (fun cs e => by cases e) fun E arr hh => rows_one rfl (fun j c col h1 h2 => by match j, h1, h2 with | 0, h1, h2 => injection h1 with h1; injection h2 with h2; subst h1; subst h2; rfl) hh⟩, trivial⟩
    · have h0 : n = 0 := by omega
      subst h0
      rfl
  | succ k =>
    unfold mapCS
    by_cases h : k + 1 < n
    · have e1 : decide (((k + 1 : Nat) : Int) < (n : Int)) = true := by simp only [decide_eq_true_eq]; omega
      have e2 : decide ((0 : Int) ≤ ((k + 1 : Nat) : Int)) = true := by simp only [decide_eq_true_eq]; omega
      have hb : Nat.blt (k + 1) n = true := by rw [Nat.blt_eq]; omega
      have e0 : ((Tryz.prog.info? 31).map (·.bytes)).getD 0 = 8 := by kernel_rfl
      have e3 : Nat.blt ((k + 1 + 1) * ((Tryz.prog.info? 31).map (·.bytes)).getD 0) 140737488355328 = true := by rw [e0, Nat.blt_eq]; omega
      have e4 : Nat.ble (k + 1 + 1) 9223372036854775807 = true := by rw [Nat.ble_eq]; omega
      simp only [e1, e2, e3, e4, ble_self, Tree.All, Nat.zero_add, Int.toNat_natCast, hb, putF_self]
      refine ⟨(by first | exact trivial | rfl), (by first | exact trivial | rfl), (by first | exact trivial | rfl), (by first | exact trivial | rfl), (by first | exact trivial | rfl), (by first | exact trivial | rfl), k + 1 + 1, ?_, h, by omega, (by first | exact trivial | rfl)⟩
      rw [wrap_succ (by omega)]
      exact St.Le.refl _
    · have h0 : n = k + 1 := by omega
      have e1 : decide (((k + 1 : Nat) : Int) < (n : Int)) = false := by simp only [decide_eq_false_iff_not]; omega
      simp only [e1, Tree.All]
      rw [h0]
theorem mapC_call (n : Nat) (z0 : Nat → Int) (z1 : Nat → Int) (hn : n ≤ 1000000) : CallAt Tryz.prog 138 [slT 0 2 n, .one (.fn 139 [])] (hpT [⟨some 0, n, [.int .i64 z0, .int .i64 z1]⟩] [] []) (resL 1 1 n) (hpT [⟨some 0, n, [.int .i64 z0, .int .i64 z1]⟩] [] (resBl 31 n [.int .i64 (mapCC0 z0 z1)])) := by
  refine call_base (recT_ok tb_mapI_ok) (c := bodyOf Tryz.f138) (fn := Tryz.f138) Tryz.func138 (by kernel_rfl) (by kernel_rfl) (false, false) 1 [5, 8, 9, 10, 1] [4] (sB := mapCB n z0 z1) (by kernel_rfl) (t := .leaf (.inr (pathF Tryz.f138, mapCH n z0 z1 0))) (by kernel_rfl) ?_
  refine cutF_stop _ true [] [4] (mapC_loop n z0 z1 hn) fun q hq => ?_
  subst hq
  cases n with
  | zero =>
    refine (congrArg (Tree.All _) (show evO2 (recT Tryz.prog (tabOf tb_mapI)) true (bodyOf Tryz.f138) (pathF Tryz.f138) [] [4] (mapCB 0 z0 z1) (.exit 0, mapCX 0 z0 z1 0) = .leaf (.inl (.ret, mapCN 0 z0 z1 [] [(4, nilA)])) by kernel_rfl)).mpr (cutF_done (left_of (b := true) (by kernel_rfl)))
  | succ k =>
    refine (congrArg (Tree.All _) (show evO2 (recT Tryz.prog (tabOf tb_mapI)) true (bodyOf Tryz.f138) (pathF Tryz.f138) [] [4] (mapCB (k + 1) z0 z1) (.exit 0, mapCX (k + 1) z0 z1 (k + 1)) = .leaf (.inl (.ret, mapCN (k + 1) z0 z1 [⟨false, 31, .rows (k + 1) [.int .i64 (mapCC0 z0 z1)]⟩] [(4, slO 1 1 (k + 1))])) by kernel_rfl)).mpr (cutF_done (left_of (b := false) (by kernel_rfl)))
def mapCF : FT
  | [], [], [], [⟨_, n, [.int .i64 z0, .int .i64 z1]⟩] => .need (Nat.ble n 1000000) (.node (Nat.beq n 0) (.leaf (nilA, [])) (.leaf (slO (1) 1 n, [⟨false, 31, .rows n [.int .i64 (mapCC0 z0 z1)]⟩])))
  | _, _, _, _ => .fail 360
def mapCSp : Spec := fun args h => specT [(false, [.t [.int .i64 fun _ => 0, .int .i64 fun _ => 0]]), (false, [.fn 139])] [] mapCF args h
theorem mapC_ok : SpecOk Tryz.prog 138 mapCSp := by
  refine specT_ok rfl (by decide) fun l m n ts v news hl hm hn ht hnil hF => ?_
  unfold mapCF at hF
  split at hF
  · rename_i  id n z0 z1
    obtain ⟨hok, hF⟩ := Tree.need_some hF
    have hok := Nat.le_of_ble_eq_true hok
    cases id with
    | none =>
      have h0 : n = 0 := hnil _ (List.mem_singleton.2 rfl) rfl
      subst h0
      simp only [Tree.run, Nat.beq, Option.some.injEq, Prod.mk.injEq] at hF
      obtain ⟨rfl, rfl⟩ := hF
      exact call_ev tb_mapI_ok (by kernel_rfl)
    | some id =>
      have hv : v = resL 1 1 n ∧ news = resBl 31 n [.int .i64 (mapCC0 z0 z1)] := by
        cases n <;> (simp only [Tree.run, Nat.beq, Option.some.injEq, Prod.mk.injEq] at hF; obtain ⟨rfl, rfl⟩ := hF; exact ⟨rfl, rfl⟩)
      obtain ⟨rfl, rfl⟩ := hv
      exact mapC_call n z0 z1 hok
  · cases hF
def tb_mapC : List (FuncId × Spec) := (138, mapCSp) :: tb_mapI
theorem tb_mapC_ok : TabOk Tryz.prog (tabOf tb_mapC) := tab_cons tb_mapI_ok mapC_ok
end Go.Ev

namespace Go.Ev
open Go Go.Proofs
set_option maxRecDepth 100000

/-! ### histories -/
def hisG (z1 : Nat → Int) (k : Nat) : Int := wW (z1 k) (-100000) 100000
def hisE (n : Nat) (z1 : Nat → Int) : Int := match decide ((n : Int) > 256) with
  | true => 5
  | false => (fnz (hisG z1) n 0).getD 0
section
variable (n : Nat) (z1 : Nat → Int)
def hisHp : Hp := hpT [⟨some 0, n, [.int .i64 z1]⟩] [] []
/-! by the program -/
theorem hisp_call (hn : n ≤ 9223372036854775807) : CallAt Tryz.prog 93 [slT 0 1 n] (hisHp n z1) (int (hisE n z1)) (hisHp n z1) := by
  refine call_sk tb_mapC_ok Tryz.func93 (by kernel_rfl) (false, true) (by kernel_rfl) (S := .node (decide ((n : Int) > 256)) (.leaf (.inl (true, int 5, hisHp n z1))) (.need (okN n) (.need (Nat.ble n 1000000) (.node (Nat.beq n 0) (.leaf (.inl (true, int 0, hisHp n z1))) (.need (Nat.ble n n) (.leaf (.inl (true, int ((fnz (hisG z1) n 0).getD 0), hisHp n z1)))))))) (by kernel_rfl) (by kernel_rfl) (SkLeads.all ?_)
  unfold hisE
  refine sk_either (fun g0 => ?_) fun g0 => ?_
  · rw [g0]; exact sk_leaf rfl
  · rw [g0]
    have hk : n ≤ 256 := by simp only [decide_eq_false_iff_not] at g0; omega
    refine sk_need (okN_ok n) (sk_need (by rw [Nat.ble_eq]; omega) (sk_either (fun g1 => ?_) fun g1 => sk_need (ble_self n) (sk_leaf rfl)))
    have h0 := Nat.eq_of_beq_eq_true g1
    subst h0
    exact sk_leaf rfl
theorem hisp_nil : CallAt Tryz.prog 93 [nilA] (hpT [] [] []) (int (hisE 0 z1)) (hpT [] [] []) := call_ev tb_mapC_ok (by kernel_rfl)
/-! by the reference -/
def hisN (env : List (Nat × A)) : St := { stN 22 (envL env) (bsS [⟨some 0, n, [.int .i64 z1]⟩] []) [] [] with keep := true }
def hisB : St := { baseB 22 [slT 0 1 n] (hisHp n z1) with keep := true }
def hisH (i : Int) : St := hisN n z1 [(0, slT 0 1 n), (2, int 0), (3, int i)]
def hisX (e : Int) : St := hisN n z1 [(2, int e)]
noncomputable def hisRe : Code → St → Tree (X × St) := recT Tryz.prog (tabOf tb_mapC)
noncomputable def hisT (k : Nat) : Tree (X × St) := (hisRe (loopF Tryz.f30) (hisH n z1 (k : Int))).bind (canonT [0, 2, 3] [2] (hisB n z1))
noncomputable def hisO : Tree ((X × St) ⊕ (List Bool × St)) := evO hisRe (bodyOf Tryz.f30) [0, 2, 3] [2] (hisB n z1)
noncomputable def hisP (x : X) (e : Int) : Tree ((X × St) ⊕ (List Bool × St)) := evO2 hisRe true (bodyOf Tryz.f30) (pathF Tryz.f30) [] [2] (hisB n z1) (x, hisX n z1 e)
noncomputable def hisSk (k : Nat) : Sk (X × St) := .node (decide ((k : Int) < (n : Int))) (.need (decide (0 ≤ (k : Int)) && decide ((k : Int) < (n : Int))) ((.need (Nat.blt (0 + Int.toNat (k : Int)) n) (.node (hisG z1 (0 + Int.toNat (k : Int)) != 0) (.leaf (.ret, hisX n z1 (hisG z1 (0 + Int.toNat (k : Int))))) (.leaf (.normal, hisH n z1 (IntKind.i64.wrap ((k : Int) + 1)))))))) (.leaf (.exit 0, hisX n z1 0))
theorem his_into (k : Nat) : hisT n z1 k = into (hisT n z1 k) (hisSk n z1 k) := by kernel_rfl
theorem his_fits (k : Nat) : fits (hisT n z1 k) (hisSk n z1 k) = true := by kernel_rfl
theorem his_loop (hn : n ≤ 1000000) : ComesF Tryz.prog (.loop (loopF Tryz.f30)) (hisB n z1) (hisH n z1 ((0 : Nat) : Int)) fun q => q = finT (hisX n z1) n (hisG z1) 0 := by
  refine loop_count (recT_ok tb_mapC_ok) rfl [0, 2, 3] [2] (fun k => hisH n z1 (k : Int)) (finT (hisX n z1) n (hisG z1)) n (hisT n z1) (hisSk n z1) (fun _ => rfl) (his_into n z1) (his_fits n z1) (fun k hk => ?_) (sk_no (rnd_end n) (sk_leaf finT_end.symm))
  obtain ⟨a1, a2, a3⟩ := rnd_lt hk
  refine sk_yes a1 (sk_need a2 (sk_need a3 (?_)))
  rw [idx_nat]
  refine sk_either (fun h => sk_leaf (rnd_ret ?_)) fun h => sk_leaf (rnd_next (by rw [wrap_succ (by omega)]; exact St.Le.refl _) (finT_next hk (by simpa using h)))
  rw [finT_ret hk (by simpa using h)]
def hisR (e : Int) : St := hisN n z1 [(2, int e)]
noncomputable def hisOS : Sk ((X × St) ⊕ (List Bool × St)) := .node (decide ((n : Int) > 256)) (.leaf (.inl (.ret, hisR n z1 5))) (.leaf (.inr (pathF Tryz.f30, hisH n z1 ((0 : Nat) : Int))))
theorem hisO_into : hisO n z1 = into (hisO n z1) (hisOS n z1) := by kernel_rfl
theorem hisO_fits : fits (hisO n z1) (hisOS n z1) = true := by kernel_rfl
theorem hisP_into : hisP n z1 (.exit 0) 0 = into (hisP n z1 (.exit 0) 0) (.leaf (.inl (.ret, hisR n z1 0))) := by kernel_rfl
theorem hisP_fits : fits (hisP n z1 (.exit 0) 0) (.leaf (.inl (.ret, hisR n z1 0))) = true := by kernel_rfl
theorem hisQ_into (e : Int) : hisP n z1 .ret e = into (hisP n z1 .ret e) (.leaf (.inl (.ret, hisR n z1 e))) := by kernel_rfl
theorem hisQ_fits (e : Int) : fits (hisP n z1 .ret e) (.leaf (.inl (.ret, hisR n z1 e))) = true := by kernel_rfl
theorem his_left (e : Int) : Left2 Tryz.prog Tryz.f30 (hisHp n z1) (int e) (hisHp n z1) (.ret, hisR n z1 e) := left_of (b := true) (by kernel_rfl)
theorem hisq_call : CallAt Tryz.prog 30 [slT 0 1 n] (hisHp n z1) (int (hisE n z1)) (hisHp n z1) := by
  refine call_base (rec := hisRe) (recT_ok tb_mapC_ok) (c := bodyOf Tryz.f30) (fn := Tryz.f30) Tryz.func30 (by kernel_rfl) (by kernel_rfl) (false, true) 1 [0, 2, 3] [2] (sB := hisB n z1) (by kernel_rfl) (t := hisO n z1) (by delta hisO; rfl) (all_into (hisO_into n z1) (hisO_fits n z1) (SkLeads.all ?_))
  unfold hisE
  refine sk_either (fun g0 => ?_) fun g0 => ?_
  · rw [g0]; exact sk_leaf (cutF_dn (his_left n z1 5))
  · rw [g0]
    have hk : n ≤ 256 := by simp only [decide_eq_false_iff_not] at g0; omega
    refine sk_leaf ⟨_, true, [], [2], his_loop n z1 (by omega), fun q hq => Leads.all ?_⟩
    subst hq
    unfold finT
    rw [Nat.sub_zero]
    cases fnz (hisG z1) n 0 with
    | some e => exact leads_in (show _ = hisP n z1 .ret e by delta hisP; rfl) (hisQ_into n z1 e) (hisQ_fits n z1 e) (sk_leaf (cutF_dn (his_left n z1 e)))
    | none => exact leads_in (show _ = hisP n z1 (.exit 0) 0 by delta hisP; rfl) (hisP_into n z1) (hisP_fits n z1) (sk_leaf (cutF_dn (his_left n z1 0)))
theorem hisq_nil : CallAt Tryz.prog 30 [nilA] (hpT [] [] []) (int (hisE 0 z1)) (hpT [] [] []) := call_ev tb_mapC_ok (by kernel_rfl)
end
def hisF : FT
  | [], [], [], [⟨_, n, [.int .i64 z1]⟩] => .need (Nat.ble n 9223372036854775807) (.leaf (int (hisE n z1), []))
  | _, _, _, _ => .fail 392
def hisSp : Spec := fun args h => specT [(false, [.t [.int .i64 fun _ => 0]])] [] hisF args h
theorem his_any {f : FuncId} (h0 : ∀ z1, CallAt Tryz.prog f [nilA] (hpT [] [] []) (int (hisE 0 z1)) (hpT [] [] [])) (h1 : ∀ n z1, n ≤ 9223372036854775807 → CallAt Tryz.prog f [slT 0 1 n] (hisHp n z1) (int (hisE n z1)) (hisHp n z1)) : SpecOk Tryz.prog f hisSp := by
  refine specT_ok rfl (by decide) fun l m n ts v news hl hm hn ht hnil hF => ?_
  unfold hisF at hF
  split at hF
  · rename_i id n z1
    obtain ⟨hok, hF⟩ := Tree.need_some hF
    have hok := Nat.le_of_ble_eq_true hok
    simp only [Tree.run, Option.some.injEq, Prod.mk.injEq] at hF
    obtain ⟨rfl, rfl⟩ := hF
    cases id with
    | none =>
      have h00 : n = 0 := hnil _ (List.mem_singleton.2 rfl) rfl
      subst h00
      exact h0 z1
    | some id => exact h1 n z1 hok
  · cases hF
theorem hisp_ok : SpecOk Tryz.prog 93 hisSp := his_any (fun z1 => hisp_nil z1) fun n z1 hn => hisp_call n z1 hn
theorem hisq_ok : SpecOk Tryz.prog 30 hisSp := his_any (fun z1 => hisq_nil z1) fun n z1 _ => hisq_call n z1

/-! ### cycles -/
def cycG (z1 z2 : Nat → Int) (k : Nat) : Int := firstZ [wW (z1 k) (-100000) 100000, wW (z2 k) (-100000) 100000]
def cycE (n : Nat) (z1 z2 : Nat → Int) : Int := match decide ((n : Int) > 256) with
  | true => 5
  | false => (fnz (cycG z1 z2) n 0).getD 0
section
variable (n : Nat) (z1 z2 : Nat → Int)
def cycHp : Hp := hpT [⟨some 0, n, [.int .i64 z1, .int .i64 z2]⟩] [] []
/-! by the program -/
theorem cycp_call (hn : n ≤ 9223372036854775807) : CallAt Tryz.prog 96 [slT 0 2 n] (cycHp n z1 z2) (int (cycE n z1 z2)) (cycHp n z1 z2) := by
  refine call_sk tb_mapC_ok Tryz.func96 (by kernel_rfl) (false, true) (by kernel_rfl) (S := .node (decide ((n : Int) > 256)) (.leaf (.inl (true, int 5, cycHp n z1 z2))) (.need (okN n) (.need (Nat.ble n 1000000) (.node (Nat.beq n 0) (.leaf (.inl (true, int 0, cycHp n z1 z2))) (.need (Nat.ble n n) (.leaf (.inl (true, int ((fnz (cycG z1 z2) n 0).getD 0), cycHp n z1 z2)))))))) (by kernel_rfl) (by kernel_rfl) (SkLeads.all ?_)
  unfold cycE
  refine sk_either (fun g0 => ?_) fun g0 => ?_
  · rw [g0]; exact sk_leaf rfl
  · rw [g0]
    have hk : n ≤ 256 := by simp only [decide_eq_false_iff_not] at g0; omega
    refine sk_need (okN_ok n) (sk_need (by rw [Nat.ble_eq]; omega) (sk_either (fun g1 => ?_) fun g1 => sk_need (ble_self n) (sk_leaf rfl)))
    have h0 := Nat.eq_of_beq_eq_true g1
    subst h0
    exact sk_leaf rfl
theorem cycp_nil : CallAt Tryz.prog 96 [nilA] (hpT [] [] []) (int (cycE 0 z1 z2)) (hpT [] [] []) := call_ev tb_mapC_ok (by kernel_rfl)
/-! by the reference -/
def cycN (env : List (Nat × A)) : St := { stN 31 (envL env) (bsS [⟨some 0, n, [.int .i64 z1, .int .i64 z2]⟩] []) [] [] with keep := true }
def cycB : St := { baseB 31 [slT 0 2 n] (cycHp n z1 z2) with keep := true }
def cycH (i : Int) : St := cycN n z1 z2 [(0, slT 0 2 n), (2, int 0), (3, int i)]
def cycX (e : Int) : St := cycN n z1 z2 [(2, int e)]
noncomputable def cycRe : Code → St → Tree (X × St) := recT Tryz.prog (tabOf tb_mapC)
noncomputable def cycT (k : Nat) : Tree (X × St) := (cycRe (loopF Tryz.f31) (cycH n z1 z2 (k : Int))).bind (canonT [0, 2, 3] [2] (cycB n z1 z2))
noncomputable def cycO : Tree ((X × St) ⊕ (List Bool × St)) := evO cycRe (bodyOf Tryz.f31) [0, 2, 3] [2] (cycB n z1 z2)
noncomputable def cycP (x : X) (e : Int) : Tree ((X × St) ⊕ (List Bool × St)) := evO2 cycRe true (bodyOf Tryz.f31) (pathF Tryz.f31) [] [2] (cycB n z1 z2) (x, cycX n z1 z2 e)
noncomputable def cycSk (k : Nat) : Sk (X × St) := .node (decide ((k : Int) < (n : Int))) (.need (decide (0 ≤ (k : Int)) && decide ((k : Int) < (n : Int))) ((.need (Nat.blt (0 + Int.toNat (k : Int)) n) (.need (decide (0 ≤ (k : Int)) && decide ((k : Int) < (n : Int))) (.need (Nat.blt (0 + Int.toNat (k : Int)) n) (.node (cycG z1 z2 (0 + Int.toNat (k : Int)) != 0) (.leaf (.ret, cycX n z1 z2 (cycG z1 z2 (0 + Int.toNat (k : Int))))) (.leaf (.normal, cycH n z1 z2 (IntKind.i64.wrap ((k : Int) + 1)))))))))) (.leaf (.exit 0, cycX n z1 z2 0))
theorem cyc_into (k : Nat) : cycT n z1 z2 k = into (cycT n z1 z2 k) (cycSk n z1 z2 k) := by kernel_rfl
theorem cyc_fits (k : Nat) : fits (cycT n z1 z2 k) (cycSk n z1 z2 k) = true := by kernel_rfl
theorem cyc_loop (hn : n ≤ 1000000) : ComesF Tryz.prog (.loop (loopF Tryz.f31)) (cycB n z1 z2) (cycH n z1 z2 ((0 : Nat) : Int)) fun q => q = finT (cycX n z1 z2) n (cycG z1 z2) 0 := by
  refine loop_count (recT_ok tb_mapC_ok) rfl [0, 2, 3] [2] (fun k => cycH n z1 z2 (k : Int)) (finT (cycX n z1 z2) n (cycG z1 z2)) n (cycT n z1 z2) (cycSk n z1 z2) (fun _ => rfl) (cyc_into n z1 z2) (cyc_fits n z1 z2) (fun k hk => ?_) (sk_no (rnd_end n) (sk_leaf finT_end.symm))
  obtain ⟨a1, a2, a3⟩ := rnd_lt hk
  refine sk_yes a1 (sk_need a2 (sk_need a3 (sk_need a2 (sk_need a3 (?_)))))
  rw [idx_nat]
  refine sk_either (fun h => sk_leaf (rnd_ret ?_)) fun h => sk_leaf (rnd_next (by rw [wrap_succ (by omega)]; exact St.Le.refl _) (finT_next hk (by simpa using h)))
  rw [finT_ret hk (by simpa using h)]
def cycR (e : Int) : St := cycN n z1 z2 [(2, int e)]
noncomputable def cycOS : Sk ((X × St) ⊕ (List Bool × St)) := .node (decide ((n : Int) > 256)) (.leaf (.inl (.ret, cycR n z1 z2 5))) (.leaf (.inr (pathF Tryz.f31, cycH n z1 z2 ((0 : Nat) : Int))))
theorem cycO_into : cycO n z1 z2 = into (cycO n z1 z2) (cycOS n z1 z2) := by kernel_rfl
theorem cycO_fits : fits (cycO n z1 z2) (cycOS n z1 z2) = true := by kernel_rfl
theorem cycP_into : cycP n z1 z2 (.exit 0) 0 = into (cycP n z1 z2 (.exit 0) 0) (.leaf (.inl (.ret, cycR n z1 z2 0))) := by kernel_rfl
theorem cycP_fits : fits (cycP n z1 z2 (.exit 0) 0) (.leaf (.inl (.ret, cycR n z1 z2 0))) = true := by kernel_rfl
theorem cycQ_into (e : Int) : cycP n z1 z2 .ret e = into (cycP n z1 z2 .ret e) (.leaf (.inl (.ret, cycR n z1 z2 e))) := by kernel_rfl
theorem cycQ_fits (e : Int) : fits (cycP n z1 z2 .ret e) (.leaf (.inl (.ret, cycR n z1 z2 e))) = true := by kernel_rfl
theorem cyc_left (e : Int) : Left2 Tryz.prog Tryz.f31 (cycHp n z1 z2) (int e) (cycHp n z1 z2) (.ret, cycR n z1 z2 e) := left_of (b := true) (by kernel_rfl)
theorem cycq_call : CallAt Tryz.prog 31 [slT 0 2 n] (cycHp n z1 z2) (int (cycE n z1 z2)) (cycHp n z1 z2) := by
  refine call_base (rec := cycRe) (recT_ok tb_mapC_ok) (c := bodyOf Tryz.f31) (fn := Tryz.f31) Tryz.func31 (by kernel_rfl) (by kernel_rfl) (false, true) 1 [0, 2, 3] [2] (sB := cycB n z1 z2) (by kernel_rfl) (t := cycO n z1 z2) (by delta cycO; rfl) (all_into (cycO_into n z1 z2) (cycO_fits n z1 z2) (SkLeads.all ?_))
  unfold cycE
  refine sk_either (fun g0 => ?_) fun g0 => ?_
  · rw [g0]; exact sk_leaf (cutF_dn (cyc_left n z1 z2 5))
  · rw [g0]
    have hk : n ≤ 256 := by simp only [decide_eq_false_iff_not] at g0; omega
    refine sk_leaf ⟨_, true, [], [2], cyc_loop n z1 z2 (by omega), fun q hq => Leads.all ?_⟩
    subst hq
    unfold finT
    rw [Nat.sub_zero]
    cases fnz (cycG z1 z2) n 0 with
    | some e => exact leads_in (show _ = cycP n z1 z2 .ret e by delta cycP; rfl) (cycQ_into n z1 z2 e) (cycQ_fits n z1 z2 e) (sk_leaf (cutF_dn (cyc_left n z1 z2 e)))
    | none => exact leads_in (show _ = cycP n z1 z2 (.exit 0) 0 by delta cycP; rfl) (cycP_into n z1 z2) (cycP_fits n z1 z2) (sk_leaf (cutF_dn (cyc_left n z1 z2 0)))
theorem cycq_nil : CallAt Tryz.prog 31 [nilA] (hpT [] [] []) (int (cycE 0 z1 z2)) (hpT [] [] []) := call_ev tb_mapC_ok (by kernel_rfl)
end
def cycF : FT
  | [], [], [], [⟨_, n, [.int .i64 z1, .int .i64 z2]⟩] => .need (Nat.ble n 9223372036854775807) (.leaf (int (cycE n z1 z2), []))
  | _, _, _, _ => .fail 392
def cycSp : Spec := fun args h => specT [(false, [.t [.int .i64 fun _ => 0, .int .i64 fun _ => 0]])] [] cycF args h
theorem cyc_any {f : FuncId} (h0 : ∀ z1 z2, CallAt Tryz.prog f [nilA] (hpT [] [] []) (int (cycE 0 z1 z2)) (hpT [] [] [])) (h1 : ∀ n z1 z2, n ≤ 9223372036854775807 → CallAt Tryz.prog f [slT 0 2 n] (cycHp n z1 z2) (int (cycE n z1 z2)) (cycHp n z1 z2)) : SpecOk Tryz.prog f cycSp := by
  refine specT_ok rfl (by decide) fun l m n ts v news hl hm hn ht hnil hF => ?_
  unfold cycF at hF
  split at hF
  · rename_i id n z1 z2
    obtain ⟨hok, hF⟩ := Tree.need_some hF
    have hok := Nat.le_of_ble_eq_true hok
    simp only [Tree.run, Option.some.injEq, Prod.mk.injEq] at hF
    obtain ⟨rfl, rfl⟩ := hF
    cases id with
    | none =>
      have h00 : n = 0 := hnil _ (List.mem_singleton.2 rfl) rfl
      subst h00
      exact h0 z1 z2
    | some id => exact h1 n z1 z2 hok
  · cases hF
theorem cycp_ok : SpecOk Tryz.prog 96 cycSp := cyc_any (fun z1 z2 => cycp_nil z1 z2) fun n z1 z2 hn => cycp_call n z1 z2 hn
theorem cycq_ok : SpecOk Tryz.prog 31 cycSp := cyc_any (fun z1 z2 => cycq_nil z1 z2) fun n z1 z2 _ => cycq_call n z1 z2
def tbH0 : List (FuncId × Spec) := (93, hisSp) :: (30, hisSp) :: (96, cycSp) :: (31, cycSp) :: tb_mapC
theorem tbH0_ok : TabOk Tryz.prog (tabOf tbH0) := tab_cons (tab_cons (tab_cons (tab_cons tb_mapC_ok cycq_ok) cycp_ok) hisq_ok) hisp_ok
end Go.Ev

namespace Go.Ev
open Go Go.Proofs
set_option maxRecDepth 100000

def siI (k : Nat) : Int := if IntKind.i64.wrap ((k : Int) - 1) > 0 then IntKind.i64.wrap ((k : Int) - 1) else 0
theorem siI_eq {k : Nat} (hk : k ≤ 1000000) : siI k = ((k - 1 : Nat) : Int) := by
  unfold siI
  cases k with
  | zero => rfl
  | succ k =>
    rw [wrap_id (by omega) (by omega)]
    split <;> omega
def clG (z1 z2 : Nat → Int) (k : Nat) (b : Bool) : Int := firstZ [wW (z1 k) 1 200000, wW (z2 k) 0 1000000, errIf b 11]
/-- the error of a class -/
def clE (z1 z2 : Nat → Int) (k : Nat) : Int := clG z1 z2 k (match decide ((k : Int) > 0) with
  | true => match decide (z1 k ≤ z1 (k - 1)) with
    | true => true
    | false => decide (z2 k ≤ z2 (k - 1))
  | false => false)
def cheadE (n : Nat) : Int := firstZ [errIf ((n : Int) == 0) 12, errIf (decide ((n : Int) > 16)) 5]
/-- the error of classes -/
def clsE (n : Nat) (z1 z2 : Nat → Int) : Int := match cheadE n != 0 with
  | true => cheadE n
  | false => (fnz (clE z1 z2) n 0).getD 0
noncomputable def clRe0 : Code → St → Tree (X × St) := recT Tryz.prog (tabOf tbH0)

/-! ### spillage/salt.CheckClasses -/
section
variable (n : Nat) (z1 z2 : Nat → Int)
def xcpN (env : List (Nat × A)) : St := { stN 63 (envL env) (bsS [⟨some 0, n, [.int .i64 z1, .int .i64 z2]⟩] []) [] [] with keep := true }
def xcpB : St := { baseB 63 [slT 0 2 n] (cycHp n z1 z2) with keep := true }
def xcpH (i : Int) : St := xcpN n z1 z2 [(0, slT 0 2 n), (2, int 0), (21, slT 0 2 n), (22, int n), (23, int i)]
def xcpX (e : Int) : St := xcpN n z1 z2 [(2, int e)]
noncomputable def xcpT (k : Nat) : Tree (X × St) := (clRe0 (loopF Tryz.f37) (xcpH n z1 z2 (k : Int))).bind (canonT [0, 2, 21, 22, 23] [2] (xcpB n z1 z2))
noncomputable def xcpO : Tree ((X × St) ⊕ (List Bool × St)) := evO clRe0 (bodyOf Tryz.f37) [0, 2, 21, 22, 23] [2] (xcpB n z1 z2)
noncomputable def xcpP (x : X) (e : Int) : Tree ((X × St) ⊕ (List Bool × St)) := evO2 clRe0 true (bodyOf Tryz.f37) (pathF Tryz.f37) [] [2] (xcpB n z1 z2) (x, xcpX n z1 z2 e)
def xcpLf (k : Nat) (b : Bool) : Sk (X × St) := .node (clG z1 z2 (0 + Int.toNat (k : Int)) b != 0) (.leaf (.ret, xcpX n z1 z2 (clG z1 z2 (0 + Int.toNat (k : Int)) b))) (.leaf (.normal, xcpH n z1 z2 (IntKind.i64.wrap ((k : Int) + 1))))
noncomputable def xcpSk (k : Nat) : Sk (X × St) := .node (decide ((k : Int) < (n : Int))) (.need (decide (0 ≤ (k : Int)) && decide ((k : Int) < (n : Int))) (.need (Nat.blt (0 + Int.toNat (k : Int)) n) (.need (Nat.blt (0 + Int.toNat (k : Int)) n) (.need (decide (0 ≤ siI k) && decide (siI k < (n : Int))) (.need (Nat.blt (0 + (siI k).toNat) n) (.need (Nat.blt (0 + (siI k).toNat) n)
  (.node (decide ((k : Int) > 0)) (.node (decide (z1 (0 + Int.toNat (k : Int)) ≤ z1 (0 + (siI k).toNat))) (xcpLf n z1 z2 k true) (xcpLf n z1 z2 k (decide (z2 (0 + Int.toNat (k : Int)) ≤ z2 (0 + (siI k).toNat))))) (xcpLf n z1 z2 k false)))))))) (.leaf (.exit 0, xcpX n z1 z2 0))
theorem xcp_into (k : Nat) : xcpT n z1 z2 k = into (xcpT n z1 z2 k) (xcpSk n z1 z2 k) := by kernel_rfl
theorem xcp_fits (k : Nat) : fits (xcpT n z1 z2 k) (xcpSk n z1 z2 k) = true := by kernel_rfl
theorem xcp_loop (hn : n ≤ 1000000) : ComesF Tryz.prog (.loop (loopF Tryz.f37)) (xcpB n z1 z2) (xcpH n z1 z2 ((0 : Nat) : Int)) fun q => q = finT (xcpX n z1 z2) n (clE z1 z2) 0 := by
  refine loop_count (recT_ok tbH0_ok) rfl [0, 2, 21, 22, 23] [2] (fun k => xcpH n z1 z2 (k : Int)) (finT (xcpX n z1 z2) n (clE z1 z2)) n (xcpT n z1 z2) (xcpSk n z1 z2) (fun _ => rfl) (xcp_into n z1 z2) (xcp_fits n z1 z2) (fun k hk => ?_) (sk_no (rnd_end n) (sk_leaf finT_end.symm))
  obtain ⟨a1, a2, a3⟩ := rnd_lt hk
  have b := rnd_lt (show k - 1 < n by omega)
  have hlf : ∀ b, clG z1 z2 k b = clE z1 z2 k → SkLeads (Rnd (fun k => xcpH n z1 z2 (k : Int)) (finT (xcpX n z1 z2) n (clE z1 z2)) k) (xcpLf n z1 z2 k b) := fun b hb => by
    unfold xcpLf
    rw [idx_nat, hb]
    refine sk_either (fun h => sk_leaf (rnd_ret ?_)) fun h => sk_leaf (rnd_next (by rw [wrap_succ (by omega)]; exact St.Le.refl _) (finT_next hk (by simpa using h)))
    rw [finT_ret hk (by simpa using h)]
  refine sk_yes a1 (sk_need a2 (sk_need a3 (sk_need a3 ?_)))
  rw [siI_eq (by omega), idx_nat, idx_nat]
  rw [idx_nat] at b
  refine sk_need b.2.1 (sk_need b.2.2 (sk_need b.2.2 (sk_either (fun h1 => sk_either (fun h2 => hlf _ ?_) fun h2 => hlf _ ?_) fun h1 => hlf _ ?_)))
  · unfold clE; rw [h1, h2]
  · unfold clE; rw [h1, h2]
  · unfold clE; rw [h1]
noncomputable def xcpOS : Sk ((X × St) ⊕ (List Bool × St)) := .node (cheadE n != 0) (.leaf (.inl (.ret, xcpX n z1 z2 (cheadE n)))) (.leaf (.inr (pathF Tryz.f37, xcpH n z1 z2 ((0 : Nat) : Int))))
theorem xcpO_into : xcpO n z1 z2 = into (xcpO n z1 z2) (xcpOS n z1 z2) := by kernel_rfl
theorem xcpO_fits : fits (xcpO n z1 z2) (xcpOS n z1 z2) = true := by kernel_rfl
theorem xcpP_into : xcpP n z1 z2 (.exit 0) 0 = into (xcpP n z1 z2 (.exit 0) 0) (.leaf (.inl (.ret, xcpX n z1 z2 0))) := by kernel_rfl
theorem xcpP_fits : fits (xcpP n z1 z2 (.exit 0) 0) (.leaf (.inl (.ret, xcpX n z1 z2 0))) = true := by kernel_rfl
theorem xcpQ_into (e : Int) : xcpP n z1 z2 .ret e = into (xcpP n z1 z2 .ret e) (.leaf (.inl (.ret, xcpX n z1 z2 e))) := by kernel_rfl
theorem xcpQ_fits (e : Int) : fits (xcpP n z1 z2 .ret e) (.leaf (.inl (.ret, xcpX n z1 z2 e))) = true := by kernel_rfl
theorem xcp_left (e : Int) : Left2 Tryz.prog Tryz.f37 (cycHp n z1 z2) (int e) (cycHp n z1 z2) (.ret, xcpX n z1 z2 e) := left_of (b := true) (by kernel_rfl)
theorem xcp_call : CallAt Tryz.prog 37 [slT 0 2 n] (cycHp n z1 z2) (int (clsE n z1 z2)) (cycHp n z1 z2) := by
  refine call_base (rec := clRe0) (recT_ok tbH0_ok) (c := bodyOf Tryz.f37) (fn := Tryz.f37) Tryz.func37 (by kernel_rfl) (by kernel_rfl) (false, true) 1 [0, 2, 21, 22, 23] [2] (sB := xcpB n z1 z2) (by kernel_rfl) (t := xcpO n z1 z2) (by delta xcpO; rfl) (all_into (xcpO_into n z1 z2) (xcpO_fits n z1 z2) (SkLeads.all ?_))
  unfold clsE
  refine sk_either (fun g0 => ?_) fun g0 => ?_
  · rw [g0]; exact sk_leaf (cutF_dn (xcp_left n z1 z2 _))
  · rw [g0]
    have hk : n ≤ 1000000 := by
      obtain ⟨_, h⟩ := first0 (ne0 g0)
      obtain ⟨h, _⟩ := first0 h
      have := errIf0 (by decide) h
      simp only [decide_eq_false_iff_not] at this
      omega
    refine sk_leaf ⟨_, true, [], [2], xcp_loop n z1 z2 hk, fun q hq => Leads.all ?_⟩
    subst hq
    unfold finT
    rw [Nat.sub_zero]
    cases fnz (clE z1 z2) n 0 with
    | some e => exact leads_in (show _ = xcpP n z1 z2 .ret e by delta xcpP; rfl) (xcpQ_into n z1 z2 e) (xcpQ_fits n z1 z2 e) (sk_leaf (cutF_dn (xcp_left n z1 z2 e)))
    | none => exact leads_in (show _ = xcpP n z1 z2 (.exit 0) 0 by delta xcpP; rfl) (xcpP_into n z1 z2) (xcpP_fits n z1 z2) (sk_leaf (cutF_dn (xcp_left n z1 z2 0)))
theorem xcp_nil : CallAt Tryz.prog 37 [nilA] (hpT [] [] []) (int (clsE 0 z1 z2)) (hpT [] [] []) := call_ev tbH0_ok (by kernel_rfl)
end

/-! ### spillage/spillageref08.CheckClasses -/
section
variable (n : Nat) (z1 z2 : Nat → Int)
def xcqN (env : List (Nat × A)) : St := { stN 65 (envL env) (bsS [⟨some 0, n, [.int .i64 z1, .int .i64 z2]⟩] []) [] [] with keep := true }
def xcqB : St := { baseB 65 [slT 0 2 n] (cycHp n z1 z2) with keep := true }
def xcqH (i : Int) : St := xcqN n z1 z2 [(0, slT 0 2 n), (2, int 0), (4, int i)]
def xcqX (e : Int) : St := xcqN n z1 z2 [(2, int e)]
noncomputable def xcqT (k : Nat) : Tree (X × St) := (clRe0 (loopF Tryz.f32) (xcqH n z1 z2 (k : Int))).bind (canonT [0, 2, 4] [2] (xcqB n z1 z2))
noncomputable def xcqO : Tree ((X × St) ⊕ (List Bool × St)) := evO clRe0 (bodyOf Tryz.f32) [0, 2, 4] [2] (xcqB n z1 z2)
noncomputable def xcqP (x : X) (e : Int) : Tree ((X × St) ⊕ (List Bool × St)) := evO2 clRe0 true (bodyOf Tryz.f32) (pathF Tryz.f32) [] [2] (xcqB n z1 z2) (x, xcqX n z1 z2 e)
def xcqLf (k : Nat) (b : Bool) : Sk (X × St) := .node (clG z1 z2 (0 + Int.toNat (k : Int)) b != 0) (.leaf (.ret, xcqX n z1 z2 (clG z1 z2 (0 + Int.toNat (k : Int)) b))) (.leaf (.normal, xcqH n z1 z2 (IntKind.i64.wrap ((k : Int) + 1))))
noncomputable def xcqSk (k : Nat) : Sk (X × St) := .node (decide ((k : Int) < (n : Int))) (.need (decide (0 ≤ (k : Int)) && decide ((k : Int) < (n : Int))) (.need (Nat.blt (0 + Int.toNat (k : Int)) n) (.need (Nat.blt (0 + Int.toNat (k : Int)) n) (.need (decide (0 ≤ siI k) && decide (siI k < (n : Int))) (.need (Nat.blt (0 + (siI k).toNat) n) (.need (Nat.blt (0 + (siI k).toNat) n)
  (.node (decide ((k : Int) > 0)) (.node (decide (z1 (0 + Int.toNat (k : Int)) ≤ z1 (0 + (siI k).toNat))) (xcqLf n z1 z2 k true) (xcqLf n z1 z2 k (decide (z2 (0 + Int.toNat (k : Int)) ≤ z2 (0 + (siI k).toNat))))) (xcqLf n z1 z2 k false)))))))) (.leaf (.exit 0, xcqX n z1 z2 0))
theorem xcq_into (k : Nat) : xcqT n z1 z2 k = into (xcqT n z1 z2 k) (xcqSk n z1 z2 k) := by kernel_rfl
theorem xcq_fits (k : Nat) : fits (xcqT n z1 z2 k) (xcqSk n z1 z2 k) = true := by kernel_rfl
theorem xcq_loop (hn : n ≤ 1000000) : ComesF Tryz.prog (.loop (loopF Tryz.f32)) (xcqB n z1 z2) (xcqH n z1 z2 ((0 : Nat) : Int)) fun q => q = finT (xcqX n z1 z2) n (clE z1 z2) 0 := by
  refine loop_count (recT_ok tbH0_ok) rfl [0, 2, 4] [2] (fun k => xcqH n z1 z2 (k : Int)) (finT (xcqX n z1 z2) n (clE z1 z2)) n (xcqT n z1 z2) (xcqSk n z1 z2) (fun _ => rfl) (xcq_into n z1 z2) (xcq_fits n z1 z2) (fun k hk => ?_) (sk_no (rnd_end n) (sk_leaf finT_end.symm))
  obtain ⟨a1, a2, a3⟩ := rnd_lt hk
  have b := rnd_lt (show k - 1 < n by omega)
  have hlf : ∀ b, clG z1 z2 k b = clE z1 z2 k → SkLeads (Rnd (fun k => xcqH n z1 z2 (k : Int)) (finT (xcqX n z1 z2) n (clE z1 z2)) k) (xcqLf n z1 z2 k b) := fun b hb => by
    unfold xcqLf
    rw [idx_nat, hb]
    refine sk_either (fun h => sk_leaf (rnd_ret ?_)) fun h => sk_leaf (rnd_next (by rw [wrap_succ (by omega)]; exact St.Le.refl _) (finT_next hk (by simpa using h)))
    rw [finT_ret hk (by simpa using h)]
  refine sk_yes a1 (sk_need a2 (sk_need a3 (sk_need a3 ?_)))
  rw [siI_eq (by omega), idx_nat, idx_nat]
  rw [idx_nat] at b
  refine sk_need b.2.1 (sk_need b.2.2 (sk_need b.2.2 (sk_either (fun h1 => sk_either (fun h2 => hlf _ ?_) fun h2 => hlf _ ?_) fun h1 => hlf _ ?_)))
  · unfold clE; rw [h1, h2]
  · unfold clE; rw [h1, h2]
  · unfold clE; rw [h1]
noncomputable def xcqOS : Sk ((X × St) ⊕ (List Bool × St)) := .node (cheadE n != 0) (.leaf (.inl (.ret, xcqX n z1 z2 (cheadE n)))) (.leaf (.inr (pathF Tryz.f32, xcqH n z1 z2 ((0 : Nat) : Int))))
theorem xcqO_into : xcqO n z1 z2 = into (xcqO n z1 z2) (xcqOS n z1 z2) := by kernel_rfl
theorem xcqO_fits : fits (xcqO n z1 z2) (xcqOS n z1 z2) = true := by kernel_rfl
theorem xcqP_into : xcqP n z1 z2 (.exit 0) 0 = into (xcqP n z1 z2 (.exit 0) 0) (.leaf (.inl (.ret, xcqX n z1 z2 0))) := by kernel_rfl
theorem xcqP_fits : fits (xcqP n z1 z2 (.exit 0) 0) (.leaf (.inl (.ret, xcqX n z1 z2 0))) = true := by kernel_rfl
theorem xcqQ_into (e : Int) : xcqP n z1 z2 .ret e = into (xcqP n z1 z2 .ret e) (.leaf (.inl (.ret, xcqX n z1 z2 e))) := by kernel_rfl
theorem xcqQ_fits (e : Int) : fits (xcqP n z1 z2 .ret e) (.leaf (.inl (.ret, xcqX n z1 z2 e))) = true := by kernel_rfl
theorem xcq_left (e : Int) : Left2 Tryz.prog Tryz.f32 (cycHp n z1 z2) (int e) (cycHp n z1 z2) (.ret, xcqX n z1 z2 e) := left_of (b := true) (by kernel_rfl)
theorem xcq_call : CallAt Tryz.prog 32 [slT 0 2 n] (cycHp n z1 z2) (int (clsE n z1 z2)) (cycHp n z1 z2) := by
  refine call_base (rec := clRe0) (recT_ok tbH0_ok) (c := bodyOf Tryz.f32) (fn := Tryz.f32) Tryz.func32 (by kernel_rfl) (by kernel_rfl) (false, true) 1 [0, 2, 4] [2] (sB := xcqB n z1 z2) (by kernel_rfl) (t := xcqO n z1 z2) (by delta xcqO; rfl) (all_into (xcqO_into n z1 z2) (xcqO_fits n z1 z2) (SkLeads.all ?_))
  unfold clsE
  refine sk_either (fun g0 => ?_) fun g0 => ?_
  · rw [g0]; exact sk_leaf (cutF_dn (xcq_left n z1 z2 _))
  · rw [g0]
    have hk : n ≤ 1000000 := by
      obtain ⟨_, h⟩ := first0 (ne0 g0)
      obtain ⟨h, _⟩ := first0 h
      have := errIf0 (by decide) h
      simp only [decide_eq_false_iff_not] at this
      omega
    refine sk_leaf ⟨_, true, [], [2], xcq_loop n z1 z2 hk, fun q hq => Leads.all ?_⟩
    subst hq
    unfold finT
    rw [Nat.sub_zero]
    cases fnz (clE z1 z2) n 0 with
    | some e => exact leads_in (show _ = xcqP n z1 z2 .ret e by delta xcqP; rfl) (xcqQ_into n z1 z2 e) (xcqQ_fits n z1 z2 e) (sk_leaf (cutF_dn (xcq_left n z1 z2 e)))
    | none => exact leads_in (show _ = xcqP n z1 z2 (.exit 0) 0 by delta xcqP; rfl) (xcqP_into n z1 z2) (xcqP_fits n z1 z2) (sk_leaf (cutF_dn (xcq_left n z1 z2 0)))
theorem xcq_nil : CallAt Tryz.prog 32 [nilA] (hpT [] [] []) (int (clsE 0 z1 z2)) (hpT [] [] []) := call_ev tbH0_ok (by kernel_rfl)
end
def clsF : FT
  | [], [], [], [⟨_, n, [.int .i64 z1, .int .i64 z2]⟩] => .leaf (int (clsE n z1 z2), [])
  | _, _, _, _ => .fail 393
def clsSp : Spec := fun args h => specT [(false, [.t [.int .i64 fun _ => 0, .int .i64 fun _ => 0]])] [] clsF args h
theorem cls_any {f : FuncId} (h0 : ∀ z1 z2, CallAt Tryz.prog f [nilA] (hpT [] [] []) (int (clsE 0 z1 z2)) (hpT [] [] [])) (h1 : ∀ n z1 z2, CallAt Tryz.prog f [slT 0 2 n] (cycHp n z1 z2) (int (clsE n z1 z2)) (cycHp n z1 z2)) : SpecOk Tryz.prog f clsSp := by
  refine specT_ok rfl (by decide) fun l m n ts v news hl hm hn ht hnil hF => ?_
  unfold clsF at hF
  split at hF
  · rename_i id n z1 z2
    simp only [Tree.run, Option.some.injEq, Prod.mk.injEq] at hF
    obtain ⟨rfl, rfl⟩ := hF
    cases id with
    | none =>
      have h00 : n = 0 := hnil _ (List.mem_singleton.2 rfl) rfl
      subst h00
      exact h0 z1 z2
    | some id => exact h1 n z1 z2
  · cases hF
theorem clsp_ok : SpecOk Tryz.prog 37 clsSp := cls_any (fun z1 z2 => xcp_nil z1 z2) fun n z1 z2 => xcp_call n z1 z2
theorem clsq_ok : SpecOk Tryz.prog 32 clsSp := cls_any (fun z1 z2 => xcq_nil z1 z2) fun n z1 z2 => xcq_call n z1 z2
def tbH1 : List (FuncId × Spec) := (37, clsSp) :: (32, clsSp) :: tbH0
theorem tbH1_ok : TabOk Tryz.prog (tabOf tbH1) := tab_cons (tab_cons tbH0_ok clsq_ok) clsp_ok
end Go.Ev

namespace Go.Ev
open Go Go.Proofs
set_option maxRecDepth 100000

/-- the last one of so many classes with at most a range -/
def clsK (z1 : Nat → Int) (s : Int) : Nat → Int
  | 0 => -1
  | k + 1 => match decide (z1 k ≤ s) with
    | true => (k : Int)
    | false => clsK z1 s k
theorem clsK_bd (z1 : Nat → Int) (s : Int) : ∀ n, -1 ≤ clsK z1 s n ∧ clsK z1 s n < n
  | 0 => ⟨Int.le_refl _, by show (-1 : Int) < ((0 : Nat) : Int); omega⟩
  | k + 1 => by
    obtain ⟨a, b⟩ := clsK_bd z1 s k
    unfold clsK
    split <;> constructor <;> omega
noncomputable def clRe1 : Code → St → Tree (X × St) := recT Tryz.prog (tabOf tbH1)

/-! ### spillage/salt.class -/
section
variable (n : Nat) (s : Int) (z1 z2 : Nat → Int)
def xipN (env : List (Nat × A)) : St := { stN 22 (envL env) (bsS [⟨some 0, n, [.int .i64 z1, .int .i64 z2]⟩] []) [] [] with keep := true }
def xipB : St := { baseB 22 [slT 0 2 n, int s] (cycHp n z1 z2) with keep := true }
def xipH (o i : Int) : St := xipN n z1 z2 [(1, int s), (5, int o), (8, slT 0 2 n), (9, int n), (10, int i)]
def xipX (o : Int) : St := xipN n z1 z2 [(5, int o)]
noncomputable def xipT (k : Nat) : Tree (X × St) := (clRe1 (loopF Tryz.f97) (xipH n s z1 z2 (clsK z1 s k) (k : Int))).bind (canonT [1, 5, 8, 9, 10] [5] (xipB n s z1 z2))
noncomputable def xipSk (k : Nat) : Sk (X × St) := .node (decide ((k : Int) < (n : Int))) (.need (decide (0 ≤ (k : Int)) && decide ((k : Int) < (n : Int))) ((.need (Nat.blt (0 + Int.toNat (k : Int)) n) (.need (Nat.blt (0 + Int.toNat (k : Int)) n) (.node (decide (z1 (0 + Int.toNat (k : Int)) ≤ s)) (.leaf (.normal, xipH n s z1 z2 (k : Int) (IntKind.i64.wrap ((k : Int) + 1)))) (.leaf (.normal, xipH n s z1 z2 (clsK z1 s k) (IntKind.i64.wrap ((k : Int) + 1))))))))) (.leaf (.exit 0, xipX n z1 z2 (clsK z1 s k)))
theorem xip_into (k : Nat) : xipT n s z1 z2 k = into (xipT n s z1 z2 k) (xipSk n s z1 z2 k) := by kernel_rfl
theorem xip_fits (k : Nat) : fits (xipT n s z1 z2 k) (xipSk n s z1 z2 k) = true := by kernel_rfl
theorem xip_loop (hn : n ≤ 1000000) : ComesF Tryz.prog (.loop (loopF Tryz.f97)) (xipB n s z1 z2) (xipH n s z1 z2 (clsK z1 s 0) ((0 : Nat) : Int)) fun q => q = (.exit 0, xipX n z1 z2 (clsK z1 s n)) := by
  refine loop_count (recT_ok tbH1_ok) rfl [1, 5, 8, 9, 10] [5] (fun k => xipH n s z1 z2 (clsK z1 s k) (k : Int)) (fun _ => (.exit 0, xipX n z1 z2 (clsK z1 s n))) n (xipT n s z1 z2) (xipSk n s z1 z2) (fun _ => rfl) (xip_into n s z1 z2) (xip_fits n s z1 z2) (fun k hk => ?_) (sk_no (rnd_end n) (sk_leaf rfl))
  obtain ⟨a1, a2, a3⟩ := rnd_lt hk
  refine sk_yes a1 (sk_need a2 (sk_need a3 (sk_need a3 (?_))))
  rw [idx_nat]
  have hc : clsK z1 s (k + 1) = match decide (z1 k ≤ s) with | true => (k : Int) | false => clsK z1 s k := rfl
  refine sk_either (fun h => sk_leaf (rnd_next ?_ rfl)) fun h => sk_leaf (rnd_next ?_ rfl)
  · rw [hc, h, wrap_succ (by omega)]; exact St.Le.refl _
  · rw [hc, h, wrap_succ (by omega)]; exact St.Le.refl _
def xipR (o : Int) : St := xipN n z1 z2 [(4, int o)]
theorem xip_call (hn : n ≤ 1000000) : CallAt Tryz.prog 97 [slT 0 2 n, int s] (cycHp n z1 z2) (int (clsK z1 s n)) (cycHp n z1 z2) := by
  refine call_base (rec := clRe1) (recT_ok tbH1_ok) (c := bodyOf Tryz.f97) (fn := Tryz.f97) Tryz.func97 (by kernel_rfl) (by kernel_rfl) (false, true) 1 [1, 5, 8, 9, 10] [4] (sB := xipB n s z1 z2) (by kernel_rfl) (t := .leaf (.inr (pathF Tryz.f97, xipH n s z1 z2 (clsK z1 s 0) ((0 : Nat) : Int)))) (by kernel_rfl) ?_
  refine cutF_stop _ true [] [4] (xip_loop n s z1 z2 hn) fun q hq => ?_
  subst hq
  exact (congrArg (Tree.All _) (show evO2 clRe1 true (bodyOf Tryz.f97) (pathF Tryz.f97) [] [4] (xipB n s z1 z2) (.exit 0, xipX n z1 z2 (clsK z1 s n)) = .leaf (.inl (.ret, xipR n z1 z2 (clsK z1 s n))) by kernel_rfl)).mpr (cutF_done (left_of (b := true) (by kernel_rfl)))
theorem xip_nil : CallAt Tryz.prog 97 [nilA, int s] (hpT [] [] []) (int (clsK z1 s 0)) (hpT [] [] []) := call_ev tbH1_ok (by kernel_rfl)
end

/-! ### spillage/spillageref08.Index -/
section
variable (n : Nat) (s : Int) (z1 z2 : Nat → Int)
def xiqN (env : List (Nat × A)) : St := { stN 22 (envL env) (bsS [⟨some 0, n, [.int .i64 z1, .int .i64 z2]⟩] []) [] [] with keep := true }
def xiqB : St := { baseB 22 [slT 0 2 n, int s] (cycHp n z1 z2) with keep := true }
def xiqH (o i : Int) : St := xiqN n z1 z2 [(0, slT 0 2 n), (1, int s), (5, int o), (6, int i)]
def xiqX (o : Int) : St := xiqN n z1 z2 [(5, int o)]
noncomputable def xiqT (k : Nat) : Tree (X × St) := (clRe1 (loopF Tryz.f101) (xiqH n s z1 z2 (clsK z1 s k) (k : Int))).bind (canonT [0, 1, 5, 6] [5] (xiqB n s z1 z2))
noncomputable def xiqSk (k : Nat) : Sk (X × St) := .node (decide ((k : Int) < (n : Int))) (.need (decide (0 ≤ (k : Int)) && decide ((k : Int) < (n : Int))) ((.need (Nat.blt (0 + Int.toNat (k : Int)) n) (.node (decide (z1 (0 + Int.toNat (k : Int)) ≤ s)) (.leaf (.normal, xiqH n s z1 z2 (k : Int) (IntKind.i64.wrap ((k : Int) + 1)))) (.leaf (.normal, xiqH n s z1 z2 (clsK z1 s k) (IntKind.i64.wrap ((k : Int) + 1)))))))) (.leaf (.exit 0, xiqX n z1 z2 (clsK z1 s k)))
theorem xiq_into (k : Nat) : xiqT n s z1 z2 k = into (xiqT n s z1 z2 k) (xiqSk n s z1 z2 k) := by kernel_rfl
theorem xiq_fits (k : Nat) : fits (xiqT n s z1 z2 k) (xiqSk n s z1 z2 k) = true := by kernel_rfl
theorem xiq_loop (hn : n ≤ 1000000) : ComesF Tryz.prog (.loop (loopF Tryz.f101)) (xiqB n s z1 z2) (xiqH n s z1 z2 (clsK z1 s 0) ((0 : Nat) : Int)) fun q => q = (.exit 0, xiqX n z1 z2 (clsK z1 s n)) := by
  refine loop_count (recT_ok tbH1_ok) rfl [0, 1, 5, 6] [5] (fun k => xiqH n s z1 z2 (clsK z1 s k) (k : Int)) (fun _ => (.exit 0, xiqX n z1 z2 (clsK z1 s n))) n (xiqT n s z1 z2) (xiqSk n s z1 z2) (fun _ => rfl) (xiq_into n s z1 z2) (xiq_fits n s z1 z2) (fun k hk => ?_) (sk_no (rnd_end n) (sk_leaf rfl))
  obtain ⟨a1, a2, a3⟩ := rnd_lt hk
  refine sk_yes a1 (sk_need a2 (sk_need a3 (?_)))
  rw [idx_nat]
  have hc : clsK z1 s (k + 1) = match decide (z1 k ≤ s) with | true => (k : Int) | false => clsK z1 s k := rfl
  refine sk_either (fun h => sk_leaf (rnd_next ?_ rfl)) fun h => sk_leaf (rnd_next ?_ rfl)
  · rw [hc, h, wrap_succ (by omega)]; exact St.Le.refl _
  · rw [hc, h, wrap_succ (by omega)]; exact St.Le.refl _
def xiqR (o : Int) : St := xiqN n z1 z2 [(4, int o)]
theorem xiq_call (hn : n ≤ 1000000) : CallAt Tryz.prog 101 [slT 0 2 n, int s] (cycHp n z1 z2) (int (clsK z1 s n)) (cycHp n z1 z2) := by
  refine call_base (rec := clRe1) (recT_ok tbH1_ok) (c := bodyOf Tryz.f101) (fn := Tryz.f101) Tryz.func101 (by kernel_rfl) (by kernel_rfl) (false, true) 1 [0, 1, 5, 6] [4] (sB := xiqB n s z1 z2) (by kernel_rfl) (t := .leaf (.inr (pathF Tryz.f101, xiqH n s z1 z2 (clsK z1 s 0) ((0 : Nat) : Int)))) (by kernel_rfl) ?_
  refine cutF_stop _ true [] [4] (xiq_loop n s z1 z2 hn) fun q hq => ?_
  subst hq
  exact (congrArg (Tree.All _) (show evO2 clRe1 true (bodyOf Tryz.f101) (pathF Tryz.f101) [] [4] (xiqB n s z1 z2) (.exit 0, xiqX n z1 z2 (clsK z1 s n)) = .leaf (.inl (.ret, xiqR n z1 z2 (clsK z1 s n))) by kernel_rfl)).mpr (cutF_done (left_of (b := true) (by kernel_rfl)))
theorem xiq_nil : CallAt Tryz.prog 101 [nilA, int s] (hpT [] [] []) (int (clsK z1 s 0)) (hpT [] [] []) := call_ev tbH1_ok (by kernel_rfl)
end
def idxF : FT
  | [s], [], [], [⟨_, n, [.int .i64 z1, .int .i64 _]⟩] => .need (Nat.ble n 1000000) (.leaf (int (clsK z1 s n), []))
  | _, _, _, _ => .fail 394
def idxSp : Spec := fun args h => specT [(false, [.t [.int .i64 fun _ => 0, .int .i64 fun _ => 0]]), (false, [.i])] [] idxF args h
theorem idx_any {f : FuncId} (h0 : ∀ s z1, CallAt Tryz.prog f [nilA, int s] (hpT [] [] []) (int (clsK z1 s 0)) (hpT [] [] [])) (h1 : ∀ n s z1 z2, n ≤ 1000000 → CallAt Tryz.prog f [slT 0 2 n, int s] (cycHp n z1 z2) (int (clsK z1 s n)) (cycHp n z1 z2)) : SpecOk Tryz.prog f idxSp := by
  refine specT_ok rfl (by decide) fun l m n ts v news hl hm hn ht hnil hF => ?_
  unfold idxF at hF
  split at hF
  · rename_i s id n z1 z2
    obtain ⟨hok, hF⟩ := Tree.need_some hF
    have hok := Nat.le_of_ble_eq_true hok
    simp only [Tree.run, Option.some.injEq, Prod.mk.injEq] at hF
    obtain ⟨rfl, rfl⟩ := hF
    cases id with
    | none =>
      have h00 : n = 0 := hnil _ (List.mem_singleton.2 rfl) rfl
      subst h00
      exact h0 s z1
    | some id => exact h1 n s z1 z2 hok
  · cases hF
theorem idxp_ok : SpecOk Tryz.prog 97 idxSp := idx_any (fun s z1 => xip_nil s z1) fun n s z1 z2 hn => xip_call n s z1 z2 hn
theorem idxq_ok : SpecOk Tryz.prog 101 idxSp := idx_any (fun s z1 => xiq_nil s z1) fun n s z1 z2 hn => xiq_call n s z1 z2 hn
def tbH2 : List (FuncId × Spec) := (97, idxSp) :: (101, idxSp) :: tbH1
theorem tbH2_ok : TabOk Tryz.prog (tabOf tbH2) := tab_cons (tab_cons tbH1_ok idxq_ok) idxp_ok
end Go.Ev

namespace Go.Ev
open Go Go.Proofs
set_option maxRecDepth 100000

/-! ### spillage/spillageref01.SameInts -/
section
variable (n m : Nat) (p r : Nat → Int)
def smiTs : List TA := [⟨some 0, n, [.int .i64 p]⟩, ⟨some 1, m, [.int .i64 r]⟩]
def smiHp : Hp := hpT (smiTs n m p r) [] []
def smiB : St := { baseB 26 [slT 0 1 n, slT 1 1 m] (smiHp n m p r) with keep := true }
def smiN (env : List (Nat × A)) : St := { stN 26 (envL env) (bsS (smiTs n m p r) []) [] [] with keep := true }
def smiH (i : Int) : St := smiN n m p r [(0, slT 0 1 n), (1, slT 1 1 m), (4, boo false), (5, int i)]
def smiX (b : Bool) : St := smiN n m p r [(4, boo b)]
noncomputable def smiT (k : Nat) : Tree (X × St) := (recT Tryz.prog noTab (loopF Tryz.f38) (smiH n m p r (k : Int))).bind (canonT [0, 1, 4, 5] [4] (smiB n m p r))
noncomputable def smiO : Tree ((X × St) ⊕ (List Bool × St)) := evO (recT Tryz.prog noTab) (bodyOf Tryz.f38) [0, 1, 4, 5] [4] (smiB n m p r)
noncomputable def smiP (x : X) : Tree ((X × St) ⊕ (List Bool × St)) := evO2 (recT Tryz.prog noTab) true (bodyOf Tryz.f38) (pathF Tryz.f38) [] [4] (smiB n m p r) (x, smiX n m p r false)
def smiD (k : Nat) : Bool := p k != r k
def smiG (k : Nat) : Int := match smiD p r k with | true => 1 | false => 0
/-- are two lists alike -/
def smiV : Bool := match (n : Int) != (m : Int) with
  | true => false
  | false => match fnz (smiG p r) n 0 with
    | some _ => false
    | none => true
noncomputable def smiSk (k : Nat) : Sk (X × St) := .node (decide ((k : Int) < (n : Int))) (.need (decide (0 ≤ (k : Int)) && decide ((k : Int) < (n : Int))) (.need (Nat.blt (0 + Int.toNat (k : Int)) n) (.need (decide (0 ≤ (k : Int)) && decide ((k : Int) < (m : Int))) (.need (Nat.blt (0 + Int.toNat (k : Int)) m) (.node (smiD p r (0 + Int.toNat (k : Int))) (.leaf (.ret, smiX n m p r false)) (.leaf (.normal, smiH n m p r (IntKind.i64.wrap ((k : Int) + 1)))))))))
  (.leaf (.exit 0, smiX n m p r false))
theorem smi_into (k : Nat) : smiT n m p r k = into (smiT n m p r k) (smiSk n m p r k) := by kernel_rfl
theorem smi_fits (k : Nat) : fits (smiT n m p r k) (smiSk n m p r k) = true := by kernel_rfl
theorem smi_loop (hn : n ≤ 1000000) (hnm : n = m) : ComesF Tryz.prog (.loop (loopF Tryz.f38)) (smiB n m p r) (smiH n m p r ((0 : Nat) : Int)) fun q => q = finT (fun _ => smiX n m p r false) n (smiG p r) 0 := by
  refine loop_count (recT_ok noTab_ok) rfl [0, 1, 4, 5] [4] (fun k => smiH n m p r (k : Int)) (finT (fun _ => smiX n m p r false) n (smiG p r)) n (smiT n m p r) (smiSk n m p r) (fun _ => rfl) (smi_into n m p r) (smi_fits n m p r) (fun k hk => ?_) (sk_no (rnd_end n) (sk_leaf (finT_end (Y := fun _ => smiX n m p r false) (n := n) (g := smiG p r)).symm))
  obtain ⟨a1, a2, a3⟩ := rnd_lt hk
  obtain ⟨b1, b2, b3⟩ := rnd_lt (show k < m by omega)
  refine sk_yes a1 (sk_need a2 (sk_need a3 (sk_need b2 (sk_need b3 (?_)))))
  rw [idx_nat]
  refine sk_either (fun h1 => sk_leaf (rnd_ret ?_)) fun h1 => sk_leaf (rnd_next (by rw [wrap_succ (by omega)]; exact St.Le.refl _) (finT_next hk ?_))
  · have e : smiG p r k = 1 := by unfold smiG; rw [h1]
    rw [finT_ret hk (by rw [e]; decide)]
  · unfold smiG; rw [h1]
noncomputable def smiOS : Sk ((X × St) ⊕ (List Bool × St)) := .node ((n : Int) != (m : Int)) (.leaf (.inl (.ret, smiX n m p r false))) (.leaf (.inr (pathF Tryz.f38, smiH n m p r ((0 : Nat) : Int))))
theorem smiO_into : smiO n m p r = into (smiO n m p r) (smiOS n m p r) := by kernel_rfl
theorem smiO_fits : fits (smiO n m p r) (smiOS n m p r) = true := by kernel_rfl
theorem smiP_into : smiP n m p r (.exit 0) = into (smiP n m p r (.exit 0)) (.leaf (.inl (.ret, smiX n m p r true))) := by kernel_rfl
theorem smiP_fits : fits (smiP n m p r (.exit 0)) (.leaf (.inl (.ret, smiX n m p r true))) = true := by kernel_rfl
theorem smiQ_into : smiP n m p r .ret = into (smiP n m p r .ret) (.leaf (.inl (.ret, smiX n m p r false))) := by kernel_rfl
theorem smiQ_fits : fits (smiP n m p r .ret) (.leaf (.inl (.ret, smiX n m p r false))) = true := by kernel_rfl
theorem smi_left (b : Bool) : Left2 Tryz.prog Tryz.f38 (smiHp n m p r) (boo b) (smiHp n m p r) (.ret, smiX n m p r b) := left_of (b := true) (by kernel_rfl)
theorem smi_call (hn : n ≤ 1000000) : CallAt Tryz.prog 38 [slT 0 1 n, slT 1 1 m] (smiHp n m p r) (boo (smiV n m p r)) (smiHp n m p r) := by
  refine call_base (recT_ok noTab_ok) (c := bodyOf Tryz.f38) (fn := Tryz.f38) Tryz.func38 (by kernel_rfl) (by kernel_rfl) (false, true) 1 [0, 1, 4, 5] [4] (sB := smiB n m p r) (by kernel_rfl) (t := smiO n m p r) (by delta smiO; rfl) (all_into (smiO_into n m p r) (smiO_fits n m p r) (SkLeads.all ?_))
  unfold smiV
  refine sk_either (fun h2 => sk_leaf (cutF_dn ?_)) fun h2 => ?_
  · rw [h2]; exact smi_left n m p r false
  · refine sk_leaf ⟨_, true, [], [4], smi_loop n m p r hn (Int.ofNat.inj (by simpa using h2)), fun q hq => Leads.all ?_⟩
    subst hq
    rw [h2]
    unfold finT
    rw [Nat.sub_zero]
    cases fnz (smiG p r) n 0 with
    | some e => exact leads_in (show _ = smiP n m p r .ret by delta smiP; rfl) (smiQ_into n m p r) (smiQ_fits n m p r) (sk_leaf (cutF_dn (smi_left n m p r false)))
    | none => exact leads_in (show _ = smiP n m p r (.exit 0) by delta smiP; rfl) (smiP_into n m p r) (smiP_fits n m p r) (sk_leaf (cutF_dn (smi_left n m p r true)))
theorem smi_ns : CallAt Tryz.prog 38 [nilA, slT 0 1 m] (hpT [⟨some 0, m, [.int .i64 r]⟩] [] []) (boo (smiV 0 m p r)) (hpT [⟨some 0, m, [.int .i64 r]⟩] [] []) := by
  refine call_sk noTab_ok Tryz.func38 (by kernel_rfl) (false, true) (by kernel_rfl) (S := .node (((0 : Nat) : Int) != (m : Int)) (lfT (hpT [⟨some 0, m, [.int .i64 r]⟩] [] []) false) (.ff (lfT (hpT [⟨some 0, m, [.int .i64 r]⟩] [] []) true))) (by kernel_rfl) (by kernel_rfl) (SkLeads.all ?_)
  unfold smiV
  refine sk_either (fun g2 => ?_) fun g2 => ?_
  · rw [g2]; exact sk_leaf rfl
  · rw [g2]; exact sk_ff (sk_leaf rfl)
theorem smi_sn : CallAt Tryz.prog 38 [slT 0 1 n, nilA] (hpT [⟨some 0, n, [.int .i64 p]⟩] [] []) (boo (smiV n 0 p r)) (hpT [⟨some 0, n, [.int .i64 p]⟩] [] []) := by
  cases n with
  | zero => exact call_sk noTab_ok Tryz.func38 (by kernel_rfl) (false, true) (by kernel_rfl) (S := .ff (.ff (lfT (hpT [⟨some 0, 0, [.int .i64 p]⟩] [] []) true))) (by kernel_rfl) (by kernel_rfl) (SkLeads.all (sk_ff (sk_ff (sk_leaf rfl))))
  | succ k => exact call_sk noTab_ok Tryz.func38 (by kernel_rfl) (false, true) (by kernel_rfl) (S := .tt (lfT (hpT [⟨some 0, k + 1, [.int .i64 p]⟩] [] []) false)) (by kernel_rfl) (by kernel_rfl) (SkLeads.all (sk_tt (sk_leaf rfl)))
theorem smi_nn : CallAt Tryz.prog 38 [nilA, nilA] (hpT [] [] []) (boo (smiV 0 0 p r)) (hpT [] [] []) :=
  call_sk noTab_ok Tryz.func38 (by kernel_rfl) (false, true) (by kernel_rfl) (S := .ff (.ff (lfT (hpT [] [] []) true))) (by kernel_rfl) (by kernel_rfl) (SkLeads.all (sk_ff (sk_ff (sk_leaf rfl))))
end
def smiF : FT
  | [], [], [], [⟨_, n, [.int .i64 p]⟩, ⟨_, m, [.int .i64 r]⟩] => .need (Nat.ble n 1000000) (.leaf (boo (smiV n m p r), []))
  | _, _, _, _ => .fail 395
def smiSp : Spec := fun args h => specT [(false, [.t [.int .i64 fun _ => 0]]), (false, [.t [.int .i64 fun _ => 0]])] [] smiF args h
theorem smi_ok : SpecOk Tryz.prog 38 smiSp := by
  refine specT_ok rfl (by decide) fun l m n ts v news hl hm hn ht hnil hF => ?_
  unfold smiF at hF
  split at hF
  · rename_i i n p j m r
    obtain ⟨hok, hF⟩ := Tree.need_some hF
    have hok := Nat.le_of_ble_eq_true hok
    simp only [Tree.run, Option.some.injEq, Prod.mk.injEq] at hF
    obtain ⟨rfl, rfl⟩ := hF
    cases i with
    | none =>
      have h0 : n = 0 := hnil _ List.mem_cons_self rfl
      subst h0
      cases j with
      | none =>
        have h0 : m = 0 := hnil _ (List.mem_cons_of_mem _ List.mem_cons_self) rfl
        subst h0
        exact smi_nn p r
      | some j => exact smi_ns m p r
    | some i =>
      cases j with
      | none =>
        have h0 : m = 0 := hnil _ (List.mem_cons_of_mem _ List.mem_cons_self) rfl
        subst h0
        exact smi_sn n p r
      | some j => exact smi_call n m p r hok
  · cases hF

/-! ### spillage/spillageref08.SameCycles -/
section
variable (n m : Nat) (p p2 r r2 : Nat → Int)
def smyTs : List TA := [⟨some 0, n, [.int .i64 p, .int .i64 p2]⟩, ⟨some 1, m, [.int .i64 r, .int .i64 r2]⟩]
def smyHp : Hp := hpT (smyTs n m p p2 r r2) [] []
def smyB : St := { baseB 26 [slT 0 2 n, slT 1 2 m] (smyHp n m p p2 r r2) with keep := true }
def smyN (env : List (Nat × A)) : St := { stN 26 (envL env) (bsS (smyTs n m p p2 r r2) []) [] [] with keep := true }
def smyH (i : Int) : St := smyN n m p p2 r r2 [(0, slT 0 2 n), (1, slT 1 2 m), (4, boo false), (5, int i)]
def smyX (b : Bool) : St := smyN n m p p2 r r2 [(4, boo b)]
noncomputable def smyT (k : Nat) : Tree (X × St) := (recT Tryz.prog noTab (loopF Tryz.f39) (smyH n m p p2 r r2 (k : Int))).bind (canonT [0, 1, 4, 5] [4] (smyB n m p p2 r r2))
noncomputable def smyO : Tree ((X × St) ⊕ (List Bool × St)) := evO (recT Tryz.prog noTab) (bodyOf Tryz.f39) [0, 1, 4, 5] [4] (smyB n m p p2 r r2)
noncomputable def smyP (x : X) : Tree ((X × St) ⊕ (List Bool × St)) := evO2 (recT Tryz.prog noTab) true (bodyOf Tryz.f39) (pathF Tryz.f39) [] [4] (smyB n m p p2 r r2) (x, smyX n m p p2 r r2 false)
def smyD (k : Nat) : Bool := !(p k == r k && (p2 k == r2 k && true))
def smyG (k : Nat) : Int := match smyD p p2 r r2 k with | true => 1 | false => 0
/-- are two lists alike -/
def smyV : Bool := match (n : Int) != (m : Int) with
  | true => false
  | false => match fnz (smyG p p2 r r2) n 0 with
    | some _ => false
    | none => true
noncomputable def smySk (k : Nat) : Sk (X × St) := .node (decide ((k : Int) < (n : Int))) (.need (decide (0 ≤ (k : Int)) && decide ((k : Int) < (n : Int))) (.need (Nat.blt (0 + Int.toNat (k : Int)) n) (.need (Nat.blt (0 + Int.toNat (k : Int)) n) (.need (decide (0 ≤ (k : Int)) && decide ((k : Int) < (m : Int))) (.need (Nat.blt (0 + Int.toNat (k : Int)) m) (.need (Nat.blt (0 + Int.toNat (k : Int)) m) (.node (smyD p p2 r r2 (0 + Int.toNat (k : Int))) (.leaf (.ret, smyX n m p p2 r r2 false)) (.leaf (.normal, smyH n m p p2 r r2 (IntKind.i64.wrap ((k : Int) + 1)))))))))))
  (.leaf (.exit 0, smyX n m p p2 r r2 false))
theorem smy_into (k : Nat) : smyT n m p p2 r r2 k = into (smyT n m p p2 r r2 k) (smySk n m p p2 r r2 k) := by kernel_rfl
theorem smy_fits (k : Nat) : fits (smyT n m p p2 r r2 k) (smySk n m p p2 r r2 k) = true := by kernel_rfl
theorem smy_loop (hn : n ≤ 1000000) (hnm : n = m) : ComesF Tryz.prog (.loop (loopF Tryz.f39)) (smyB n m p p2 r r2) (smyH n m p p2 r r2 ((0 : Nat) : Int)) fun q => q = finT (fun _ => smyX n m p p2 r r2 false) n (smyG p p2 r r2) 0 := by
  refine loop_count (recT_ok noTab_ok) rfl [0, 1, 4, 5] [4] (fun k => smyH n m p p2 r r2 (k : Int)) (finT (fun _ => smyX n m p p2 r r2 false) n (smyG p p2 r r2)) n (smyT n m p p2 r r2) (smySk n m p p2 r r2) (fun _ => rfl) (smy_into n m p p2 r r2) (smy_fits n m p p2 r r2) (fun k hk => ?_) (sk_no (rnd_end n) (sk_leaf (finT_end (Y := fun _ => smyX n m p p2 r r2 false) (n := n) (g := smyG p p2 r r2)).symm))
  obtain ⟨a1, a2, a3⟩ := rnd_lt hk
  obtain ⟨b1, b2, b3⟩ := rnd_lt (show k < m by omega)
  refine sk_yes a1 (sk_need a2 (sk_need a3 (sk_need a3 (sk_need b2 (sk_need b3 (sk_need b3 (?_)))))))
  rw [idx_nat]
  refine sk_either (fun h1 => sk_leaf (rnd_ret ?_)) fun h1 => sk_leaf (rnd_next (by rw [wrap_succ (by omega)]; exact St.Le.refl _) (finT_next hk ?_))
  · have e : smyG p p2 r r2 k = 1 := by unfold smyG; rw [h1]
    rw [finT_ret hk (by rw [e]; decide)]
  · unfold smyG; rw [h1]
noncomputable def smyOS : Sk ((X × St) ⊕ (List Bool × St)) := .node ((n : Int) != (m : Int)) (.leaf (.inl (.ret, smyX n m p p2 r r2 false))) (.leaf (.inr (pathF Tryz.f39, smyH n m p p2 r r2 ((0 : Nat) : Int))))
theorem smyO_into : smyO n m p p2 r r2 = into (smyO n m p p2 r r2) (smyOS n m p p2 r r2) := by kernel_rfl
theorem smyO_fits : fits (smyO n m p p2 r r2) (smyOS n m p p2 r r2) = true := by kernel_rfl
theorem smyP_into : smyP n m p p2 r r2 (.exit 0) = into (smyP n m p p2 r r2 (.exit 0)) (.leaf (.inl (.ret, smyX n m p p2 r r2 true))) := by kernel_rfl
theorem smyP_fits : fits (smyP n m p p2 r r2 (.exit 0)) (.leaf (.inl (.ret, smyX n m p p2 r r2 true))) = true := by kernel_rfl
theorem smyQ_into : smyP n m p p2 r r2 .ret = into (smyP n m p p2 r r2 .ret) (.leaf (.inl (.ret, smyX n m p p2 r r2 false))) := by kernel_rfl
theorem smyQ_fits : fits (smyP n m p p2 r r2 .ret) (.leaf (.inl (.ret, smyX n m p p2 r r2 false))) = true := by kernel_rfl
theorem smy_left (b : Bool) : Left2 Tryz.prog Tryz.f39 (smyHp n m p p2 r r2) (boo b) (smyHp n m p p2 r r2) (.ret, smyX n m p p2 r r2 b) := left_of (b := true) (by kernel_rfl)
theorem smy_call (hn : n ≤ 1000000) : CallAt Tryz.prog 39 [slT 0 2 n, slT 1 2 m] (smyHp n m p p2 r r2) (boo (smyV n m p p2 r r2)) (smyHp n m p p2 r r2) := by
  refine call_base (recT_ok noTab_ok) (c := bodyOf Tryz.f39) (fn := Tryz.f39) Tryz.func39 (by kernel_rfl) (by kernel_rfl) (false, true) 1 [0, 1, 4, 5] [4] (sB := smyB n m p p2 r r2) (by kernel_rfl) (t := smyO n m p p2 r r2) (by delta smyO; rfl) (all_into (smyO_into n m p p2 r r2) (smyO_fits n m p p2 r r2) (SkLeads.all ?_))
  unfold smyV
  refine sk_either (fun h2 => sk_leaf (cutF_dn ?_)) fun h2 => ?_
  · rw [h2]; exact smy_left n m p p2 r r2 false
  · refine sk_leaf ⟨_, true, [], [4], smy_loop n m p p2 r r2 hn (Int.ofNat.inj (by simpa using h2)), fun q hq => Leads.all ?_⟩
    subst hq
    rw [h2]
    unfold finT
    rw [Nat.sub_zero]
    cases fnz (smyG p p2 r r2) n 0 with
    | some e => exact leads_in (show _ = smyP n m p p2 r r2 .ret by delta smyP; rfl) (smyQ_into n m p p2 r r2) (smyQ_fits n m p p2 r r2) (sk_leaf (cutF_dn (smy_left n m p p2 r r2 false)))
    | none => exact leads_in (show _ = smyP n m p p2 r r2 (.exit 0) by delta smyP; rfl) (smyP_into n m p p2 r r2) (smyP_fits n m p p2 r r2) (sk_leaf (cutF_dn (smy_left n m p p2 r r2 true)))
theorem smy_ns : CallAt Tryz.prog 39 [nilA, slT 0 2 m] (hpT [⟨some 0, m, [.int .i64 r, .int .i64 r2]⟩] [] []) (boo (smyV 0 m p p2 r r2)) (hpT [⟨some 0, m, [.int .i64 r, .int .i64 r2]⟩] [] []) := by
  refine call_sk noTab_ok Tryz.func39 (by kernel_rfl) (false, true) (by kernel_rfl) (S := .node (((0 : Nat) : Int) != (m : Int)) (lfT (hpT [⟨some 0, m, [.int .i64 r, .int .i64 r2]⟩] [] []) false) (.ff (lfT (hpT [⟨some 0, m, [.int .i64 r, .int .i64 r2]⟩] [] []) true))) (by kernel_rfl) (by kernel_rfl) (SkLeads.all ?_)
  unfold smyV
  refine sk_either (fun g2 => ?_) fun g2 => ?_
  · rw [g2]; exact sk_leaf rfl
  · rw [g2]; exact sk_ff (sk_leaf rfl)
theorem smy_sn : CallAt Tryz.prog 39 [slT 0 2 n, nilA] (hpT [⟨some 0, n, [.int .i64 p, .int .i64 p2]⟩] [] []) (boo (smyV n 0 p p2 r r2)) (hpT [⟨some 0, n, [.int .i64 p, .int .i64 p2]⟩] [] []) := by
  cases n with
  | zero => exact call_sk noTab_ok Tryz.func39 (by kernel_rfl) (false, true) (by kernel_rfl) (S := .ff (.ff (lfT (hpT [⟨some 0, 0, [.int .i64 p, .int .i64 p2]⟩] [] []) true))) (by kernel_rfl) (by kernel_rfl) (SkLeads.all (sk_ff (sk_ff (sk_leaf rfl))))
  | succ k => exact call_sk noTab_ok Tryz.func39 (by kernel_rfl) (false, true) (by kernel_rfl) (S := .tt (lfT (hpT [⟨some 0, k + 1, [.int .i64 p, .int .i64 p2]⟩] [] []) false)) (by kernel_rfl) (by kernel_rfl) (SkLeads.all (sk_tt (sk_leaf rfl)))
theorem smy_nn : CallAt Tryz.prog 39 [nilA, nilA] (hpT [] [] []) (boo (smyV 0 0 p p2 r r2)) (hpT [] [] []) :=
  call_sk noTab_ok Tryz.func39 (by kernel_rfl) (false, true) (by kernel_rfl) (S := .ff (.ff (lfT (hpT [] [] []) true))) (by kernel_rfl) (by kernel_rfl) (SkLeads.all (sk_ff (sk_ff (sk_leaf rfl))))
end
def smyF : FT
  | [], [], [], [⟨_, n, [.int .i64 p, .int .i64 p2]⟩, ⟨_, m, [.int .i64 r, .int .i64 r2]⟩] => .need (Nat.ble n 1000000) (.leaf (boo (smyV n m p p2 r r2), []))
  | _, _, _, _ => .fail 395
def smySp : Spec := fun args h => specT [(false, [.t [.int .i64 fun _ => 0, .int .i64 fun _ => 0]]), (false, [.t [.int .i64 fun _ => 0, .int .i64 fun _ => 0]])] [] smyF args h
theorem smy_ok : SpecOk Tryz.prog 39 smySp := by
  refine specT_ok rfl (by decide) fun l m n ts v news hl hm hn ht hnil hF => ?_
  unfold smyF at hF
  split at hF
  · rename_i i n p p2 j m r r2
    obtain ⟨hok, hF⟩ := Tree.need_some hF
    have hok := Nat.le_of_ble_eq_true hok
    simp only [Tree.run, Option.some.injEq, Prod.mk.injEq] at hF
    obtain ⟨rfl, rfl⟩ := hF
    cases i with
    | none =>
      have h0 : n = 0 := hnil _ List.mem_cons_self rfl
      subst h0
      cases j with
      | none =>
        have h0 : m = 0 := hnil _ (List.mem_cons_of_mem _ List.mem_cons_self) rfl
        subst h0
        exact smy_nn p p2 r r2
      | some j => exact smy_ns m p p2 r r2
    | some i =>
      cases j with
      | none =>
        have h0 : m = 0 := hnil _ (List.mem_cons_of_mem _ List.mem_cons_self) rfl
        subst h0
        exact smy_sn n p p2 r r2
      | some j => exact smy_call n m p p2 r r2 hok
  · cases hF
def tbH3 : List (FuncId × Spec) := (38, smiSp) :: (39, smySp) :: tbH2
theorem tbH3_ok : TabOk Tryz.prog (tabOf tbH3) := tab_cons (tab_cons tbH2_ok smy_ok) smi_ok
end Go.Ev
