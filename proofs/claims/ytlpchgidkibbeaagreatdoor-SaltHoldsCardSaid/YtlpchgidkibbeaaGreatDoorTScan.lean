/- Lists of told steps gone through: sizes, checks. Conditions: as the entries say. (Printed by gen_told.py.) -/
import Derived.Test.YtlpchgidkibbeaaGreatDoorScan
namespace Go.Ev
open Go Go.Proofs

/-! ### checkTold -/
def toldErr (c lo hi flow : Int) (s : ByteArray) : Int := firstZ [errIf (!isAct s) 13, wW lo 0 1000000, wW hi 0 1000000, errIf (decide (hi < lo)) 11, wW flow 0 c]
def ctoV : List Int → List Bool → List ByteArray → A
  | [c, _, _, _, _, _, lo, hi, flow], [], [s] => int (toldErr c lo hi flow s)
  | _, _, _ => int 0
theorem cto_run (c l f r h k lo hi flow : Int) (s : ByteArray) : (evFun Tryz.prog (tabOf tb_cp) modes 100 88 (encA [.v 6, .sv 3] [c, l, f, r, h, k, lo, hi, flow] [] [s]) hpK).run = some (int (toldErr c lo hi flow s), hpK) := by
  have hh : (evFun Tryz.prog (tabOf tb_cp) modes 100 88 (encA [.v 6, .sv 3] [c, l, f, r, h, k, lo, hi, flow] [] [s]) hpK).run =
    (Tree.node (sWait.toList == s.toList) (.leaf (int (firstZ [errIf false 13, wW lo 0 1000000, wW hi 0 1000000, errIf (decide (hi < lo)) 11, wW flow 0 c]), hpK)) (.node (sFill.toList == s.toList) (.leaf (int (firstZ [errIf false 13, wW lo 0 1000000, wW hi 0 1000000, errIf (decide (hi < lo)) 11, wW flow 0 c]), hpK)) (.node (sDrain.toList == s.toList) (.leaf (int (firstZ [errIf false 13, wW lo 0 1000000, wW hi 0 1000000, errIf (decide (hi < lo)) 11, wW flow 0 c]), hpK)) (.node (sStart.toList == s.toList) (.leaf (int (firstZ [errIf false 13, wW lo 0 1000000, wW hi 0 1000000, errIf (decide (hi < lo)) 11, wW flow 0 c]), hpK)) (.node (sStop.toList == s.toList) (.leaf (int (firstZ [errIf false 13, wW lo 0 1000000, wW hi 0 1000000, errIf (decide (hi < lo)) 11, wW flow 0 c]), hpK)) (.leaf (int (firstZ [errIf true 13, wW lo 0 1000000, wW hi 0 1000000, errIf (decide (hi < lo)) 11, wW flow 0 c]), hpK))))))).run := by kernel_rfl
  rw [hh]
  unfold toldErr isAct
  cases sWait.toList == s.toList <;> cases sFill.toList == s.toList <;> cases sDrain.toList == s.toList <;> cases sStart.toList == s.toList <;> cases sStop.toList == s.toList <;> rfl
theorem cto_ok : SpecOk Tryz.prog 88 (specG [.v 6, .sv 3] (fun _ _ _ => true) ctoV) := specG_ok (fun l m n => by unfold ctoV; split <;> rfl) fun l m n hl hm hn _ => match l, m, n, hl, hm, hn with
  | [c, l, f, r, h, k, lo, hi, flow], [], [s], _, _, _ => call_ev tb_cp_ok (cto_run c l f r h k lo hi flow s)
def tb_cto : List (FuncId × Spec) := (88, specG [.v 6, .sv 3] (fun _ _ _ => true) ctoV) :: tb_cp
theorem tb_cto_ok : TabOk Tryz.prog (tabOf tb_cto) := tab_cons tb_cp_ok cto_ok

/-! ### CheckTold -/
def qtoldErr (c lo hi flow : Int) (s : ByteArray) : Int := firstZ [errIf (!qisAct s) 13, wW lo 0 1000000, wW hi 0 1000000, errIf (decide (hi < lo)) 11, wW flow 0 c]
def qtoV : List Int → List Bool → List ByteArray → A
  | [c, _, _, _, _, _, lo, hi, flow], [], [s] => int (qtoldErr c lo hi flow s)
  | _, _, _ => int 0
theorem qto_run (c l f r h k lo hi flow : Int) (s : ByteArray) : (evFun Tryz.prog (tabOf tb_cto) modes 100 91 (encA [.v 6, .sv 3] [c, l, f, r, h, k, lo, hi, flow] [] [s]) hp0).run = some (int (qtoldErr c lo hi flow s), hp0) := by
  have hh : (evFun Tryz.prog (tabOf tb_cto) modes 100 91 (encA [.v 6, .sv 3] [c, l, f, r, h, k, lo, hi, flow] [] [s]) hp0).run =
    (Tree.node (eqS s sWait) (.leaf (int (firstZ [errIf false 13, wW lo 0 1000000, wW hi 0 1000000, errIf (decide (hi < lo)) 11, wW flow 0 c]), hp0)) (.node (eqS s sFill) (.leaf (int (firstZ [errIf false 13, wW lo 0 1000000, wW hi 0 1000000, errIf (decide (hi < lo)) 11, wW flow 0 c]), hp0)) (.node (eqS s sDrain) (.leaf (int (firstZ [errIf false 13, wW lo 0 1000000, wW hi 0 1000000, errIf (decide (hi < lo)) 11, wW flow 0 c]), hp0)) (.node (eqS s sStart) (.leaf (int (firstZ [errIf false 13, wW lo 0 1000000, wW hi 0 1000000, errIf (decide (hi < lo)) 11, wW flow 0 c]), hp0)) (.leaf (int (firstZ [errIf (!(eqS s sStop)) 13, wW lo 0 1000000, wW hi 0 1000000, errIf (decide (hi < lo)) 11, wW flow 0 c]), hp0)))))).run := by kernel_rfl
  rw [hh]
  unfold qtoldErr qisAct
  cases eqS s sWait <;> cases eqS s sFill <;> cases eqS s sDrain <;> cases eqS s sStart <;> cases eqS s sStop <;> rfl
theorem qto_ok : SpecOk Tryz.prog 91 (specI [.v 6, .sv 3] (fun _ _ _ => true) qtoV) := specI_ok (fun l m n => by unfold qtoV; split <;> rfl) fun l m n hl hm hn _ => match l, m, n, hl, hm, hn with
  | [c, l, f, r, h, k, lo, hi, flow], [], [s], _, _, _ => call_ev tb_cto_ok (qto_run c l f r h k lo hi flow s)
def tb_qto : List (FuncId × Spec) := (91, specI [.v 6, .sv 3] (fun _ _ _ => true) qtoV) :: tb_cto
theorem tb_qto_ok : TabOk Tryz.prog (tabOf tb_qto) := tab_cons tb_cto_ok qto_ok

/-! ### spillage/spillagelaw08.told -/
def toldcB (n : Nat) (z0 : Nat → ByteArray) (z1 : Nat → Int) (z2 : Nat → Int) (z3 : Nat → Int) : St := baseB 18 [slT 0 4 n] (hpT [⟨some 0, n, [.str z0, .int .i64 z1, .int .i64 z2, .int .i64 z3]⟩] [] [])
def toldcN (n : Nat) (z0 : Nat → ByteArray) (z1 : Nat → Int) (z2 : Nat → Int) (z3 : Nat → Int) (news : List Blk) (env : List (Nat × A)) : St := stN 18 (envL env) (bsS [⟨some 0, n, [.str z0, .int .i64 z1, .int .i64 z2, .int .i64 z3]⟩] []) (globsG 1 []) news
def toldcH (n : Nat) (z0 : Nat → ByteArray) (z1 : Nat → Int) (z2 : Nat → Int) (z3 : Nat → Int) : Nat → St
  | 0 => toldcN n z0 z1 z2 z3 [] [(3, nilA), (6, slT 0 4 n), (7, int n), (8, int 0)]
  | k + 1 => toldcN n z0 z1 z2 z3 [⟨false, 161, .rows (k + 1) [.str z0, .int .i64 z1, .int .i64 z2, .int .i64 z3]⟩] [(3, slO 1 4 (k + 1)), (6, slT 0 4 n), (7, int n), (8, int ((k + 1 : Nat) : Int))]
def toldcX (n : Nat) (z0 : Nat → ByteArray) (z1 : Nat → Int) (z2 : Nat → Int) (z3 : Nat → Int) : Nat → St
  | 0 => toldcN n z0 z1 z2 z3 [] [(3, nilA)]
  | k + 1 => toldcN n z0 z1 z2 z3 [⟨false, 161, .rows (k + 1) [.str z0, .int .i64 z1, .int .i64 z2, .int .i64 z3]⟩] [(3, slO 1 4 (k + 1))]
noncomputable def toldcS (n : Nat) (z0 : Nat → ByteArray) (z1 : Nat → Int) (z2 : Nat → Int) (z3 : Nat → Int) : Nat → Tree (X × St)
  | 0 => .node (decide ((0 : Int) < (n : Int))) (.need (decide ((0 : Int) ≤ 0) && decide ((0 : Int) < (n : Int))) (.need (Nat.blt (0 + Int.toNat 0) n) (.need (Nat.blt (0 + Int.toNat 0) n) (.need (Nat.blt (0 + Int.toNat 0) n) (.need (Nat.blt (0 + Int.toNat 0) n) (.need true (.leaf (.normal, toldcN n z0 z1 z2 z3 [⟨false, 161, .flat [cs (z0 0), ci (z1 0), ci (z2 0), ci (z3 0)]⟩] [(3, slO 1 4 1), (6, slT 0 4 n), (7, int n), (8, int (IntKind.i64.wrap (((0 : Nat) : Int) + 1)))])))))))) (.leaf (.exit 0, toldcX n z0 z1 z2 z3 0))
  | k + 1 => .node (decide (((k + 1 : Nat) : Int) < (n : Int))) (.need (decide (0 ≤ ((k + 1 : Nat) : Int)) && decide (((k + 1 : Nat) : Int) < (n : Int))) (.need (Nat.blt (0 + Int.toNat ((k + 1 : Nat) : Int)) n) (.need (Nat.blt (0 + Int.toNat ((k + 1 : Nat) : Int)) n) (.need (Nat.blt (0 + Int.toNat ((k + 1 : Nat) : Int)) n) (.need (Nat.blt (0 + Int.toNat ((k + 1 : Nat) : Int)) n) (.need (Nat.ble (k + 1) (k + 1) && Nat.blt ((k + 1 + 1) * ((Tryz.prog.info? 161).map (·.bytes)).getD 0) 140737488355328 && Nat.ble (k + 1 + 1) 9223372036854775807) (.leaf (.normal, toldcN n z0 z1 z2 z3 [⟨false, 161, .rows (k + 1 + 1) [.str (putF z0 (k + 1) (z0 (0 + Int.toNat ((k + 1 : Nat) : Int)))), .int .i64 (putF z1 (k + 1) (z1 (0 + Int.toNat ((k + 1 : Nat) : Int)))), .int .i64 (putF z2 (k + 1) (z2 (0 + Int.toNat ((k + 1 : Nat) : Int)))), .int .i64 (putF z3 (k + 1) (z3 (0 + Int.toNat ((k + 1 : Nat) : Int))))]⟩] [(3, slO 1 4 (k + 1 + 1)), (6, slT 0 4 n), (7, int n), (8, int (IntKind.i64.wrap (((k + 1 : Nat) : Int) + 1)))])))))))) (.leaf (.exit 0, toldcX n z0 z1 z2 z3 (k + 1)))
theorem toldc_round (n : Nat) (z0 : Nat → ByteArray) (z1 : Nat → Int) (z2 : Nat → Int) (z3 : Nat → Int) (k : Nat) : (recT Tryz.prog (tabOf tb_qto) (loopF Tryz.f15) (toldcH n z0 z1 z2 z3 k)).bind (canonT [3, 6, 7, 8] [3] (toldcB n z0 z1 z2 z3)) = toldcS n z0 z1 z2 z3 k := by
  cases k with
  | zero => kernel_rfl
  | succ k => kernel_rfl
theorem toldc_loop (n : Nat) (z0 : Nat → ByteArray) (z1 : Nat → Int) (z2 : Nat → Int) (z3 : Nat → Int) (hn : n ≤ 1000000) : ComesF Tryz.prog (.loop (loopF Tryz.f15)) (toldcB n z0 z1 z2 z3) (toldcH n z0 z1 z2 z3 0) fun q => q = (.exit 0, toldcX n z0 z1 z2 z3 n) := by
  refine loop_is (recT_ok tb_qto_ok) rfl [3, 6, 7, 8] [3] (toldcH n z0 z1 z2 z3) (fun k => n - k) (fun k => k ≤ n) (fun _ => (.exit 0, toldcX n z0 z1 z2 z3 n)) (toldcS n z0 z1 z2 z3) (fun k _ => toldc_round n z0 z1 z2 z3 k) (fun k hk => ?_) 0 (Nat.zero_le n)
  cases k with
  | zero =>
    unfold toldcS
    by_cases h : 0 < n
    · have e1 : decide ((0 : Int) < (n : Int)) = true := by simpa using h
      have hb : Nat.blt (0 + Int.toNat 0) n = true := by rw [Nat.blt_eq]; simpa using h
      simp only [e1, Tree.All, hb]
      refine ⟨(by first | exact trivial | rfl), (by first | exact trivial | rfl), (by first | exact trivial | rfl), (by first | exact trivial | rfl), (by first | exact trivial | rfl), (by first | exact trivial | rfl), 1, ?_, h, by omega, (by first | exact trivial | rfl)⟩
      rw [wrap_succ (k := 0) (by omega)]
      exact le_news (show 1 + 1 ≤ lim by decide) ⟨⟨rfl, blk_body rfl (fun cs e => by cases e) fun E arr hh => rows_one rfl (fun j c col h1 h2 => by match j, h1, h2 with | 0, h1, h2 => injection h1 with h1; injection h2 with h2; subst h1; subst h2; rfl | 1, h1, h2 => injection h1 with h1; injection h2 with h2; subst h1; subst h2; rfl | 2, h1, h2 => injection h1 with h1; injection h2 with h2; subst h1; subst h2; rfl | 3, h1, h2 => injection h1 with h1; injection h2 with h2; subst h1; subst h2; rfl) hh⟩, trivial⟩
    · have h0 : n = 0 := by omega
      subst h0
      rfl
  | succ k =>
    unfold toldcS
    by_cases h : k + 1 < n
    · have e1 : decide (((k + 1 : Nat) : Int) < (n : Int)) = true := by simp only [decide_eq_true_eq]; omega
      have e2 : decide ((0 : Int) ≤ ((k + 1 : Nat) : Int)) = true := by simp only [decide_eq_true_eq]; omega
      have hb : Nat.blt (k + 1) n = true := by rw [Nat.blt_eq]; omega
      have e0 : ((Tryz.prog.info? 161).map (·.bytes)).getD 0 = 40 := by kernel_rfl
      have e3 : Nat.blt ((k + 1 + 1) * ((Tryz.prog.info? 161).map (·.bytes)).getD 0) 140737488355328 = true := by rw [e0, Nat.blt_eq]; omega
      have e4 : Nat.ble (k + 1 + 1) 9223372036854775807 = true := by rw [Nat.ble_eq]; omega
      simp only [e1, e2, e3, e4, ble_self, Tree.All, Nat.zero_add, Int.toNat_natCast, hb, putF_self]
      refine ⟨(by first | exact trivial | rfl), (by first | exact trivial | rfl), (by first | exact trivial | rfl), (by first | exact trivial | rfl), (by first | exact trivial | rfl), (by first | exact trivial | rfl), k + 1 + 1, ?_, h, by omega, (by first | exact trivial | rfl)⟩
      rw [wrap_succ (by omega)]
      exact St.Le.refl _
    · have h0 : n = k + 1 := by omega
      have e1 : decide (((k + 1 : Nat) : Int) < (n : Int)) = false := by simp only [decide_eq_false_iff_not]; omega
      simp only [e1, Tree.All]
      rw [h0]
theorem toldc_call (n : Nat) (z0 : Nat → ByteArray) (z1 : Nat → Int) (z2 : Nat → Int) (z3 : Nat → Int) (hn : n ≤ 1000000) : CallAt Tryz.prog 15 [slT 0 4 n] (hpT [⟨some 0, n, [.str z0, .int .i64 z1, .int .i64 z2, .int .i64 z3]⟩] [] []) (resL 1 4 n) (hpT [⟨some 0, n, [.str z0, .int .i64 z1, .int .i64 z2, .int .i64 z3]⟩] [] (resBl 161 n [.str z0, .int .i64 z1, .int .i64 z2, .int .i64 z3])) := by
  refine call_base (recT_ok tb_qto_ok) (c := bodyOf Tryz.f15) (fn := Tryz.f15) Tryz.func15 (by kernel_rfl) (by kernel_rfl) (false, false) 1 [3, 6, 7, 8] [2] (sB := toldcB n z0 z1 z2 z3) (by kernel_rfl) (t := .leaf (.inr (pathF Tryz.f15, toldcH n z0 z1 z2 z3 0))) (by kernel_rfl) ?_
  refine cutF_stop _ true [] [2] (toldc_loop n z0 z1 z2 z3 hn) fun q hq => ?_
  subst hq
  cases n with
  | zero =>
    refine (congrArg (Tree.All _) (show evO2 (recT Tryz.prog (tabOf tb_qto)) true (bodyOf Tryz.f15) (pathF Tryz.f15) [] [2] (toldcB 0 z0 z1 z2 z3) (.exit 0, toldcX 0 z0 z1 z2 z3 0) = .leaf (.inl (.ret, toldcN 0 z0 z1 z2 z3 [] [(2, nilA)])) by kernel_rfl)).mpr (cutF_done (left_of (b := true) (by kernel_rfl)))
  | succ k =>
    refine (congrArg (Tree.All _) (show evO2 (recT Tryz.prog (tabOf tb_qto)) true (bodyOf Tryz.f15) (pathF Tryz.f15) [] [2] (toldcB (k + 1) z0 z1 z2 z3) (.exit 0, toldcX (k + 1) z0 z1 z2 z3 (k + 1)) = .leaf (.inl (.ret, toldcN (k + 1) z0 z1 z2 z3 [⟨false, 161, .rows (k + 1) [.str z0, .int .i64 z1, .int .i64 z2, .int .i64 z3]⟩] [(2, slO 1 4 (k + 1))])) by kernel_rfl)).mpr (cutF_done (left_of (b := false) (by kernel_rfl)))
def toldcF : FT
  | [], [], [], [⟨_, n, [.str z0, .int .i64 z1, .int .i64 z2, .int .i64 z3]⟩] => .need (Nat.ble n 1000000) (.node (Nat.beq n 0) (.leaf (nilA, [])) (.leaf (slO (1) 4 n, [⟨false, 161, .rows n [.str z0, .int .i64 z1, .int .i64 z2, .int .i64 z3]⟩])))
  | _, _, _, _ => .fail 360
def toldcSp : Spec := fun args h => specT [(false, [.t [.str fun _ => ⟨#[]⟩, .int .i64 fun _ => 0, .int .i64 fun _ => 0, .int .i64 fun _ => 0]])] [] toldcF args h
theorem toldc_ok : SpecOk Tryz.prog 15 toldcSp := by
  refine specT_ok rfl (by decide) fun l m n ts v news hl hm hn ht hnil hF => ?_
  unfold toldcF at hF
  split at hF
  · rename_i  id n z0 z1 z2 z3
    obtain ⟨hok, hF⟩ := Tree.need_some hF
    have hok := Nat.le_of_ble_eq_true hok
    cases id with
    | none =>
      have h0 : n = 0 := hnil _ (List.mem_singleton.2 rfl) rfl
      subst h0
      simp only [Tree.run, Nat.beq, Option.some.injEq, Prod.mk.injEq] at hF
      obtain ⟨rfl, rfl⟩ := hF
      exact call_ev tb_qto_ok (by kernel_rfl)
    | some id =>
      have hv : v = resL 1 4 n ∧ news = resBl 161 n [.str z0, .int .i64 z1, .int .i64 z2, .int .i64 z3] := by
        cases n <;> (simp only [Tree.run, Nat.beq, Option.some.injEq, Prod.mk.injEq] at hF; obtain ⟨rfl, rfl⟩ := hF; exact ⟨rfl, rfl⟩)
      obtain ⟨rfl, rfl⟩ := hv
      exact toldc_call n z0 z1 z2 z3 hok
  · cases hF
def tb_toldc : List (FuncId × Spec) := (15, toldcSp) :: tb_qto
theorem tb_toldc_ok : TabOk Tryz.prog (tabOf tb_toldc) := tab_cons tb_qto_ok toldc_ok

/-! ### spillage/salt.mapped[spillage/salt.Told,spillage/api.Errno] -/
def mapTC0 (z0 : Nat → ByteArray) (z1 : Nat → Int) (z2 : Nat → Int) (z3 : Nat → Int) (r0 : Int) (r1 : Int) (r2 : Int) (r3 : Int) (r4 : Int) (r5 : Int) : Nat → Int := fun ix => toldErr r0 (z1 ix) (z2 ix) (z3 ix) (z0 ix)
def mapTB (n : Nat) (z0 : Nat → ByteArray) (z1 : Nat → Int) (z2 : Nat → Int) (z3 : Nat → Int) (r0 : Int) (r1 : Int) (r2 : Int) (r3 : Int) (r4 : Int) (r5 : Int) : St := baseB 22 [slT 0 4 n, .one (.fb 88 [(true, [.int .i64 r0, .int .i64 r1, .int .i64 r2, .int .i64 r3, .int .i64 r4, .int .i64 r5])])] (hpT [⟨some 0, n, [.str z0, .int .i64 z1, .int .i64 z2, .int .i64 z3]⟩] [(0, actsL)] [])
def mapTN (n : Nat) (z0 : Nat → ByteArray) (z1 : Nat → Int) (z2 : Nat → Int) (z3 : Nat → Int) (r0 : Int) (r1 : Int) (r2 : Int) (r3 : Int) (r4 : Int) (r5 : Int) (news : List Blk) (env : List (Nat × A)) : St := stN 22 (envL env) (bsS [⟨some 0, n, [.str z0, .int .i64 z1, .int .i64 z2, .int .i64 z3]⟩] [(0, actsL)]) (globsG 1 [(0, actsL)]) news
def mapTH (n : Nat) (z0 : Nat → ByteArray) (z1 : Nat → Int) (z2 : Nat → Int) (z3 : Nat → Int) (r0 : Int) (r1 : Int) (r2 : Int) (r3 : Int) (r4 : Int) (r5 : Int) : Nat → St
  | 0 => mapTN n z0 z1 z2 z3 r0 r1 r2 r3 r4 r5 [] [(5, nilA), (8, slT 0 4 n), (9, int n), (10, int 0), (1, .one (.fb 88 [(true, [.int .i64 r0, .int .i64 r1, .int .i64 r2, .int .i64 r3, .int .i64 r4, .int .i64 r5])]))]
  | k + 1 => mapTN n z0 z1 z2 z3 r0 r1 r2 r3 r4 r5 [⟨false, 31, .rows (k + 1) [.int .i64 (mapTC0 z0 z1 z2 z3 r0 r1 r2 r3 r4 r5)]⟩] [(5, slO 2 1 (k + 1)), (8, slT 0 4 n), (9, int n), (10, int ((k + 1 : Nat) : Int)), (1, .one (.fb 88 [(true, [.int .i64 r0, .int .i64 r1, .int .i64 r2, .int .i64 r3, .int .i64 r4, .int .i64 r5])]))]
def mapTX (n : Nat) (z0 : Nat → ByteArray) (z1 : Nat → Int) (z2 : Nat → Int) (z3 : Nat → Int) (r0 : Int) (r1 : Int) (r2 : Int) (r3 : Int) (r4 : Int) (r5 : Int) : Nat → St
  | 0 => mapTN n z0 z1 z2 z3 r0 r1 r2 r3 r4 r5 [] [(5, nilA)]
  | k + 1 => mapTN n z0 z1 z2 z3 r0 r1 r2 r3 r4 r5 [⟨false, 31, .rows (k + 1) [.int .i64 (mapTC0 z0 z1 z2 z3 r0 r1 r2 r3 r4 r5)]⟩] [(5, slO 2 1 (k + 1))]
noncomputable def mapTS (n : Nat) (z0 : Nat → ByteArray) (z1 : Nat → Int) (z2 : Nat → Int) (z3 : Nat → Int) (r0 : Int) (r1 : Int) (r2 : Int) (r3 : Int) (r4 : Int) (r5 : Int) : Nat → Tree (X × St)
  | 0 => .node (decide ((0 : Int) < (n : Int))) (.need (decide ((0 : Int) ≤ 0) && decide ((0 : Int) < (n : Int))) (.need (Nat.blt (0 + Int.toNat 0) n) (.need (Nat.blt (0 + Int.toNat 0) n) (.need (Nat.blt (0 + Int.toNat 0) n) (.need (Nat.blt (0 + Int.toNat 0) n) (.need true (.need true (.leaf (.normal, mapTN n z0 z1 z2 z3 r0 r1 r2 r3 r4 r5 [⟨false, 31, .flat [ci ((mapTC0 z0 z1 z2 z3 r0 r1 r2 r3 r4 r5) 0)]⟩] [(5, slO 2 1 1), (8, slT 0 4 n), (9, int n), (10, int (IntKind.i64.wrap (((0 : Nat) : Int) + 1))), (1, .one (.fb 88 [(true, [.int .i64 r0, .int .i64 r1, .int .i64 r2, .int .i64 r3, .int .i64 r4, .int .i64 r5])]))]))))))))) (.leaf (.exit 0, mapTX n z0 z1 z2 z3 r0 r1 r2 r3 r4 r5 0))
  | k + 1 => .node (decide (((k + 1 : Nat) : Int) < (n : Int))) (.need (decide (0 ≤ ((k + 1 : Nat) : Int)) && decide (((k + 1 : Nat) : Int) < (n : Int))) (.need (Nat.blt (0 + Int.toNat ((k + 1 : Nat) : Int)) n) (.need (Nat.blt (0 + Int.toNat ((k + 1 : Nat) : Int)) n) (.need (Nat.blt (0 + Int.toNat ((k + 1 : Nat) : Int)) n) (.need (Nat.blt (0 + Int.toNat ((k + 1 : Nat) : Int)) n) (.need true (.need (Nat.ble (k + 1) (k + 1) && Nat.blt ((k + 1 + 1) * ((Tryz.prog.info? 31).map (·.bytes)).getD 0) 140737488355328 && Nat.ble (k + 1 + 1) 9223372036854775807) (.leaf (.normal, mapTN n z0 z1 z2 z3 r0 r1 r2 r3 r4 r5 [⟨false, 31, .rows (k + 1 + 1) [.int .i64 (putF (mapTC0 z0 z1 z2 z3 r0 r1 r2 r3 r4 r5) (k + 1) ((mapTC0 z0 z1 z2 z3 r0 r1 r2 r3 r4 r5) (0 + Int.toNat ((k + 1 : Nat) : Int))))]⟩] [(5, slO 2 1 (k + 1 + 1)), (8, slT 0 4 n), (9, int n), (10, int (IntKind.i64.wrap (((k + 1 : Nat) : Int) + 1))), (1, .one (.fb 88 [(true, [.int .i64 r0, .int .i64 r1, .int .i64 r2, .int .i64 r3, .int .i64 r4, .int .i64 r5])]))]))))))))) (.leaf (.exit 0, mapTX n z0 z1 z2 z3 r0 r1 r2 r3 r4 r5 (k + 1)))
theorem mapT_round (n : Nat) (z0 : Nat → ByteArray) (z1 : Nat → Int) (z2 : Nat → Int) (z3 : Nat → Int) (r0 : Int) (r1 : Int) (r2 : Int) (r3 : Int) (r4 : Int) (r5 : Int) (k : Nat) : (recT Tryz.prog (tabOf tb_toldc) (loopF Tryz.f87) (mapTH n z0 z1 z2 z3 r0 r1 r2 r3 r4 r5 k)).bind (canonT [5, 8, 9, 10, 1] [5] (mapTB n z0 z1 z2 z3 r0 r1 r2 r3 r4 r5)) = mapTS n z0 z1 z2 z3 r0 r1 r2 r3 r4 r5 k := by
  cases k with
  | zero => kernel_rfl
  | succ k => kernel_rfl
theorem mapT_loop (n : Nat) (z0 : Nat → ByteArray) (z1 : Nat → Int) (z2 : Nat → Int) (z3 : Nat → Int) (r0 : Int) (r1 : Int) (r2 : Int) (r3 : Int) (r4 : Int) (r5 : Int) (hn : n ≤ 1000000) : ComesF Tryz.prog (.loop (loopF Tryz.f87)) (mapTB n z0 z1 z2 z3 r0 r1 r2 r3 r4 r5) (mapTH n z0 z1 z2 z3 r0 r1 r2 r3 r4 r5 0) fun q => q = (.exit 0, mapTX n z0 z1 z2 z3 r0 r1 r2 r3 r4 r5 n) := by
  refine loop_is (recT_ok tb_toldc_ok) rfl [5, 8, 9, 10, 1] [5] (mapTH n z0 z1 z2 z3 r0 r1 r2 r3 r4 r5) (fun k => n - k) (fun k => k ≤ n) (fun _ => (.exit 0, mapTX n z0 z1 z2 z3 r0 r1 r2 r3 r4 r5 n)) (mapTS n z0 z1 z2 z3 r0 r1 r2 r3 r4 r5) (fun k _ => mapT_round n z0 z1 z2 z3 r0 r1 r2 r3 r4 r5 k) (fun k hk => ?_) 0 (Nat.zero_le n)
  cases k with
  | zero =>
    unfold mapTS
    by_cases h : 0 < n
    · have e1 : decide ((0 : Int) < (n : Int)) = true := by simpa using h
      have hb : Nat.blt (0 + Int.toNat 0) n = true := by rw [Nat.blt_eq]; simpa using h
      simp only [e1, Tree.All, hb]
      refine ⟨(by first | exact trivial | rfl), (by first | exact trivial | rfl), (by first | exact trivial | rfl), (by first | exact trivial | rfl), (by first | exact trivial | rfl), (by first | exact trivial | rfl), (by first | exact trivial | rfl), 1, ?_, h, by omega, (by first | exact trivial | rfl)⟩
      rw [wrap_succ (k := 0) (by omega)]
      exact le_news (show 2 + 1 ≤ lim by decide) ⟨⟨rfl, blk_body rfl (fun cs e => by cases e) fun E arr hh => rows_one rfl (fun j c col h1 h2 => by match j, h1, h2 with | 0, h1, h2 => injection h1 with h1; injection h2 with h2; subst h1; subst h2; rfl) hh⟩, trivial⟩
    · have h0 : n = 0 := by omega
      subst h0
      rfl
  | succ k =>
    unfold mapTS
    by_cases h : k + 1 < n
    · have e1 : decide (((k + 1 : Nat) : Int) < (n : Int)) = true := by simp only [decide_eq_true_eq]; omega
      have e2 : decide ((0 : Int) ≤ ((k + 1 : Nat) : Int)) = true := by simp only [decide_eq_true_eq]; omega
      have hb : Nat.blt (k + 1) n = true := by rw [Nat.blt_eq]; omega
      have e0 : ((Tryz.prog.info? 31).map (·.bytes)).getD 0 = 8 := by kernel_rfl
      have e3 : Nat.blt ((k + 1 + 1) * ((Tryz.prog.info? 31).map (·.bytes)).getD 0) 140737488355328 = true := by rw [e0, Nat.blt_eq]; omega
      have e4 : Nat.ble (k + 1 + 1) 9223372036854775807 = true := by rw [Nat.ble_eq]; omega
      simp only [e1, e2, e3, e4, ble_self, Tree.All, Nat.zero_add, Int.toNat_natCast, hb, putF_self]
      refine ⟨(by first | exact trivial | rfl), (by first | exact trivial | rfl), (by first | exact trivial | rfl), (by first | exact trivial | rfl), (by first | exact trivial | rfl), (by first | exact trivial | rfl), (by first | exact trivial | rfl), k + 1 + 1, ?_, h, by omega, (by first | exact trivial | rfl)⟩
      rw [wrap_succ (by omega)]
      exact St.Le.refl _
    · have h0 : n = k + 1 := by omega
      have e1 : decide (((k + 1 : Nat) : Int) < (n : Int)) = false := by simp only [decide_eq_false_iff_not]; omega
      simp only [e1, Tree.All]
      rw [h0]
theorem mapT_call (n : Nat) (z0 : Nat → ByteArray) (z1 : Nat → Int) (z2 : Nat → Int) (z3 : Nat → Int) (r0 : Int) (r1 : Int) (r2 : Int) (r3 : Int) (r4 : Int) (r5 : Int) (hn : n ≤ 1000000) : CallAt Tryz.prog 87 [slT 0 4 n, .one (.fb 88 [(true, [.int .i64 r0, .int .i64 r1, .int .i64 r2, .int .i64 r3, .int .i64 r4, .int .i64 r5])])] (hpT [⟨some 0, n, [.str z0, .int .i64 z1, .int .i64 z2, .int .i64 z3]⟩] [(0, actsL)] []) (resL 2 1 n) (hpT [⟨some 0, n, [.str z0, .int .i64 z1, .int .i64 z2, .int .i64 z3]⟩] [(0, actsL)] (resBl 31 n [.int .i64 (mapTC0 z0 z1 z2 z3 r0 r1 r2 r3 r4 r5)])) := by
  refine call_base (recT_ok tb_toldc_ok) (c := bodyOf Tryz.f87) (fn := Tryz.f87) Tryz.func87 (by kernel_rfl) (by kernel_rfl) (false, false) 1 [5, 8, 9, 10, 1] [4] (sB := mapTB n z0 z1 z2 z3 r0 r1 r2 r3 r4 r5) (by kernel_rfl) (t := .leaf (.inr (pathF Tryz.f87, mapTH n z0 z1 z2 z3 r0 r1 r2 r3 r4 r5 0))) (by kernel_rfl) ?_
  refine cutF_stop _ true [] [4] (mapT_loop n z0 z1 z2 z3 r0 r1 r2 r3 r4 r5 hn) fun q hq => ?_
  subst hq
  cases n with
  | zero =>
    refine (congrArg (Tree.All _) (show evO2 (recT Tryz.prog (tabOf tb_toldc)) true (bodyOf Tryz.f87) (pathF Tryz.f87) [] [4] (mapTB 0 z0 z1 z2 z3 r0 r1 r2 r3 r4 r5) (.exit 0, mapTX 0 z0 z1 z2 z3 r0 r1 r2 r3 r4 r5 0) = .leaf (.inl (.ret, mapTN 0 z0 z1 z2 z3 r0 r1 r2 r3 r4 r5 [] [(4, nilA)])) by kernel_rfl)).mpr (cutF_done (left_of (b := true) (by kernel_rfl)))
  | succ k =>
    refine (congrArg (Tree.All _) (show evO2 (recT Tryz.prog (tabOf tb_toldc)) true (bodyOf Tryz.f87) (pathF Tryz.f87) [] [4] (mapTB (k + 1) z0 z1 z2 z3 r0 r1 r2 r3 r4 r5) (.exit 0, mapTX (k + 1) z0 z1 z2 z3 r0 r1 r2 r3 r4 r5 (k + 1)) = .leaf (.inl (.ret, mapTN (k + 1) z0 z1 z2 z3 r0 r1 r2 r3 r4 r5 [⟨false, 31, .rows (k + 1) [.int .i64 (mapTC0 z0 z1 z2 z3 r0 r1 r2 r3 r4 r5)]⟩] [(4, slO 2 1 (k + 1))])) by kernel_rfl)).mpr (cutF_done (left_of (b := false) (by kernel_rfl)))
def mapTF : FT
  | [r0, r1, r2, r3, r4, r5], [], [], [⟨_, n, [.str z0, .int .i64 z1, .int .i64 z2, .int .i64 z3]⟩] => .need (Nat.ble n 1000000) (.node (Nat.beq n 0) (.leaf (nilA, [])) (.leaf (slO (2) 1 n, [⟨false, 31, .rows n [.int .i64 (mapTC0 z0 z1 z2 z3 r0 r1 r2 r3 r4 r5)]⟩])))
  | _, _, _, _ => .fail 360
def mapTSp : Spec := fun args h => specT [(false, [.t [.str fun _ => ⟨#[]⟩, .int .i64 fun _ => 0, .int .i64 fun _ => 0, .int .i64 fun _ => 0]]), (false, [.fb 88 6])] [(0, actsL)] mapTF args h
theorem mapT_ok : SpecOk Tryz.prog 87 mapTSp := by
  refine specT_ok (by decide) (by decide) fun l m n ts v news hl hm hn ht hnil hF => ?_
  unfold mapTF at hF
  split at hF
  · rename_i r0 r1 r2 r3 r4 r5 id n z0 z1 z2 z3
    obtain ⟨hok, hF⟩ := Tree.need_some hF
    have hok := Nat.le_of_ble_eq_true hok
    cases id with
    | none =>
      have h0 : n = 0 := hnil _ (List.mem_singleton.2 rfl) rfl
      subst h0
      simp only [Tree.run, Nat.beq, Option.some.injEq, Prod.mk.injEq] at hF
      obtain ⟨rfl, rfl⟩ := hF
      exact call_ev tb_toldc_ok (by kernel_rfl)
    | some id =>
      have hv : v = resL 2 1 n ∧ news = resBl 31 n [.int .i64 (mapTC0 z0 z1 z2 z3 r0 r1 r2 r3 r4 r5)] := by
        cases n <;> (simp only [Tree.run, Nat.beq, Option.some.injEq, Prod.mk.injEq] at hF; obtain ⟨rfl, rfl⟩ := hF; exact ⟨rfl, rfl⟩)
      obtain ⟨rfl, rfl⟩ := hv
      exact mapT_call n z0 z1 z2 z3 r0 r1 r2 r3 r4 r5 hok
  · cases hF
def tb_mapT : List (FuncId × Spec) := (87, mapTSp) :: tb_toldc
theorem tb_mapT_ok : TabOk Tryz.prog (tabOf tb_mapT) := tab_cons tb_toldc_ok mapT_ok
end Go.Ev
namespace Go.Ev
open Go Go.Proofs

/-! ### spillage/spillageref08.ShortTold -/
theorem to_round (n : Nat) (z0 : Nat → ByteArray) (z1 z2 z3 : Nat → Int) (k : Nat) : (recT Tryz.prog noTab (loopF Tryz.f12) (spH n [.str z0, .int .i64 z1, .int .i64 z2, .int .i64 z3] 4 k)).bind (canonT [0, 2, 3] [0, 2] (spB n [.str z0, .int .i64 z1, .int .i64 z2, .int .i64 z3] 4)) = spS n [.str z0, .int .i64 z1, .int .i64 z2, .int .i64 z3] 4 z0 k := by kernel_rfl
theorem to_post (n : Nat) (z0 : Nat → ByteArray) (z1 z2 z3 : Nat → Int) : evO2 (recT Tryz.prog noTab) true (bodyOf Tryz.f12) (pathF Tryz.f12) [] [2] (spB n [.str z0, .int .i64 z1, .int .i64 z2, .int .i64 z3] 4) (.exit 0, spX n [.str z0, .int .i64 z1, .int .i64 z2, .int .i64 z3] 4) =
      .node (decide ((n : Int) ≤ 24)) (.need true (.leaf (.inl (.ret, spN n [.str z0, .int .i64 z1, .int .i64 z2, .int .i64 z3] [(2, boo true)])))) (.leaf (.inl (.ret, spN n [.str z0, .int .i64 z1, .int .i64 z2, .int .i64 z3] [(2, boo ((n : Int) == 257))]))) := by kernel_rfl
theorem to_ret (n : Nat) (z0 : Nat → ByteArray) (z1 z2 z3 : Nat → Int) : evO2 (recT Tryz.prog noTab) true (bodyOf Tryz.f12) (pathF Tryz.f12) [] [2] (spB n [.str z0, .int .i64 z1, .int .i64 z2, .int .i64 z3] 4) (.ret, spX n [.str z0, .int .i64 z1, .int .i64 z2, .int .i64 z3] 4) =
    .leaf (.inl (.ret, spN n [.str z0, .int .i64 z1, .int .i64 z2, .int .i64 z3] [(2, boo false)])) := by kernel_rfl
theorem to_call (n : Nat) (z0 : Nat → ByteArray) (z1 z2 z3 : Nat → Int) (hn : n ≤ 9223372036854775807) : CallAt Tryz.prog 12 [slT 0 4 n] (hpT [⟨some 0, n, [.str z0, .int .i64 z1, .int .i64 z2, .int .i64 z3]⟩] [] []) (boo (shortB n z0)) (hpT [⟨some 0, n, [.str z0, .int .i64 z1, .int .i64 z2, .int .i64 z3]⟩] [] []) := by
  refine call_base rec0 (c := bodyOf Tryz.f12) (fn := Tryz.f12) Tryz.func12 (by kernel_rfl) (by kernel_rfl) (false, false) 1 [0, 2, 3] [2] (sB := spB n [.str z0, .int .i64 z1, .int .i64 z2, .int .i64 z3] 4) (by kernel_rfl) (t := .leaf (.inr (pathF Tryz.f12, spH n [.str z0, .int .i64 z1, .int .i64 z2, .int .i64 z3] 4 ((0 : Nat) : Int)))) (by kernel_rfl) ?_
  refine cutF_stop _ true [] [2] (loop_is rec0 rfl [0, 2, 3] [0, 2] (fun k : Nat => spH n [.str z0, .int .i64 z1, .int .i64 z2, .int .i64 z3] 4 (k : Int)) (fun k => n - k) (fun k => k ≤ n) (spFin n [.str z0, .int .i64 z1, .int .i64 z2, .int .i64 z3] 4 z0) (spS n [.str z0, .int .i64 z1, .int .i64 z2, .int .i64 z3] 4 z0) (fun k _ => to_round n z0 z1 z2 z3 k) (fun k hk => sp_dec hn k hk) 0 (Nat.zero_le n)) fun q hq => ?_
  subst hq
  unfold spFin shortB
  rw [Nat.sub_zero]
  cases anyL z0 n 0 with
  | true =>
    simp only []
    rw [to_ret]
    exact cutF_done (left_of (b := true) (by kernel_rfl))
  | false =>
    simp only []
    rw [to_post]
    cases decide ((n : Int) ≤ 24) with
    | true => exact ⟨rfl, cutF_done (left_of (b := true) (by kernel_rfl))⟩
    | false => exact cutF_done (left_of (b := true) (by kernel_rfl))
def toF : FT
  | [], [], [], [⟨_, n, [.str z0, .int .i64 _, .int .i64 _, .int .i64 _]⟩] => .need (Nat.ble n 9223372036854775807) (.leaf (boo (shortB n z0), []))
  | _, _, _, _ => .fail 371
def toldD : List Col := [.str fun _ => ⟨#[]⟩, .int .i64 fun _ => 0, .int .i64 fun _ => 0, .int .i64 fun _ => 0]
def toSp : Spec := fun args h => specT [(false, [.t toldD])] [] toF args h
theorem to_ok : SpecOk Tryz.prog 12 toSp := by
  refine specT_ok rfl (by decide) fun l m n ts v news hl hm hn ht hnil hF => ?_
  unfold toF at hF
  split at hF
  · rename_i id n z0 z1 z2 z3
    obtain ⟨hok, hF⟩ := Tree.need_some hF
    have hok := Nat.le_of_ble_eq_true hok
    simp only [Tree.run, Option.some.injEq, Prod.mk.injEq] at hF
    obtain ⟨rfl, rfl⟩ := hF
    cases id with
    | none =>
      have h0 : n = 0 := hnil _ (List.mem_singleton.2 rfl) rfl
      subst h0
      exact call_ev noTab_ok (by kernel_rfl)
    | some id => exact to_call n z0 z1 z2 z3 hok
  · cases hF

/-! ### spillage/spillageref08.CheckToldPlan -/
def qtC (z0 : Nat → ByteArray) (z1 z2 z3 : Nat → Int) (r0 : Int) : Nat → Int := fun k => qtoldErr r0 (z1 k) (z2 k) (z3 k) (z0 k)
section
variable (n : Nat) (z0 : Nat → ByteArray) (z1 z2 z3 : Nat → Int) (r0 r1 r2 r3 r4 r5 : Int)
def st4 : List Col := [.str z0, .int .i64 z1, .int .i64 z2, .int .i64 z3]
def tqN (env : List (Nat × A)) (news : List Blk) : St := stN 25 (envL env) (bsS [⟨some 0, n, st4 z0 z1 z2 z3⟩] []) [] news
def tqB : St := baseB 25 [.agg (rulesC r0 r1 r2 r3 r4 r5), slT 0 4 n] (hpT [⟨some 0, n, st4 z0 z1 z2 z3⟩] [] [])
def tqH (i : Int) : St := tqN n z0 z1 z2 z3 [(1, slT 0 4 n), (2, pt 1), (4, int 0), (5, int i)] [⟨false, 23, .flat (rulesC r0 r1 r2 r3 r4 r5)⟩]
def tqX (e : Int) : St := tqN n z0 z1 z2 z3 [(4, int e)] []
def tqS (k : Nat) : Tree (X × St) := .node (decide ((k : Int) < (n : Int))) (.need (decide (0 ≤ (k : Int)) && decide ((k : Int) < (n : Int))) (.need (Nat.blt (0 + Int.toNat (k : Int)) n) (.need (Nat.blt (0 + Int.toNat (k : Int)) n) (.need (Nat.blt (0 + Int.toNat (k : Int)) n) (.need (Nat.blt (0 + Int.toNat (k : Int)) n) (.need true (.node (qtC z0 z1 z2 z3 r0 (0 + Int.toNat (k : Int)) != 0) (.leaf (.ret, tqX n z0 z1 z2 z3 (qtC z0 z1 z2 z3 r0 (0 + Int.toNat (k : Int))))) (.leaf (.normal, tqH n z0 z1 z2 z3 r0 r1 r2 r3 r4 r5 (IntKind.i64.wrap ((k : Int) + 1))))))))))) (.leaf (.exit 0, tqX n z0 z1 z2 z3 0))
def tqFin (k : Nat) : X × St := match fnz (qtC z0 z1 z2 z3 r0) (n - k) k with
  | some e => (.ret, tqX n z0 z1 z2 z3 e)
  | none => (.exit 0, tqX n z0 z1 z2 z3 0)
theorem tq_round (k : Nat) : (recT Tryz.prog (tabOf tb_mapT) (loopF Tryz.f19) (tqH n z0 z1 z2 z3 r0 r1 r2 r3 r4 r5 k)).bind (canonT [1, 2, 4, 5] [4] (tqB n z0 z1 z2 z3 r0 r1 r2 r3 r4 r5)) = tqS n z0 z1 z2 z3 r0 r1 r2 r3 r4 r5 k := by kernel_rfl
theorem tq_dec (hn : n ≤ 9223372036854775807) (k : Nat) (hk : k ≤ n) : (tqS n z0 z1 z2 z3 r0 r1 r2 r3 r4 r5 k).All fun p => match p.1 with | .normal => ∃ y : Nat, p.2.Le (tqH n z0 z1 z2 z3 r0 r1 r2 r3 r4 r5 (y : Int)) ∧ y ≤ n ∧ n - y < n - k ∧ tqFin n z0 z1 z2 z3 r0 y = tqFin n z0 z1 z2 z3 r0 k | _ => p = tqFin n z0 z1 z2 z3 r0 k := by
  unfold tqS tqFin
  by_cases h : k < n
  · obtain ⟨e1, e2, e3⟩ := idx_facts h
    rw [show n - k = (n - (k + 1)) + 1 by omega, fnz]
    simp only [e1, e2, Tree.All, Nat.zero_add, Int.toNat_natCast, e3]
    refine ⟨(by first | exact trivial | rfl), (by first | exact trivial | rfl), (by first | exact trivial | rfl), (by first | exact trivial | rfl), (by first | exact trivial | rfl), (by first | exact trivial | rfl), ?_⟩
    cases hz : qtC z0 z1 z2 z3 r0 k != 0 with
    | true => rfl
    | false =>
      refine ⟨k + 1, ?_, h, by omega, rfl⟩
      rw [wrap_succ (by omega)]
      exact St.Le.refl _
  · rw [idx_end h, show n - k = 0 by omega]
    rfl
theorem tq_pre : evO (recT Tryz.prog (tabOf tb_mapT)) (bodyOf Tryz.f19) [1, 2, 4, 5] [4] (tqB n z0 z1 z2 z3 r0 r1 r2 r3 r4 r5) = .node (decide ((n : Int) > 256)) (.leaf (.inl (.ret, tqX n z0 z1 z2 z3 5))) (.leaf (.inr (pathF Tryz.f19, tqH n z0 z1 z2 z3 r0 r1 r2 r3 r4 r5 ((0 : Nat) : Int)))) := by kernel_rfl
theorem tq_exit : evO2 (recT Tryz.prog (tabOf tb_mapT)) true (bodyOf Tryz.f19) (pathF Tryz.f19) [] [4] (tqB n z0 z1 z2 z3 r0 r1 r2 r3 r4 r5) (.exit 0, tqX n z0 z1 z2 z3 0) = .leaf (.inl (.ret, tqX n z0 z1 z2 z3 0)) := by kernel_rfl
theorem tq_ret (e : Int) : evO2 (recT Tryz.prog (tabOf tb_mapT)) true (bodyOf Tryz.f19) (pathF Tryz.f19) [] [4] (tqB n z0 z1 z2 z3 r0 r1 r2 r3 r4 r5) (.ret, tqX n z0 z1 z2 z3 e) = .leaf (.inl (.ret, tqX n z0 z1 z2 z3 e)) := by kernel_rfl
theorem tq_left (e : Int) : Left2 Tryz.prog Tryz.f19 (hpT [⟨some 0, n, st4 z0 z1 z2 z3⟩] [] []) (int e) (hpT [⟨some 0, n, st4 z0 z1 z2 z3⟩] [] []) (.ret, tqX n z0 z1 z2 z3 e) := left_of (b := true) (by kernel_rfl)
theorem tq_call (hn : n ≤ 9223372036854775807) : CallAt Tryz.prog 19 [.agg (rulesC r0 r1 r2 r3 r4 r5), slT 0 4 n] (hpT [⟨some 0, n, st4 z0 z1 z2 z3⟩] [] []) (int (qplanE n (qtC z0 z1 z2 z3 r0))) (hpT [⟨some 0, n, st4 z0 z1 z2 z3⟩] [] []) := by
  refine call_base (recT_ok tb_mapT_ok) (c := bodyOf Tryz.f19) (fn := Tryz.f19) Tryz.func19 (by kernel_rfl) (by kernel_rfl) (false, false) 1 [1, 2, 4, 5] [4] (sB := tqB n z0 z1 z2 z3 r0 r1 r2 r3 r4 r5) (by kernel_rfl) (tq_pre n z0 z1 z2 z3 r0 r1 r2 r3 r4 r5) ?_
  unfold qplanE
  cases decide ((n : Int) > 256) with
  | true => exact cutF_done (tq_left n z0 z1 z2 z3 5)
  | false =>
    refine cutF_stop _ true [] [4] (loop_is (recT_ok tb_mapT_ok) rfl [1, 2, 4, 5] [4] (fun k : Nat => tqH n z0 z1 z2 z3 r0 r1 r2 r3 r4 r5 (k : Int)) (fun k => n - k) (fun k => k ≤ n) (tqFin n z0 z1 z2 z3 r0) (tqS n z0 z1 z2 z3 r0 r1 r2 r3 r4 r5) (fun k _ => tq_round n z0 z1 z2 z3 r0 r1 r2 r3 r4 r5 k) (fun k hk => tq_dec n z0 z1 z2 z3 r0 r1 r2 r3 r4 r5 hn k hk) 0 (Nat.zero_le n)) fun q hq => ?_
    subst hq
    unfold tqFin
    rw [Nat.sub_zero]
    cases fnz (qtC z0 z1 z2 z3 r0) n 0 with
    | some e =>
      simp only []
      rw [tq_ret]
      exact cutF_done (tq_left n z0 z1 z2 z3 e)
    | none =>
      simp only []
      rw [tq_exit]
      exact cutF_done (tq_left n z0 z1 z2 z3 0)
end
def tqF : FT
  | [r0, _, _, _, _, _], [], [], [⟨_, n, [.str z0, .int .i64 z1, .int .i64 z2, .int .i64 z3]⟩] => .need (Nat.ble n 9223372036854775807) (.leaf (int (qplanE n (qtC z0 z1 z2 z3 r0)), []))
  | _, _, _, _ => .fail 372
def tqSp : Spec := fun args h => specT [(true, i6), (false, [.t toldD])] [] tqF args h
theorem tq_ok : SpecOk Tryz.prog 19 tqSp := by
  refine specT_ok rfl (by decide) fun l m n ts v news hl hm hn ht hnil hF => ?_
  unfold tqF at hF
  split at hF
  · rename_i r0 r1 r2 r3 r4 r5 id n z0 z1 z2 z3
    obtain ⟨hok, hF⟩ := Tree.need_some hF
    have hok := Nat.le_of_ble_eq_true hok
    simp only [Tree.run, Option.some.injEq, Prod.mk.injEq] at hF
    obtain ⟨rfl, rfl⟩ := hF
    cases id with
    | none =>
      have h0 : n = 0 := hnil _ (List.mem_singleton.2 rfl) rfl
      subst h0
      exact call_ev tb_mapT_ok (by kernel_rfl)
    | some id => exact tq_call n z0 z1 z2 z3 r0 r1 r2 r3 r4 r5 hok
  · cases hF
def tb_tq : List (FuncId × Spec) := (19, tqSp) :: (12, toSp) :: tb_mapT
theorem tb_tq_ok : TabOk Tryz.prog (tabOf tb_tq) := tab_cons (tab_cons tb_mapT_ok to_ok) tq_ok
end Go.Ev
