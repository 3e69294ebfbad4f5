/- light.mapped at the samples of a map: checks, levels, and samples of levels. Conditions: samples of 0 and 0.25. (Printed by gen_mapped.py.) -/
import Derived.Test.YtjckcdpjibfacaaGreatFlt
import Derived.Test.YtjckcdpjibfacaaGreatDl
namespace Go.Ev
open Go Go.Proofs
set_option maxRecDepth 100000
def fnA (f : FuncId) : A := .one (.fn f [])
def cf (x : Nat) : C := .lit (.float .f32 x)
def putX {α : Type} (G : Nat → α) (k : Nat) : Nat → α := putF G (k + 1) (G (ixN (k + 1)))
theorem putX_eq {α : Type} (G : Nat → α) (k : Nat) : putX G k = G := by
 unfold putX
 rw [show ixN (k + 1) = k + 1 from idx_nat _]
 funext j
 unfold putF
 split
 ·rename_i e; rw [Nat.eq_of_beq_eq_true e]
 ·rfl
theorem one_rowsC {c : C} {col : Col} (h0 : col.at 0 = c) {e : TypeId} : ∀ (E : Env) (w : World) (p : Nat × Nat × Nat), blkIs E w p ⟨false, e, .flat [c]⟩ → blkIs E w p ⟨false, e, .rows 1 [col]⟩ := by
 refine blk_body rfl (fun cs e => by cases e) fun E arr hh => rows_one rfl (fun j c' col' h1 h2 => ?_) hh
 match j, h1, h2 with
 | 0, h1, h2 => injection h1 with h1; injection h2 with h2; subst h1; subst h2; exact h0
def levOk (n : Int) : Bool := n == 0 || n == 4
def tbM (lv : Nat → Int) (sm : Int → Nat) : List (FuncId × Spec) := (82, ckSSp) :: (84, levSp lv) :: (89, smpSp sm) :: tbF0
theorem tbM_ok : TabOk Tryz.prog (tabOf (tbM levQ smpQ)) := tab_cons (tab_cons (tab_cons tbF0_ok smp_ok) lev_ok) ckS_ok
noncomputable def reM (lv : Nat → Int) (sm : Int → Nat) : Code → St → Tree (X × St) := recT Tryz.prog (tabOf (tbM lv sm))
theorem reM_ok : RecOk Tryz.prog (reM levQ smpQ) := recT_ok tbM_ok
def fltD : List Col := [.flt .f32 fun _ => 0]
def intD : List Col := [.int .i64 fun _ => 0]
def allN {α : Type} (p : α → Bool) (z : Nat → α) : Nat → Bool
 | 0 => true
 | n + 1 => allN p z n && p (z n)
theorem allN_at {α : Type} {p : α → Bool} {z : Nat → α} : ∀ {n k : Nat}, allN p z n = true → k < n → p (z k) = true
 | 0, _, _, h => by omega
 | n + 1, k, ha, h => by
  unfold allN at ha
  rw [Bool.and_eq_true] at ha
  by_cases e : k = n
  ·subst e; exact ha.2
  ·exact allN_at ha.1 (by omega)
theorem allN_of {α : Type} {p : α → Bool} {z : Nat → α} : ∀ {n : Nat}, (∀ k, k < n → p (z k) = true) → allN p z n = true
 | 0, _ => rfl
 | n + 1, h => by
  unfold allN
  rw [allN_of fun k hk => h k (by omega), h n (by omega)]
  rfl
def mkC (z : Nat → Nat) : List Col := [.flt .f32 z]
def mkZ (_ : Nat → Int) (_ : Int → Nat) (_ : Nat → Nat) : Nat → Int := fun _ => 0
section
variable (lv : Nat → Int) (sm : Int → Nat) (n : Nat) (z : Nat → Nat)
def mkO (n : Nat) : Blk := ⟨false, 42, .rows n [.int .i64 (mkZ lv sm z)]⟩
def mkH0 : Hp := hpT [⟨some 0, n, mkC z⟩] [] []
def mkN (env : List (Nat × A)) (news : List Blk) : St := stN 22 (envL env) (bsS [⟨some 0, n, mkC z⟩] []) [] news
def mkB : St := baseB 22 [slT 0 1 n, fnA 82] (mkH0 n z)
def mkE (o : A) (i : Int) : List (Nat × A) := [(1, fnA 82), (5, o), (8, slT 0 1 n), (9, int n), (10, int i)]
def mkH : Nat → St
 | 0 => mkN n z (mkE n nilA ((0 : Nat) : Int)) []
 | k + 1 => mkN n z (mkE n (slO 1 1 (k + 1)) ((k + 1 : Nat) : Int)) [mkO lv sm z (k + 1)]
def mkX : Nat → St
 | 0 => mkN n z [(5, nilA)] []
 | k + 1 => mkN n z [(5, slO 1 1 (k + 1))] [mkO lv sm z (k + 1)]
noncomputable def mkT (k : Nat) : Tree (X × St) := (reM lv sm (loopF Tryz.f81) (mkH lv sm n z k)).bind (canonT [1, 5, 8, 9, 10] [5] (mkB n z))
noncomputable def mkOo : Tree ((X × St) ⊕ (List Bool × St)) := evO (reM lv sm) (bodyOf Tryz.f81) [1, 5, 8, 9, 10] [4] (mkB n z)
noncomputable def mkP (q : X × St) : Tree ((X × St) ⊕ (List Bool × St)) := evO2 (reM lv sm) true (bodyOf Tryz.f81) (pathF Tryz.f81) [] [4] (mkB n z) q
noncomputable def mkS : Nat → SkX
 | 0 => .node (decide (((0 : Nat) : Int) < (n : Int))) (.need (kB n 0) (.need (Nat.blt (ixN 0) n) (.need (qOk (z (ixN 0))) (.leaf (.normal, mkN n z (mkE n (slO 1 1 1) (IntKind.i64.wrap (((0 : Nat) : Int) + 1))) [⟨false, 42, .flat [ci (mkZ lv sm z (ixN 0))]⟩])))))
  (.leaf (.exit 0, mkX lv sm n z 0))
 | k + 1 => .node (decide (((k + 1 : Nat) : Int) < (n : Int))) (.need (kB n (k + 1)) (.need (Nat.blt (ixN (k + 1)) n) (.need (qOk (z (ixN (k + 1)))) (.need (apN 42 k) (.leaf (.normal, mkN n z (mkE n (slO 1 1 (k + 1 + 1)) (IntKind.i64.wrap (((k + 1 : Nat) : Int) + 1))) [⟨false, 42, .rows (k + 1 + 1) [.int .i64 (putX (mkZ lv sm z) k)]⟩]))))))
  (.leaf (.exit 0, mkX lv sm n z (k + 1)))
theorem mk_into : ∀ k, mkT lv sm n z k = into (mkT lv sm n z k) (mkS lv sm n z k)
 | 0 => by kernel_rfl
 | k + 1 => by kernel_rfl
theorem mk_fits : ∀ k, fits (mkT lv sm n z k) (mkS lv sm n z k) = true
 | 0 => by kernel_rfl
 | k + 1 => by kernel_rfl
theorem mk_step (hn : n ≤ 1000000) (hz : allN qOk z n = true) (k : Nat) (hk : k < n) : SkLeads (Rnd (mkH lv sm n z) (fun _ => (.exit 0, mkX lv sm n z n)) k) (mkS lv sm n z k) := by
 obtain ⟨e1, e2, e3⟩ := rnd_lt hk
 have hx : ixN k = k := idx_nat k
 have e4 : qOk (z (ixN k)) = true := by rw [hx]; exact allN_at hz hk
 cases k with
 | zero =>
  unfold mkS
  refine sk_yes e1 (sk_need e2 (sk_need e3 (sk_need e4 (sk_leaf (rnd_next ?_ rfl)))))
  rw [wrap_succ (by omega)]
  exact le_news (show 1 + 1 ≤ lim by decide) ⟨⟨rfl, one_rowsC (by rw [show ixN 0 = 0 from idx_nat 0]; rfl)⟩, trivial⟩
 | succ k =>
  unfold mkS
  have d0 : ((Tryz.prog.info? 42).map (·.bytes)).getD 0 = 8 := by kernel_rfl
  refine sk_yes e1 (sk_need e2 (sk_need e3 (sk_need e4 (sk_need (apN_ok (by rw [d0]; decide) (by omega)) (sk_leaf (rnd_next ?_ rfl))))))
  rw [wrap_succ (by omega), putX_eq]
  exact St.Le.refl _
theorem mk_last : SkLeads (RndEnd (.exit 0, mkX lv sm n z n)) (mkS lv sm n z n) := by
 cases n with
 | zero => unfold mkS; exact sk_no (rnd_end 0) (sk_leaf rfl)
 | succ k => unfold mkS; exact sk_no (rnd_end (k + 1)) (sk_leaf rfl)
theorem mkO_is : mkOo lv sm n z = .leaf (.inr (pathF Tryz.f81, mkH lv sm n z 0)) := by kernel_rfl
def mkR (k : Nat) : St := mkN n z [(4, slO 1 1 (k + 1))] [mkO lv sm z (k + 1)]
theorem mkP_is (k : Nat) : mkP lv sm n z (.exit 0, mkX lv sm n z (k + 1)) = .leaf (.inl (.ret, mkR lv sm n z k)) := by kernel_rfl
end
theorem mk_loop {n : Nat} {z : Nat → Nat} (hn : n ≤ 1000000) (hz : allN qOk z n = true) : ComesF Tryz.prog (.loop (loopF Tryz.f81)) (mkB n z) (mkH levQ smpQ n z 0) fun q => q = (.exit 0, mkX levQ smpQ n z n) :=
 loop_count reM_ok rfl [1, 5, 8, 9, 10] [5] (mkH levQ smpQ n z) (fun _ => (.exit 0, mkX levQ smpQ n z n)) n (mkT levQ smpQ n z) (mkS levQ smpQ n z) (fun k => by delta mkT; rfl) (mk_into levQ smpQ n z) (mk_fits levQ smpQ n z) (mk_step levQ smpQ n z hn hz) (mk_last levQ smpQ n z)
theorem mk_left (lv : Nat → Int) (sm : Int → Nat) (z : Nat → Nat) (k : Nat) : Left2 Tryz.prog Tryz.f81 (mkH0 (k + 1) z) (slO 1 1 (k + 1)) (hpT [⟨some 0, k + 1, mkC z⟩] [] [mkO lv sm z (k + 1)]) (.ret, mkR lv sm (k + 1) z k) := left_of (b := false) (by kernel_rfl)
theorem mk_call (k : Nat) (z : Nat → Nat) (hn : k + 1 ≤ 1000000) (hz : allN qOk z (k + 1) = true) : CallAt Tryz.prog 81 [slT 0 1 (k + 1), fnA 82] (mkH0 (k + 1) z) (slO 1 1 (k + 1)) (hpT [⟨some 0, k + 1, mkC z⟩] [] [mkO levQ smpQ z (k + 1)]) := by
 refine call_base reM_ok (c := bodyOf Tryz.f81) (fn := Tryz.f81) Tryz.func81 (by kernel_rfl) (by kernel_rfl) (false, false) 1 [1, 5, 8, 9, 10] [4] (sB := mkB (k + 1) z) (by kernel_rfl) (mkO_is levQ smpQ (k + 1) z) ?_
 refine (sk_stop _ true [] [4] (mk_loop hn hz) fun q hq => ?_).all
 subst hq
 exact leads_leaf (show _ = mkP levQ smpQ (k + 1) z (.exit 0, mkX levQ smpQ (k + 1) z (k + 1)) by delta mkP; rfl) (mkP_is levQ smpQ (k + 1) z k) (cutF_dn (mk_left levQ smpQ z k))
def mkF (lv : Nat → Int) (sm : Int → Nat) : FT
 | [], [], [], [⟨some _, n, [.flt .f32 z]⟩] => .need (Nat.blt 0 n && (Nat.ble n 1000000 && allN qOk z n)) (.leaf (slO 1 1 n, [mkO lv sm z n]))
 | _, _, _, _ => .fail 726
def mkSp (lv : Nat → Int) (sm : Int → Nat) : Spec := fun args h => specT [(false, [.t fltD]), (false, [.fn 82])] [] (mkF lv sm) args h
theorem mk_ok : SpecOk Tryz.prog 81 (mkSp levQ smpQ) := by
 refine specT_ok rfl (by decide) fun l m n ts v news hl hm hn ht hnil hF => ?_
 unfold mkF at hF
 split at hF
 ·rename_i id n z
  obtain ⟨hok, hF⟩ := Tree.need_some hF
  rw [Bool.and_eq_true, Bool.and_eq_true, Nat.blt_eq] at hok
  simp only [Tree.run, Option.some.injEq, Prod.mk.injEq] at hF
  obtain ⟨rfl, rfl⟩ := hF
  obtain ⟨k, rfl⟩ : ∃ k, n = k + 1 := ⟨n - 1, by omega⟩
  exact mk_call k z (Nat.le_of_ble_eq_true hok.2.1) hok.2.2
 ·cases hF
def mlC (z : Nat → Nat) : List Col := [.flt .f32 z]
def mlZ (lv : Nat → Int) (_ : Int → Nat) (z : Nat → Nat) : Nat → Int := fun i => lv (z i)
section
variable (lv : Nat → Int) (sm : Int → Nat) (n : Nat) (z : Nat → Nat)
def mlO (n : Nat) : Blk := ⟨false, 3, .rows n [.int .i64 (mlZ lv sm z)]⟩
def mlH0 : Hp := hpT [⟨some 0, n, mlC z⟩] [] []
def mlN (env : List (Nat × A)) (news : List Blk) : St := stN 22 (envL env) (bsS [⟨some 0, n, mlC z⟩] []) [] news
def mlB : St := baseB 22 [slT 0 1 n, fnA 84] (mlH0 n z)
def mlE (o : A) (i : Int) : List (Nat × A) := [(1, fnA 84), (5, o), (8, slT 0 1 n), (9, int n), (10, int i)]
def mlH : Nat → St
 | 0 => mlN n z (mlE n nilA ((0 : Nat) : Int)) []
 | k + 1 => mlN n z (mlE n (slO 1 1 (k + 1)) ((k + 1 : Nat) : Int)) [mlO lv sm z (k + 1)]
def mlX : Nat → St
 | 0 => mlN n z [(5, nilA)] []
 | k + 1 => mlN n z [(5, slO 1 1 (k + 1))] [mlO lv sm z (k + 1)]
noncomputable def mlT (k : Nat) : Tree (X × St) := (reM lv sm (loopF Tryz.f83) (mlH lv sm n z k)).bind (canonT [1, 5, 8, 9, 10] [5] (mlB n z))
noncomputable def mlOo : Tree ((X × St) ⊕ (List Bool × St)) := evO (reM lv sm) (bodyOf Tryz.f83) [1, 5, 8, 9, 10] [4] (mlB n z)
noncomputable def mlP (q : X × St) : Tree ((X × St) ⊕ (List Bool × St)) := evO2 (reM lv sm) true (bodyOf Tryz.f83) (pathF Tryz.f83) [] [4] (mlB n z) q
noncomputable def mlS : Nat → SkX
 | 0 => .node (decide (((0 : Nat) : Int) < (n : Int))) (.need (kB n 0) (.need (Nat.blt (ixN 0) n) (.need (qOk (z (ixN 0))) (.leaf (.normal, mlN n z (mlE n (slO 1 1 1) (IntKind.i64.wrap (((0 : Nat) : Int) + 1))) [⟨false, 3, .flat [ci (mlZ lv sm z (ixN 0))]⟩])))))
  (.leaf (.exit 0, mlX lv sm n z 0))
 | k + 1 => .node (decide (((k + 1 : Nat) : Int) < (n : Int))) (.need (kB n (k + 1)) (.need (Nat.blt (ixN (k + 1)) n) (.need (qOk (z (ixN (k + 1)))) (.need (apN 3 k) (.leaf (.normal, mlN n z (mlE n (slO 1 1 (k + 1 + 1)) (IntKind.i64.wrap (((k + 1 : Nat) : Int) + 1))) [⟨false, 3, .rows (k + 1 + 1) [.int .i64 (putX (mlZ lv sm z) k)]⟩]))))))
  (.leaf (.exit 0, mlX lv sm n z (k + 1)))
theorem ml_into : ∀ k, mlT lv sm n z k = into (mlT lv sm n z k) (mlS lv sm n z k)
 | 0 => by kernel_rfl
 | k + 1 => by kernel_rfl
theorem ml_fits : ∀ k, fits (mlT lv sm n z k) (mlS lv sm n z k) = true
 | 0 => by kernel_rfl
 | k + 1 => by kernel_rfl
theorem ml_step (hn : n ≤ 1000000) (hz : allN qOk z n = true) (k : Nat) (hk : k < n) : SkLeads (Rnd (mlH lv sm n z) (fun _ => (.exit 0, mlX lv sm n z n)) k) (mlS lv sm n z k) := by
 obtain ⟨e1, e2, e3⟩ := rnd_lt hk
 have hx : ixN k = k := idx_nat k
 have e4 : qOk (z (ixN k)) = true := by rw [hx]; exact allN_at hz hk
 cases k with
 | zero =>
  unfold mlS
  refine sk_yes e1 (sk_need e2 (sk_need e3 (sk_need e4 (sk_leaf (rnd_next ?_ rfl)))))
  rw [wrap_succ (by omega)]
  exact le_news (show 1 + 1 ≤ lim by decide) ⟨⟨rfl, one_rowsC (by rw [show ixN 0 = 0 from idx_nat 0]; rfl)⟩, trivial⟩
 | succ k =>
  unfold mlS
  have d0 : ((Tryz.prog.info? 3).map (·.bytes)).getD 0 = 8 := by kernel_rfl
  refine sk_yes e1 (sk_need e2 (sk_need e3 (sk_need e4 (sk_need (apN_ok (by rw [d0]; decide) (by omega)) (sk_leaf (rnd_next ?_ rfl))))))
  rw [wrap_succ (by omega), putX_eq]
  exact St.Le.refl _
theorem ml_last : SkLeads (RndEnd (.exit 0, mlX lv sm n z n)) (mlS lv sm n z n) := by
 cases n with
 | zero => unfold mlS; exact sk_no (rnd_end 0) (sk_leaf rfl)
 | succ k => unfold mlS; exact sk_no (rnd_end (k + 1)) (sk_leaf rfl)
theorem mlO_is : mlOo lv sm n z = .leaf (.inr (pathF Tryz.f83, mlH lv sm n z 0)) := by kernel_rfl
def mlR (k : Nat) : St := mlN n z [(4, slO 1 1 (k + 1))] [mlO lv sm z (k + 1)]
theorem mlP_is (k : Nat) : mlP lv sm n z (.exit 0, mlX lv sm n z (k + 1)) = .leaf (.inl (.ret, mlR lv sm n z k)) := by kernel_rfl
end
theorem ml_loop {n : Nat} {z : Nat → Nat} (hn : n ≤ 1000000) (hz : allN qOk z n = true) : ComesF Tryz.prog (.loop (loopF Tryz.f83)) (mlB n z) (mlH levQ smpQ n z 0) fun q => q = (.exit 0, mlX levQ smpQ n z n) :=
 loop_count reM_ok rfl [1, 5, 8, 9, 10] [5] (mlH levQ smpQ n z) (fun _ => (.exit 0, mlX levQ smpQ n z n)) n (mlT levQ smpQ n z) (mlS levQ smpQ n z) (fun k => by delta mlT; rfl) (ml_into levQ smpQ n z) (ml_fits levQ smpQ n z) (ml_step levQ smpQ n z hn hz) (ml_last levQ smpQ n z)
theorem ml_left (lv : Nat → Int) (sm : Int → Nat) (z : Nat → Nat) (k : Nat) : Left2 Tryz.prog Tryz.f83 (mlH0 (k + 1) z) (slO 1 1 (k + 1)) (hpT [⟨some 0, k + 1, mlC z⟩] [] [mlO lv sm z (k + 1)]) (.ret, mlR lv sm (k + 1) z k) := left_of (b := false) (by kernel_rfl)
theorem ml_call (k : Nat) (z : Nat → Nat) (hn : k + 1 ≤ 1000000) (hz : allN qOk z (k + 1) = true) : CallAt Tryz.prog 83 [slT 0 1 (k + 1), fnA 84] (mlH0 (k + 1) z) (slO 1 1 (k + 1)) (hpT [⟨some 0, k + 1, mlC z⟩] [] [mlO levQ smpQ z (k + 1)]) := by
 refine call_base reM_ok (c := bodyOf Tryz.f83) (fn := Tryz.f83) Tryz.func83 (by kernel_rfl) (by kernel_rfl) (false, false) 1 [1, 5, 8, 9, 10] [4] (sB := mlB (k + 1) z) (by kernel_rfl) (mlO_is levQ smpQ (k + 1) z) ?_
 refine (sk_stop _ true [] [4] (ml_loop hn hz) fun q hq => ?_).all
 subst hq
 exact leads_leaf (show _ = mlP levQ smpQ (k + 1) z (.exit 0, mlX levQ smpQ (k + 1) z (k + 1)) by delta mlP; rfl) (mlP_is levQ smpQ (k + 1) z k) (cutF_dn (ml_left levQ smpQ z k))
def mlF (lv : Nat → Int) (sm : Int → Nat) : FT
 | [], [], [], [⟨some _, n, [.flt .f32 z]⟩] => .need (Nat.blt 0 n && (Nat.ble n 1000000 && allN qOk z n)) (.leaf (slO 1 1 n, [mlO lv sm z n]))
 | _, _, _, _ => .fail 726
def mlSp (lv : Nat → Int) (sm : Int → Nat) : Spec := fun args h => specT [(false, [.t fltD]), (false, [.fn 84])] [] (mlF lv sm) args h
theorem ml_ok : SpecOk Tryz.prog 83 (mlSp levQ smpQ) := by
 refine specT_ok rfl (by decide) fun l m n ts v news hl hm hn ht hnil hF => ?_
 unfold mlF at hF
 split at hF
 ·rename_i id n z
  obtain ⟨hok, hF⟩ := Tree.need_some hF
  rw [Bool.and_eq_true, Bool.and_eq_true, Nat.blt_eq] at hok
  simp only [Tree.run, Option.some.injEq, Prod.mk.injEq] at hF
  obtain ⟨rfl, rfl⟩ := hF
  obtain ⟨k, rfl⟩ : ∃ k, n = k + 1 := ⟨n - 1, by omega⟩
  exact ml_call k z (Nat.le_of_ble_eq_true hok.2.1) hok.2.2
 ·cases hF
def msC (z : Nat → Int) : List Col := [.int .i64 z]
def msZ (_ : Nat → Int) (sm : Int → Nat) (z : Nat → Int) : Nat → Nat := fun i => sm (z i)
section
variable (lv : Nat → Int) (sm : Int → Nat) (n : Nat) (z : Nat → Int)
def msO (n : Nat) : Blk := ⟨false, 56, .rows n [.flt .f32 (msZ lv sm z)]⟩
def msH0 : Hp := hpT [⟨some 0, n, msC z⟩] [] []
def msN (env : List (Nat × A)) (news : List Blk) : St := stN 22 (envL env) (bsS [⟨some 0, n, msC z⟩] []) [] news
def msB : St := baseB 22 [slT 0 1 n, fnA 89] (msH0 n z)
def msE (o : A) (i : Int) : List (Nat × A) := [(1, fnA 89), (5, o), (8, slT 0 1 n), (9, int n), (10, int i)]
def msH : Nat → St
 | 0 => msN n z (msE n nilA ((0 : Nat) : Int)) []
 | k + 1 => msN n z (msE n (slO 1 1 (k + 1)) ((k + 1 : Nat) : Int)) [msO lv sm z (k + 1)]
def msX : Nat → St
 | 0 => msN n z [(5, nilA)] []
 | k + 1 => msN n z [(5, slO 1 1 (k + 1))] [msO lv sm z (k + 1)]
noncomputable def msT (k : Nat) : Tree (X × St) := (reM lv sm (loopF Tryz.f88) (msH lv sm n z k)).bind (canonT [1, 5, 8, 9, 10] [5] (msB n z))
noncomputable def msOo : Tree ((X × St) ⊕ (List Bool × St)) := evO (reM lv sm) (bodyOf Tryz.f88) [1, 5, 8, 9, 10] [4] (msB n z)
noncomputable def msP (q : X × St) : Tree ((X × St) ⊕ (List Bool × St)) := evO2 (reM lv sm) true (bodyOf Tryz.f88) (pathF Tryz.f88) [] [4] (msB n z) q
noncomputable def msS : Nat → SkX
 | 0 => .node (decide (((0 : Nat) : Int) < (n : Int))) (.need (kB n 0) (.need (Nat.blt (ixN 0) n) (.need (levOk (z (ixN 0))) (.leaf (.normal, msN n z (msE n (slO 1 1 1) (IntKind.i64.wrap (((0 : Nat) : Int) + 1))) [⟨false, 56, .flat [cf (msZ lv sm z (ixN 0))]⟩])))))
  (.leaf (.exit 0, msX lv sm n z 0))
 | k + 1 => .node (decide (((k + 1 : Nat) : Int) < (n : Int))) (.need (kB n (k + 1)) (.need (Nat.blt (ixN (k + 1)) n) (.need (levOk (z (ixN (k + 1)))) (.need (apN 56 k) (.leaf (.normal, msN n z (msE n (slO 1 1 (k + 1 + 1)) (IntKind.i64.wrap (((k + 1 : Nat) : Int) + 1))) [⟨false, 56, .rows (k + 1 + 1) [.flt .f32 (putX (msZ lv sm z) k)]⟩]))))))
  (.leaf (.exit 0, msX lv sm n z (k + 1)))
theorem ms_into : ∀ k, msT lv sm n z k = into (msT lv sm n z k) (msS lv sm n z k)
 | 0 => by kernel_rfl
 | k + 1 => by kernel_rfl
theorem ms_fits : ∀ k, fits (msT lv sm n z k) (msS lv sm n z k) = true
 | 0 => by kernel_rfl
 | k + 1 => by kernel_rfl
theorem ms_step (hn : n ≤ 1000000) (hz : allN levOk z n = true) (k : Nat) (hk : k < n) : SkLeads (Rnd (msH lv sm n z) (fun _ => (.exit 0, msX lv sm n z n)) k) (msS lv sm n z k) := by
 obtain ⟨e1, e2, e3⟩ := rnd_lt hk
 have hx : ixN k = k := idx_nat k
 have e4 : levOk (z (ixN k)) = true := by rw [hx]; exact allN_at hz hk
 cases k with
 | zero =>
  unfold msS
  refine sk_yes e1 (sk_need e2 (sk_need e3 (sk_need e4 (sk_leaf (rnd_next ?_ rfl)))))
  rw [wrap_succ (by omega)]
  exact le_news (show 1 + 1 ≤ lim by decide) ⟨⟨rfl, one_rowsC (by rw [show ixN 0 = 0 from idx_nat 0]; rfl)⟩, trivial⟩
 | succ k =>
  unfold msS
  have d0 : ((Tryz.prog.info? 56).map (·.bytes)).getD 0 = 4 := by kernel_rfl
  refine sk_yes e1 (sk_need e2 (sk_need e3 (sk_need e4 (sk_need (apN_ok (by rw [d0]; decide) (by omega)) (sk_leaf (rnd_next ?_ rfl))))))
  rw [wrap_succ (by omega), putX_eq]
  exact St.Le.refl _
theorem ms_last : SkLeads (RndEnd (.exit 0, msX lv sm n z n)) (msS lv sm n z n) := by
 cases n with
 | zero => unfold msS; exact sk_no (rnd_end 0) (sk_leaf rfl)
 | succ k => unfold msS; exact sk_no (rnd_end (k + 1)) (sk_leaf rfl)
theorem msO_is : msOo lv sm n z = .leaf (.inr (pathF Tryz.f88, msH lv sm n z 0)) := by kernel_rfl
def msR (k : Nat) : St := msN n z [(4, slO 1 1 (k + 1))] [msO lv sm z (k + 1)]
theorem msP_is (k : Nat) : msP lv sm n z (.exit 0, msX lv sm n z (k + 1)) = .leaf (.inl (.ret, msR lv sm n z k)) := by kernel_rfl
end
theorem ms_loop {n : Nat} {z : Nat → Int} (hn : n ≤ 1000000) (hz : allN levOk z n = true) : ComesF Tryz.prog (.loop (loopF Tryz.f88)) (msB n z) (msH levQ smpQ n z 0) fun q => q = (.exit 0, msX levQ smpQ n z n) :=
 loop_count reM_ok rfl [1, 5, 8, 9, 10] [5] (msH levQ smpQ n z) (fun _ => (.exit 0, msX levQ smpQ n z n)) n (msT levQ smpQ n z) (msS levQ smpQ n z) (fun k => by delta msT; rfl) (ms_into levQ smpQ n z) (ms_fits levQ smpQ n z) (ms_step levQ smpQ n z hn hz) (ms_last levQ smpQ n z)
theorem ms_left (lv : Nat → Int) (sm : Int → Nat) (z : Nat → Int) (k : Nat) : Left2 Tryz.prog Tryz.f88 (msH0 (k + 1) z) (slO 1 1 (k + 1)) (hpT [⟨some 0, k + 1, msC z⟩] [] [msO lv sm z (k + 1)]) (.ret, msR lv sm (k + 1) z k) := left_of (b := false) (by kernel_rfl)
theorem ms_call (k : Nat) (z : Nat → Int) (hn : k + 1 ≤ 1000000) (hz : allN levOk z (k + 1) = true) : CallAt Tryz.prog 88 [slT 0 1 (k + 1), fnA 89] (msH0 (k + 1) z) (slO 1 1 (k + 1)) (hpT [⟨some 0, k + 1, msC z⟩] [] [msO levQ smpQ z (k + 1)]) := by
 refine call_base reM_ok (c := bodyOf Tryz.f88) (fn := Tryz.f88) Tryz.func88 (by kernel_rfl) (by kernel_rfl) (false, false) 1 [1, 5, 8, 9, 10] [4] (sB := msB (k + 1) z) (by kernel_rfl) (msO_is levQ smpQ (k + 1) z) ?_
 refine (sk_stop _ true [] [4] (ms_loop hn hz) fun q hq => ?_).all
 subst hq
 exact leads_leaf (show _ = msP levQ smpQ (k + 1) z (.exit 0, msX levQ smpQ (k + 1) z (k + 1)) by delta msP; rfl) (msP_is levQ smpQ (k + 1) z k) (cutF_dn (ms_left levQ smpQ z k))
def msF (lv : Nat → Int) (sm : Int → Nat) : FT
 | [], [], [], [⟨some _, n, [.int .i64 z]⟩] => .need (Nat.blt 0 n && (Nat.ble n 1000000 && allN levOk z n)) (.leaf (slO 1 1 n, [msO lv sm z n]))
 | _, _, _, _ => .fail 726
def msSp (lv : Nat → Int) (sm : Int → Nat) : Spec := fun args h => specT [(false, [.t intD]), (false, [.fn 89])] [] (msF lv sm) args h
theorem ms_ok : SpecOk Tryz.prog 88 (msSp levQ smpQ) := by
 refine specT_ok rfl (by decide) fun l m n ts v news hl hm hn ht hnil hF => ?_
 unfold msF at hF
 split at hF
 ·rename_i id n z
  obtain ⟨hok, hF⟩ := Tree.need_some hF
  rw [Bool.and_eq_true, Bool.and_eq_true, Nat.blt_eq] at hok
  simp only [Tree.run, Option.some.injEq, Prod.mk.injEq] at hF
  obtain ⟨rfl, rfl⟩ := hF
  obtain ⟨k, rfl⟩ : ∃ k, n = k + 1 := ⟨n - 1, by omega⟩
  exact ms_call k z (Nat.le_of_ble_eq_true hok.2.1) hok.2.2
 ·cases hF
end Go.Ev
