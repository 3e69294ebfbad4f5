/- Functions on maps and grids: checks, levels, blanks, copies. Conditions: samples of 0 and 0.25. -/
import Derived.Test.YtjckcdpjibfacaaGreatMap
namespace Go.Ev
open Go Go.Proofs
set_option maxRecDepth 100000
def rowsSp : Spec := fun _ _ => .fail 777
theorem rowsSp_ok : SpecOk Tryz.prog 999999 rowsSp := by
 intro args h v h' hr
 cases hr
def tbN (lv : Nat → Int) (sm : Int → Nat) : List (FuncId × Spec) := (999999, rowsSp) :: (81, mkSp lv sm) :: (83, mlSp lv sm) :: (88, msSp lv sm) :: tbM lv sm
theorem tbN_ok : TabOk Tryz.prog (tabOf (tbN levQ smpQ)) := tab_cons (tab_cons (tab_cons (tab_cons tbM_ok ms_ok) ml_ok) mk_ok) rowsSp_ok
noncomputable def reN (lv : Nat → Int) (sm : Int → Nat) : Code → St → Tree (X × St) := recT Tryz.prog (tabOf (tbN lv sm))
theorem reN_ok : RecOk Tryz.prog (reN levQ smpQ) := recT_ok tbN_ok
def gridA (w h : Int) (n : Nat) : A := .agg [ci w, ci h, slC false 0 1 n]
def ptO (w h : Int) (k n : Nat) : List C := [ci w, ci h, slC true k 1 n]
section
variable (lv : Nat → Int) (sm : Int → Nat) (w h : Int) (n : Nat) (z : Nat → Nat)
noncomputable def cmT : Tree ((Bool × A × Hp) ⊕ (List Bool × St)) := preA Tryz.prog (tabOf (tbN lv sm)) Tryz.f53 [gridA w h n] (mkH0 n z) (false, false)
def zroN (n : Nat) : Int := (fnz (fun _ => 0) n 0).getD 0
def cmS : SkL := .node (firstZ [wW w 1 64, wW h 1 64] != 0) (.leaf (.inl (true, int (firstZ [wW w 1 64, wW h 1 64]), mkH0 n z)))
 (.node ((n : Int) != IntKind.i64.wrap (w * h)) (.leaf (.inl (true, int 2, mkH0 n z))) (.need (okN n) (.need (Nat.blt 0 n && (Nat.ble n 1000000 && allN qOk z n)) (.need (Nat.ble n n) (.leaf (.inl (true, int (zroN n), mkH0 n z)))))))
theorem cm_into : cmT lv sm w h n z = into (cmT lv sm w h n z) (cmS w h n z) := by kernel_rfl
theorem cm_fits : fits (cmT lv sm w h n z) (cmS w h n z) = true := by kernel_rfl
def leN : List Blk := [⟨false, 104, .flat (ptO w h 2 n)⟩, mlO lv sm z n]
def leB : St := { baseB 11 [gridA w h n] (mkH0 n z) with wide := true }
noncomputable def leO : Tree ((X × St) ⊕ (List Bool × St)) := evO (reN lv sm) (bodyOf Tryz.f54) [] [2] (leB w h n z)
def leR : St := { stN 11 (envL [(2, pt 1)]) (bsS [⟨some 0, n, mkC z⟩] []) [] (leN lv sm w h n z) with wide := true }
def leS : SkO := .need (okN n) (.need (Nat.blt 0 n && (Nat.ble n 1000000 && allN qOk z n)) (.leaf (.inl (.ret, leR lv sm w h n z))))
theorem le_into : leO lv sm w h n z = into (leO lv sm w h n z) (leS lv sm w h n z) := by kernel_rfl
theorem le_fits : fits (leO lv sm w h n z) (leS lv sm w h n z) = true := by kernel_rfl
theorem le_left : Left2 Tryz.prog Tryz.f54 (mkH0 n z) (.agg (ptO w h 2 n)) (hpT [⟨some 0, n, mkC z⟩] [] (leN lv sm w h n z)) (.ret, leR lv sm w h n z) := left_of (b := false) (by kernel_rfl)
def blB : St := baseB 12 [int w, int h] (hpT [] [] [])
noncomputable def blO : Tree ((X × St) ⊕ (List Bool × St)) := evO (reN lv sm) (bodyOf Tryz.f85) [] [4] (blB w h)
def blN (w h : Int) : List Blk := [⟨false, 104, .flat (ptO w h 1 (Int.toNat (IntKind.i64.wrap (w * h))))⟩, ⟨false, 3, .rows (Int.toNat (IntKind.i64.wrap (w * h))) [.int .i64 fun _ => 0]⟩]
def blR : St := stN 12 (envL [(4, pt 0)]) (bsS [] []) [] (blN w h)
def mdH0 (g : Nat → Int) : Hp := hpT [⟨some 0, n, [.int .i64 g]⟩] [] []
def mdB (g : Nat → Int) : St := { baseB 29 [gridA w h n] (mdH0 n g) with wide := true }
def mdN (g : Nat → Int) (env : List (Nat × A)) (news : List Blk) : St := { stN 29 (envL env) (bsS [⟨some 0, n, [.int .i64 g]⟩] []) [] news with wide := true }
noncomputable def mdO (g : Nat → Int) : Tree ((X × St) ⊕ (List Bool × St)) := evO (reN lv sm) (bodyOf Tryz.f57) [1, 2, 7, 8, 9] [2, 3] (mdB w h n g)
def mdW : List Blk := [⟨false, 104, .flat [ci w, ci h, slC false 0 1 n]⟩, ⟨false, 47, .flat [ci 0, ci 0, nilC]⟩]
def mdE (i : Int) : List (Nat × A) := [(1, pt 1), (2, pt 2), (7, slT 0 1 n), (8, int n), (9, int i)]
def mdH (g : Nat → Int) (i : Int) : St := mdN n g (mdE n i) (mdW w h n)
noncomputable def mdT (g : Nat → Int) (k : Nat) : Tree (X × St) := (reN lv sm (loopF Tryz.f57) (mdH w h n g (k : Int))).bind (canonT [1, 2, 7, 8, 9] [1, 2] (mdB w h n g))
def mdX (g : Nat → Int) : St := mdN n g [(1, pt 1), (2, pt 2)] (mdW w h n)
noncomputable def mdP (g : Nat → Int) (q : X × St) : Tree ((X × St) ⊕ (List Bool × St)) := evO2 (reN lv sm) true (bodyOf Tryz.f57) [true, false, true] [] [2, 3] (mdB w h n g) q
def ttB : St := baseB 26 [gridA w h n] (mkH0 n z)
def ttN (env : List (Nat × A)) (news : List Blk) : St := stN 26 (envL env) (bsS [⟨some 0, n, mkC z⟩] []) [] news
noncomputable def ttO (ck : Spec) (le : Spec) : Tree ((X × St) ⊕ (List Bool × St)) := evO (recT Tryz.prog (tabOf ((53, ck) :: (54, le) :: tbN lv sm))) (bodyOf Tryz.f22) [5, 15, 16, 17] [2, 3] (ttB w h n z)
def owH0 : Hp := mkH0 n z
noncomputable def owO : Tree ((X × St) ⊕ (List Bool × St)) := evO (reN lv sm) (bodyOf Tryz.f21) [] [2] (baseB 9 [gridA w h n] (mkH0 n z))
end
end Go.Ev
namespace Go.Ev
open Go Go.Proofs
set_option maxRecDepth 100000
def mapOk (w h : Int) (n : Nat) : Bool := decide (w = n) && (decide (h = 1) && (Nat.blt 0 n && Nat.ble n 64))
theorem mapOk_iff {w h : Int} {n : Nat} (hm : mapOk w h n = true) : w = n ∧ h = 1 ∧ 0 < n ∧ n ≤ 64 := by
 unfold mapOk at hm
 simp only [Bool.and_eq_true, decide_eq_true_eq, Nat.blt_eq] at hm
 exact ⟨hm.1, hm.2.1, hm.2.2.1, Nat.le_of_ble_eq_true hm.2.2.2⟩
theorem zro_is (n : Nat) : zroN n = 0 := by
 unfold zroN
 have key : ∀ (n k : Nat), fnz (fun _ => 0) n k = none := by
  intro n
  induction n with
  | zero => intro k; rfl
  | succ n ih => intro k; unfold fnz; exact ih (k + 1)
 rw [key]
 rfl
theorem cm_call {w h : Int} {n : Nat} {z : Nat → Nat} (hm : mapOk w h n = true) (hz : allN qOk z n = true) : CallAt Tryz.prog 53 [gridA w h n] (mkH0 n z) (int 0) (mkH0 n z) := by
 obtain ⟨rfl, rfl, h0, h1⟩ := mapOk_iff hm
 refine call_sk tbN_ok Tryz.func53 (by kernel_rfl) (false, false) (by kernel_rfl) (S := cmS n 1 n z) (cm_into levQ smpQ n 1 n z) (cm_fits levQ smpQ n 1 n z) (SkLeads.all ?_)
 have e1 : firstZ [wW (n : Int) 1 64, wW 1 1 64] = 0 := by
  have : wW (n : Int) 1 64 = 0 := by unfold wW errIf; rw [decide_eq_false (by omega), decide_eq_false (by omega)]; rfl
  rw [this]; rfl
 have e2 : ((n : Int) != IntKind.i64.wrap ((n : Int) * 1)) = false := by
  rw [Int.mul_one, wrap_id (by omega) (by omega)]; simp
 refine sk_no (by rw [e1]; rfl) (sk_no e2 (sk_need (okN_ok n) (sk_need ?_ (sk_need (ble_self n) (sk_leaf ?_)))))
 ·rw [Bool.and_eq_true, Bool.and_eq_true, Nat.blt_eq, Nat.ble_eq]
  exact ⟨h0, by omega, hz⟩
 ·rw [zro_is]
def cmF : FT
 | [w, h], [], [], [⟨some _, n, [.flt .f32 z]⟩] => .need (mapOk w h n && allN qOk z n) (.leaf (int 0, []))
 | _, _, _, _ => .fail 730
def cmSp : Spec := fun args h => specT [(true, [.i, .i, .t fltD])] [] cmF args h
theorem cmS_ok : SpecOk Tryz.prog 53 cmSp := by
 refine specT_ok rfl (by decide) fun l m n ts v news hl hm hn ht hnil hF => ?_
 unfold cmF at hF
 split at hF
 ·obtain ⟨hok, hF⟩ := Tree.need_some hF
  rw [Bool.and_eq_true] at hok
  simp only [Tree.run, Option.some.injEq, Prod.mk.injEq] at hF
  obtain ⟨rfl, rfl⟩ := hF
  exact cm_call hok.1 hok.2
 ·cases hF
def nzB {α : Type} (p : α → Bool) (z : Nat → α) (n : Nat) : Bool := Nat.blt 0 n && (Nat.ble n 1000000 && allN p z n)
theorem le_call {w h : Int} {n : Nat} {z : Nat → Nat} (hz : nzB qOk z n = true) : CallAt Tryz.prog 54 [gridA w h n] (mkH0 n z) (.agg (ptO w h 2 n)) (hpT [⟨some 0, n, mkC z⟩] [] (leN levQ smpQ w h n z)) :=
 call_baseS reN_ok (c := bodyOf Tryz.f54) (fn := Tryz.f54) Tryz.func54 (by kernel_rfl) (by kernel_rfl) (true, false) 0 [] [2] (sB := leB w h n z) (by kernel_rfl) (t := leO levQ smpQ w h n z) (by delta leO; rfl) (le_into levQ smpQ w h n z) (le_fits levQ smpQ w h n z)
  (sk_need (okN_ok n) (sk_need hz (sk_done (le_left levQ smpQ w h n z))))
def leF (lv : Nat → Int) (sm : Int → Nat) : FT
 | [w, h], [], [], [⟨some _, n, [.flt .f32 z]⟩] => .need (nzB qOk z n) (.leaf (.agg (ptO w h 2 n), leN lv sm w h n z))
 | _, _, _, _ => .fail 731
def leSp (lv : Nat → Int) (sm : Int → Nat) : Spec := fun args h => specT [(true, [.i, .i, .t fltD])] [] (leF lv sm) args h
theorem leS_ok : SpecOk Tryz.prog 54 (leSp levQ smpQ) := by
 refine specT_ok rfl (by decide) fun l m n ts v news hl hm hn ht hnil hF => ?_
 unfold leF at hF
 split at hF
 ·obtain ⟨hok, hF⟩ := Tree.need_some hF
  simp only [Tree.run, Option.some.injEq, Prod.mk.injEq] at hF
  obtain ⟨rfl, rfl⟩ := hF
  exact le_call hok
 ·cases hF
def blM (w h : Int) (n : Nat) : List Blk := [⟨false, 104, .flat (ptO w h 1 n)⟩, ⟨false, 3, .rows n [.int .i64 fun _ => 0]⟩]
noncomputable def blC (w h : Int) : Bool := decide (IntKind.i64.wrap (w * h) = IntKind.i64.wrap (w * h)) && decide (0 ≤ IntKind.i64.wrap (w * h)) && Nat.ble ((IntKind.i64.wrap (w * h)).toNat * 8) 140737488355328 && Nat.ble (IntKind.i64.wrap (w * h)).toNat 9223372036854775807
noncomputable def blS (w h : Int) : SkO := .need (blC w h) (.leaf (.inl (.ret, blR w h)))
theorem bl_into (lv : Nat → Int) (sm : Int → Nat) (w h : Int) : blO lv sm w h = into (blO lv sm w h) (blS w h) := by kernel_rfl
theorem bl_fits (lv : Nat → Int) (sm : Int → Nat) (w h : Int) : fits (blO lv sm w h) (blS w h) = true := by kernel_rfl
theorem bl_left (w h : Int) : Left2 Tryz.prog Tryz.f85 (hpT [] [] []) (.agg (ptO w h 1 (Int.toNat (IntKind.i64.wrap (w * h))))) (hpT [] [] (blN w h)) (.ret, blR w h) := left_of (b := false) (by kernel_rfl)
theorem bl_call {n : Nat} (h0 : 0 < n) (h1 : n ≤ 64) : CallAt Tryz.prog 85 [int n, int 1] (hpT [] [] []) (.agg (ptO n 1 1 n)) (hpT [] [] (blM n 1 n)) := by
 have e : IntKind.i64.wrap ((n : Int) * 1) = n := by rw [Int.mul_one, wrap_id (by omega) (by omega)]
 have hl := bl_left (n : Int) 1
 have hb : blN (n : Int) 1 = blM n 1 n := by unfold blN blM; rw [e]; rfl
 rw [e, hb] at hl
 refine call_baseS reN_ok (c := bodyOf Tryz.f85) (fn := Tryz.f85) Tryz.func85 (by kernel_rfl) (by kernel_rfl) (false, false) 0 [] [4] (sB := blB n 1) (by kernel_rfl) (t := blO levQ smpQ n 1) (by delta blO; rfl) (bl_into levQ smpQ n 1) (bl_fits levQ smpQ n 1)
  (sk_need ?_ (sk_done hl))
 unfold blC
 rw [e]
 rw [Int.toNat_natCast]
 simp only [Bool.and_eq_true, decide_eq_true_eq, Nat.ble_eq, true_and]
 refine ⟨⟨?_, ?_⟩, ?_⟩ <;> omega
def blF : FT
 | [w, h], [], [], [] => .need (mapOk w h w.toNat) (.leaf (.agg (ptO w h 1 w.toNat), blM w h w.toNat))
 | _, _, _, _ => .fail 732
def blSp : Spec := fun args h => specT [(false, [.i]), (false, [.i])] [] blF args h
theorem blS_ok : SpecOk Tryz.prog 85 blSp := by
 refine specT_ok rfl (by decide) fun l m n ts v news hl hm hn ht hnil hF => ?_
 unfold blF at hF
 split at hF
 ·rename_i w h
  obtain ⟨hok, hF⟩ := Tree.need_some hF
  simp only [Tree.run, Option.some.injEq, Prod.mk.injEq] at hF
  obtain ⟨rfl, rfl⟩ := hF
  obtain ⟨e, rfl, h0, h1⟩ := mapOk_iff hok
  have hc := bl_call h0 h1
  rw [← e] at hc
  exact hc
 ·cases hF
section
variable (lv : Nat → Int) (sm : Int → Nat) (w h : Int) (n : Nat) (g : Nat → Int)
def mdYes : St := mdN n g [(1, pt 1), (2, pt 2), (3, int 4)] (mdW w h n)
def mdS (Y : St) (k : Nat) : SkX := .node (decide ((k : Int) < (n : Int))) (.need (kB n k) (.need (Nat.blt (ixN k) n) (.node (decide (g (ixN k) < -16384)) (.tt (.leaf (.ret, Y))) (.node (decide (g (ixN k) > 16384)) (.leaf (.ret, Y)) (.leaf (.normal, mdH w h n g (IntKind.i64.wrap ((k : Int) + 1)))))))) (.leaf (.exit 0, mdX w h n g))
def mdM : List Blk := [⟨false, 47, .flat (ptO w h 2 n)⟩, msO lv sm g n]
def mdR : St := mdN n g [(2, pt 1), (3, int 0)] (mdM lv sm w h n g)
def mdS2 : SkO := .need (okN n) (.need (nzB levOk g n) (.leaf (.inl (.ret, mdR lv sm w h n g))))
theorem mdO_is : mdO lv sm w h n g = .leaf (.inr ([true, false, true], mdH w h n g ((0 : Nat) : Int))) := by kernel_rfl
theorem mdT_into (k : Nat) : mdT lv sm w h n g k = into (mdT lv sm w h n g k) (mdS w h n g (mdX w h n g) k) := by kernel_rfl
theorem mdT_fits (k : Nat) : fits (mdT lv sm w h n g k) (mdS w h n g (mdX w h n g) k) = true := by kernel_rfl
theorem mdP_into : mdP lv sm w h n g (.exit 0, mdX w h n g) = into (mdP lv sm w h n g (.exit 0, mdX w h n g)) (mdS2 lv sm w h n g) := by kernel_rfl
theorem mdP_fits : fits (mdP lv sm w h n g (.exit 0, mdX w h n g)) (mdS2 lv sm w h n g) = true := by kernel_rfl
theorem md_left : Left2 Tryz.prog Tryz.f57 (mdH0 n g) (.tup [(true, ptO w h 2 n), (false, [ci 0])]) (hpT [⟨some 0, n, [.int .i64 g]⟩] [] (mdM lv sm w h n g)) (.ret, mdR lv sm w h n g) := left_of (b := false) (by kernel_rfl)
end
end Go.Ev
