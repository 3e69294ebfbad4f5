/- Air: flat, stages, the stage of a vector: states. Conditions: none. -/
import Derived.Test.YtkalcencblhlgaaGreatDoorAir0
import Derived.Test.YtkalcencblhlgaaGreatDoorSpl
namespace Go.Ev
open Go Go.RowKit Go.Proofs
set_option maxRecDepth 100000
def flW (x y : Int) : Int := w64 (max2 x (w64 (0 - x)) + max2 y (w64 (0 - y)))
def flV : List Int → List Bool → A
 | [x, y, _], [] => int (flW x y)
 | _, _ => int 0
def flK : List Int → List Bool → Bool
 | [_, _, _], [] => true
 | _, _ => false
theorem fl_run (x y z : Int) : (evFun Tryz.prog (tabOf tbK) modes 100 80 (encA [.v 3] [x, y, z] []) hp0).run = some (int (flW x y), hp0) := by kernel_rfl
theorem fl_ok : SpecOk Tryz.prog 80 (specI [.v 3] flK flV) := specI_ok (fun l m => by unfold flV; split <;> rfl) fun l m hl hm hok => match l, m, hl, hm, hok with
 | [x, y, z], [], _, _, _ => call_ev tbK_ok (fl_run x y z)
def tbF : List (FuncId × Spec) := (80, specI [.v 3] flK flV) :: tbK
theorem tbF_ok : TabOk Tryz.prog (tabOf tbF) := tab_cons tbK_ok fl_ok
def zg0 (f : Nat → Int) : Nat → Int
 | 0 => 0
 | k + 1 => f k
def zg2 : Nat → Int
 | 0 => -1
 | k + 1 => (k : Int)
def zgC (f l : Nat → Int) : List Col := [.int .i64 (zg0 f), .int .i64 (zg0 l), .int .i64 zg2]
section
variable (n : Nat) (f l : Nat → Int)
def zgB : St := baseB 23 [slT 0 2 n] (arH n f l)
def zgT (k : Nat) : Blk := ⟨false, 152, .rows (k + 1) (zgC f l)⟩
def zgH (k : Nat) : St := arN 23 n f l [(3, .one (.sl true 1 0 3 0 (k + 1))), (8, slT 0 2 n), (9, int n), (10, int (k : Int))] [zgT f l k]
def zgX (k : Nat) : St := arN 23 n f l [(3, .one (.sl true 1 0 3 0 (k + 1)))] [zgT f l k]
noncomputable def zgTr (k : Nat) : Tree (X × St) := (reK (loopF Tryz.f82) (zgH n f l k)).bind (canonT [3, 8, 9, 10] [3] (zgB n f l))
noncomputable def zgO : Tree ((X × St) ⊕ (List Bool × St)) := evO reK (bodyOf Tryz.f82) [3, 8, 9, 10] [2] (zgB n f l)
noncomputable def zgP (q : X × St) : Tree ((X × St) ⊕ (List Bool × St)) := evO2 reK true (bodyOf Tryz.f82) (pathF Tryz.f82) [] [2] (zgB n f l) q
end
def zgF : FT
 | [], [], [], [⟨some _, n, [.int .i64 f, .int .i64 l]⟩] => .need (Nat.ble n 1000000) (.leaf (.one (.sl true 1 0 3 0 (n + 1)), [zgT f l n]))
 | [], [], [], [⟨none, _, [.int .i64 f, .int .i64 l]⟩] => .leaf (.one (.sl true 0 0 3 0 1), [zgT f l 0])
 | _, _, _, _ => .fail 752
def zgSp : Spec := fun args h => specT [(false, [.t stD])] [] zgF args h
def tbG : List (FuncId × Spec) := (82, zgSp) :: tbF
noncomputable def reG : Code → St → Tree (X × St) := recT Tryz.prog (tabOf tbG)
section
variable (n : Nat) (f l : Nat → Int) (x y z : Int)
def vec3 (t : TypeId) (a b c : Int) : Blk := ⟨false, t, .flat [ci a, ci b, ci c]⟩
def ofB : St := baseB 34 [slT 0 2 n, vec x y z] (arH n f l)
def ofH (a b c : Int) (i : Int) : St := arN 34 n f l [(3, pt 1), (4, pt 2), (6, pt 3), (15, .one (.sl false 4 1 3 0 n)), (16, int n), (17, int i)] [vec3 29 x y z, vec3 152 0 0 0, vec3 152 a b c, zgT f l n]
def ofX (a b c : Int) : St := arN 34 n f l [(4, pt 1), (6, pt 2)] [vec3 152 0 0 0, vec3 152 a b c]
noncomputable def ofT (a b c : Int) (k : Nat) : Tree (X × St) := (reG (loopF Tryz.f81) (ofH n f l x y z a b c (k : Int))).bind (canonT [3, 4, 6, 15, 16, 17] [4, 6] (ofB n f l x y z))
noncomputable def ofO : Tree ((X × St) ⊕ (List Bool × St)) := evO reG (bodyOf Tryz.f81) [3, 4, 6, 15, 16, 17] [4] (ofB n f l x y z)
noncomputable def ofP (q : X × St) : Tree ((X × St) ⊕ (List Bool × St)) := evO2 reG true (bodyOf Tryz.f81) (pathF Tryz.f81) [] [4] (ofB n f l x y z) q
end
end Go.Ev
namespace Go.Ev
open Go Go.RowKit Go.Proofs
set_option maxRecDepth 100000
theorem bytes_stage : ((Tryz.prog.info? 152).map (·.bytes)).getD 0 ≤ 64 := by
 rw [show ((Tryz.prog.info? 152).map (·.bytes)).getD 0 = 24 by kernel_rfl]; decide
section
variable (n : Nat) (f l : Nat → Int)
noncomputable def zgS (k : Nat) : SkX := .node (decide ((k : Int) < (n : Int))) (.need (kB n k) (.need (Nat.blt (ixN k) n) (.need (Nat.blt (ixN k) n) (.need (apN 152 k) (.leaf (.normal, arN 23 n f l [(3, .one (.sl true 1 0 3 0 (k + 1 + 1))), (8, slT 0 2 n), (9, int n), (10, int (IntKind.i64.wrap ((k : Int) + 1)))]
 [⟨false, 152, .rows (k + 1 + 1) [.int .i64 (putF (zg0 f) (k + 1) (f (ixN k))), .int .i64 (putF (zg0 l) (k + 1) (l (ixN k))), .int .i64 (putF zg2 (k + 1) (k : Int))]⟩])))))) (.leaf (.exit 0, zgX n f l k))
theorem zg_into (k : Nat) : zgTr n f l k = into (zgTr n f l k) (zgS n f l k) := by kernel_rfl
theorem zg_fits (k : Nat) : fits (zgTr n f l k) (zgS n f l k) = true := by kernel_rfl
def zgH0 : St := arN 23 n f l [(3, .one (.sl true 1 0 3 0 1)), (8, slT 0 2 n), (9, int n), (10, int 0)] [vec3 152 0 0 (-1)]
theorem zgO_is : zgO n f l = .leaf (.inr (pathF Tryz.f82, zgH0 n f l)) := by kernel_rfl
theorem zg_step (hn : n ≤ 1000000) (k : Nat) (hk : k < n) : SkLeads (Rnd (zgH n f l) (fun _ => (.exit 0, zgX n f l n)) k) (zgS n f l k) := by
 obtain ⟨e1, e2, e3⟩ := rnd_lt hk
 have hi : Nat.blt (ixN k) n = true := e3
 refine sk_yes e1 (sk_need e2 (sk_need hi (sk_need hi (sk_need (apN_ok bytes_stage (by omega)) (sk_leaf (rnd_next ?_ rfl))))))
 rw [wrap_succ (by omega), show ixN k = k from idx_nat k, show putF (zg0 f) (k + 1) (f k) = zg0 f from putF_self (zg0 f) (k + 1), show putF (zg0 l) (k + 1) (l k) = zg0 l from putF_self (zg0 l) (k + 1), show putF zg2 (k + 1) (k : Int) = zg2 from putF_self zg2 (k + 1)]
 exact St.Le.refl _
theorem zg_last : SkLeads (RndEnd (.exit 0, zgX n f l n)) (zgS n f l n) := sk_no (rnd_end n) (sk_leaf rfl)
end
theorem three_rows {x0 x1 x2 : Int} {g0 g1 g2 : Nat → Int} (h0 : x0 = g0 0) (h1 : x1 = g1 0) (h2 : x2 = g2 0) {e : TypeId} : ∀ (E : Env) (w : World) (p : Nat × Nat × Nat), blkIs E w p ⟨false, e, .flat [ci x0, ci x1, ci x2]⟩ → blkIs E w p ⟨false, e, .rows 1 [.int .i64 g0, .int .i64 g1, .int .i64 g2]⟩ := by
 subst h0; subst h1; subst h2
 refine blk_body rfl (fun cs e => by cases e) fun E arr hh => rows_one rfl (fun j c col h1 h2 => ?_) hh
 match j, h1, h2 with
 | 0, h1, h2 => injection h1 with h1; injection h2 with h2; subst h1; subst h2; rfl
 | 1, h1, h2 => injection h1 with h1; injection h2 with h2; subst h1; subst h2; rfl
 | 2, h1, h2 => injection h1 with h1; injection h2 with h2; subst h1; subst h2; rfl
section
variable (n : Nat) (f l : Nat → Int)
theorem zg_loop (hn : n ≤ 1000000) : ComesF Tryz.prog (.loop (loopF Tryz.f82)) (zgB n f l) (zgH0 n f l) fun q => q = (.exit 0, zgX n f l n) := by
 refine comesF_le (t := zgH n f l 0) (le_news (show 1 + 1 ≤ lim by decide) ⟨⟨rfl, three_rows (g0 := zg0 f) (g1 := zg0 l) (g2 := zg2) rfl rfl rfl⟩, trivial⟩) ?_
 exact loop_count reK_ok rfl [3, 8, 9, 10] [3] (zgH n f l) (fun _ => (.exit 0, zgX n f l n)) n (zgTr n f l) (zgS n f l) (fun k => by delta zgTr; rfl) (zg_into n f l) (zg_fits n f l) (zg_step n f l hn) (zg_last n f l)
def zgR (k : Nat) : St := arN 23 n f l [(2, .one (.sl true 1 0 3 0 (k + 1)))] [zgT f l k]
theorem zgP_is (k : Nat) : zgP n f l (.exit 0, zgX n f l k) = .leaf (.inl (.ret, zgR n f l k)) := by kernel_rfl
theorem zg_left (k : Nat) : Left2 Tryz.prog Tryz.f82 (arH n f l) (.one (.sl true 1 0 3 0 (k + 1))) (hpT [⟨some 0, n, stC f l⟩] [] [zgT f l k]) (.ret, zgR n f l k) := left_of (b := false) (by kernel_rfl)
theorem zg_call (hn : n ≤ 1000000) : CallAt Tryz.prog 82 [slT 0 2 n] (arH n f l) (.one (.sl true 1 0 3 0 (n + 1))) (hpT [⟨some 0, n, stC f l⟩] [] [zgT f l n]) := by
 refine call_base reK_ok (c := bodyOf Tryz.f82) (fn := Tryz.f82) Tryz.func82 (by kernel_rfl) (by kernel_rfl) (false, false) 1 [3, 8, 9, 10] [2] (sB := zgB n f l) (by kernel_rfl) (zgO_is n f l) ?_
 refine (sk_stop _ true [] [2] (zg_loop n f l hn) fun q hq => ?_).all
 subst hq
 exact leads_leaf (show _ = zgP n f l (.exit 0, zgX n f l n) by delta zgP; rfl) (zgP_is n f l n) (cutF_dn (zg_left n f l n))
end
theorem zg_nil (f l : Nat → Int) : CallAt Tryz.prog 82 [.one nilC] (hpT [⟨none, 0, stC f l⟩] [] []) (.one (.sl true 0 0 3 0 1)) (hpT [⟨none, 0, stC f l⟩] [] [zgT f l 0]) := by
 have h : CallAt Tryz.prog 82 [.one nilC] (hpT [⟨none, 0, stC f l⟩] [] []) (.one (.sl true 0 0 3 0 1)) (hpT [⟨none, 0, stC f l⟩] [] [vec3 152 0 0 (-1)]) := call_ev tbK_ok (by kernel_rfl)
 exact call_le h (le_news (size := 0) (env := .nil) (kp := false) (show 0 + 1 ≤ lim by decide) ⟨⟨rfl, three_rows (g0 := zg0 f) (g1 := zg0 l) (g2 := zg2) rfl rfl rfl⟩, trivial⟩)
theorem zg_ok : SpecOk Tryz.prog 82 zgSp := by
 refine specT_ok rfl (by decide) fun l' m n' ts v news hl hm hn ht hnil hF => ?_
 unfold zgF at hF
 split at hF
 ·rename_i id n f l
  obtain ⟨hok, hF⟩ := Tree.need_some hF
  simp only [Tree.run, Option.some.injEq, Prod.mk.injEq] at hF
  obtain ⟨rfl, rfl⟩ := hF
  exact zg_call n f l (Nat.le_of_ble_eq_true hok)
 ·rename_i n f l
  simp only [Tree.run, Option.some.injEq, Prod.mk.injEq] at hF
  obtain ⟨rfl, rfl⟩ := hF
  have h0 : n = 0 := hnil _ (List.mem_singleton.2 rfl) rfl
  subst h0
  exact zg_nil f l
 ·cases hF
theorem tbG_ok : TabOk Tryz.prog (tabOf tbG) := tab_cons tbF_ok zg_ok
theorem reG_ok : RecOk Tryz.prog reG := recT_ok tbG_ok
def cnd (f : Nat → Int) (x y z : Int) (k : Nat) : Bool := decide (IntKind.i64.wrap (zg0 f (k + 1) * flW x y) ≤ IntKind.i64.wrap (64 * z))
def ofJ (f : Nat → Int) (x y z : Int) : Nat → Nat
 | 0 => 0
 | k + 1 => match cnd f x y z k with
  | true => k + 1
  | false => ofJ f x y z k
section
variable (n : Nat) (f l : Nat → Int) (x y z : Int)
def ixO (k : Nat) : Nat := 1 + (k : Int).toNat
noncomputable def ofS (a b c : Int) (k : Nat) : SkX := .node (decide ((k : Int) < (n : Int))) (.need (kB n k) (need3 (Nat.blt (ixO k) (n + 1)) (.node (decide (IntKind.i64.wrap (zg0 f (ixO k) * flW x y) ≤ IntKind.i64.wrap (64 * z)))
 (.leaf (.normal, ofH n f l x y z (zg0 f (ixO k)) (zg0 l (ixO k)) (zg2 (ixO k)) (IntKind.i64.wrap ((k : Int) + 1)))) (.leaf (.normal, ofH n f l x y z a b c (IntKind.i64.wrap ((k : Int) + 1))))))) (.leaf (.exit 0, ofX n f l a b c))
theorem of_into (a b c : Int) (k : Nat) : ofT n f l x y z a b c k = into (ofT n f l x y z a b c k) (ofS n f l x y z a b c k) := by kernel_rfl
theorem of_fits (a b c : Int) (k : Nat) : fits (ofT n f l x y z a b c k) (ofS n f l x y z a b c k) = true := by kernel_rfl
noncomputable def ofOS : SkO := .need (okN n) (.need (Nat.ble n 1000000) (.need (decide ((0 : Int) ≤ 0) && decide ((0 : Int) < ((n + 1 : Nat) : Int))) (.nn (.nn (.nn (.need (decide ((0 : Int) ≤ 1) && decide ((1 : Int) ≤ ((n + 1 : Nat) : Int)) && decide (((n + 1 : Nat) : Int) ≤ ((n + 1 : Nat) : Int))) (.leaf (.inr (pathF Tryz.f81, ofH n f l x y z 0 0 (-1) 0)))))))))
theorem ofO_into : ofO n f l x y z = into (ofO n f l x y z) (ofOS n f l x y z) := by kernel_rfl
theorem ofO_fits : fits (ofO n f l x y z) (ofOS n f l x y z) = true := by kernel_rfl
def ofK (k : Nat) : St := ofH n f l x y z (zg0 f (ofJ f x y z k)) (zg0 l (ofJ f x y z k)) (zg2 (ofJ f x y z k)) (k : Int)
def ofE (k : Nat) : St := ofX n f l (zg0 f (ofJ f x y z k)) (zg0 l (ofJ f x y z k)) (zg2 (ofJ f x y z k))
theorem of_step (hn : n ≤ 1000000) (k : Nat) (hk : k < n) : SkLeads (Rnd (ofK n f l x y z) (fun _ => (.exit 0, ofE n f l x y z n)) k) (ofS n f l x y z (zg0 f (ofJ f x y z k)) (zg0 l (ofJ f x y z k)) (zg2 (ofJ f x y z k)) k) := by
 obtain ⟨e1, e2, e3⟩ := rnd_lt hk
 have hi : ixO k = k + 1 := by unfold ixO; rw [Int.toNat_natCast]; omega
 have hb : Nat.blt (ixO k) (n + 1) = true := by rw [hi, Nat.blt_eq]; omega
 unfold ofS
 refine sk_yes e1 (sk_need e2 (need3_ok hb ?_))
 rw [hi, wrap_succ (by omega)]
 refine sk_either (fun h => sk_leaf (rnd_next ?_ rfl)) fun h => sk_leaf (rnd_next ?_ rfl)
 ·have e : ofJ f x y z (k + 1) = k + 1 := by
   have hc : cnd f x y z k = true := h
   show (match cnd f x y z k with | true => k + 1 | false => ofJ f x y z k) = _
   rw [hc]
  unfold ofK
  rw [e]
  exact St.Le.refl _
 ·have e : ofJ f x y z (k + 1) = ofJ f x y z k := by
   have hc : cnd f x y z k = false := h
   show (match cnd f x y z k with | true => k + 1 | false => ofJ f x y z k) = _
   rw [hc]
  unfold ofK
  rw [e]
  exact St.Le.refl _
theorem of_last : SkLeads (RndEnd (.exit 0, ofE n f l x y z n)) (ofS n f l x y z (zg0 f (ofJ f x y z n)) (zg0 l (ofJ f x y z n)) (zg2 (ofJ f x y z n)) n) := sk_no (rnd_end n) (sk_leaf rfl)
theorem of_loop (hn : n ≤ 1000000) : ComesF Tryz.prog (.loop (loopF Tryz.f81)) (ofB n f l x y z) (ofH n f l x y z 0 0 (-1) 0) fun q => q = (.exit 0, ofE n f l x y z n) :=
 loop_count reG_ok rfl [3, 4, 6, 15, 16, 17] [4, 6] (ofK n f l x y z) (fun _ => (.exit 0, ofE n f l x y z n)) n (fun k => ofT n f l x y z (zg0 f (ofJ f x y z k)) (zg0 l (ofJ f x y z k)) (zg2 (ofJ f x y z k)) k) (fun k => ofS n f l x y z (zg0 f (ofJ f x y z k)) (zg0 l (ofJ f x y z k)) (zg2 (ofJ f x y z k)) k) (fun k => by delta ofT ofK; rfl) (fun k => of_into n f l x y z _ _ _ k) (fun k => of_fits n f l x y z _ _ _ k) (of_step n f l x y z hn) (of_last n f l x y z)
def ofR (a b c : Int) : St := arN 34 n f l [(4, pt 1)] [vec3 152 a b c]
theorem ofP_is (a b c : Int) : ofP n f l x y z (.exit 0, ofX n f l a b c) = .leaf (.inl (.ret, ofR n f l a b c)) := by kernel_rfl
theorem of_left (a b c : Int) : Left2 Tryz.prog Tryz.f81 (arH n f l) (vec a b c) (arH n f l) (.ret, ofR n f l a b c) := left_of (b := true) (by kernel_rfl)
theorem of_call (hn : n ≤ 1000000) : CallAt Tryz.prog 81 [slT 0 2 n, vec x y z] (arH n f l) (vec (zg0 f (ofJ f x y z n)) (zg0 l (ofJ f x y z n)) (zg2 (ofJ f x y z n))) (arH n f l) := by
 refine call_baseS reG_ok (c := bodyOf Tryz.f81) (fn := Tryz.f81) Tryz.func81 (by kernel_rfl) (by kernel_rfl) (false, false) 1 [3, 4, 6, 15, 16, 17] [4] (sB := ofB n f l x y z) (by kernel_rfl) (t := ofO n f l x y z) (by delta ofO; rfl) (ofO_into n f l x y z) (ofO_fits n f l x y z) ?_
 refine sk_need (okN_ok _) (sk_need (by rw [Nat.ble_eq]; omega) (sk_need (by simp only [Bool.and_eq_true, decide_eq_true_eq]; omega) (sk_nn (sk_nn (sk_nn (sk_need (by simp only [Bool.and_eq_true, decide_eq_true_eq]; omega) (sk_stop _ true [] [4] (of_loop n f l x y z hn) fun q hq => ?_)))))))
 subst hq
 exact leads_leaf (show _ = ofP n f l x y z (.exit 0, ofX n f l (zg0 f (ofJ f x y z n)) (zg0 l (ofJ f x y z n)) (zg2 (ofJ f x y z n))) by delta ofP ofE; rfl) (ofP_is n f l x y z _ _ _) (cutF_dn (of_left n f l _ _ _))
end
abbrev FO := Nat → (Nat → Int) → (Nat → Int) → Int → Int → Int → Int
def oA : FO := fun n f _ x y z => zg0 f (ofJ f x y z n)
def oB : FO := fun n f l x y z => zg0 l (ofJ f x y z n)
def oC : FO := fun n f _ x y z => zg2 (ofJ f x y z n)
def ofF (a b c : FO) : FT
 | [x, y, z], [], [], [⟨_, n, [.int .i64 f, .int .i64 l]⟩] => .need (Nat.ble n 1000000) (.leaf (vec (a n f l x y z) (b n f l x y z) (c n f l x y z), []))
 | _, _, _, _ => .fail 753
def ofSp (a b c : FO) : Spec := fun args h => specT [(false, [.t stD]), (true, [.i, .i, .i])] [] (ofF a b c) args h
theorem of_nil (f l : Nat → Int) (x y z : Int) : CallAt Tryz.prog 81 [.one nilC, vec x y z] (hpT [⟨none, 0, stC f l⟩] [] []) (vec 0 0 (-1)) (hpT [⟨none, 0, stC f l⟩] [] []) := call_ev tbF_ok (by kernel_rfl)
theorem of_ok : SpecOk Tryz.prog 81 (ofSp oA oB oC) := by
 refine specT_ok rfl (by decide) fun l' m n' ts v news hl hm hn ht hnil hF => ?_
 unfold ofF at hF
 split at hF
 ·rename_i x y z id n f l
  obtain ⟨hok, hF⟩ := Tree.need_some hF
  simp only [Tree.run, Option.some.injEq, Prod.mk.injEq] at hF
  obtain ⟨rfl, rfl⟩ := hF
  cases id with
  | none =>
   have h0 : n = 0 := hnil _ (List.mem_singleton.2 rfl) rfl
   subst h0
   exact of_nil f l x y z
  | some id => exact of_call n f l x y z (Nat.le_of_ble_eq_true hok)
 ·cases hF
end Go.Ev
