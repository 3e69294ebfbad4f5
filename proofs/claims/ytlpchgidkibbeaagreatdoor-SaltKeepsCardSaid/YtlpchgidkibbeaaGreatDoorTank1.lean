/- Tanks: a tank copied from the reference's into the program's and back. Conditions: few layers. (Printed by gen_tank.py.) -/
import Derived.Test.YtlpchgidkibbeaaGreatDoorScan
namespace Go.Ev
open Go Go.Proofs
set_option maxRecDepth 100000
def nilC : C := .lit (.slice none 0 0)
def slC (own : Bool) (j m n : Nat) : C := .sl own j 0 m 0 n
def tkC (z1 z2 : Nat → Int) : List Col := [.int .i64 z1, .int .i64 z2]
def tkD : List Col := [.int .i64 fun _ => 0, .int .i64 fun _ => 0]
def tkS : Bool × List CK := (true, [.i, .t tkD])
def tankA (room : Int) (n : Nat) : A := .agg [ci room, slC false 0 2 n]
def tankH (n : Nat) (z1 z2 : Nat → Int) : Hp := hpT [⟨some 0, n, tkC z1 z2⟩] [] []
def tbox (e : TypeId) (room : Int) (c : C) : Blk := ⟨false, e, .flat [ci room, c]⟩
theorem two_rows {e : TypeId} {z1 z2 : Nat → Int} {w1 w2 : Int} (h1 : w1 = z1 0) (h2 : w2 = z2 0) : ∀ (E : Env) (w : World) (p : Nat × Nat × Nat), blkIs E w p ⟨false, e, .flat [ci w1, ci w2]⟩ → blkIs E w p ⟨false, e, .rows 1 (tkC z1 z2)⟩ := by
 subst h1; subst h2
 exact blk_body rfl (fun cs e => by cases e) fun E arr hh => rows_one rfl (fun j c col h1 h2 => by match j, h1, h2 with | 0, h1, h2 => injection h1 with h1; injection h2 with h2; subst h1; subst h2; rfl | 1, h1, h2 => injection h1 with h1; injection h2 with h2; subst h1; subst h2; rfl) hh
section
variable (n : Nat) (room : Int) (z1 z2 : Nat → Int)
def givB : St := baseB 24 [tankA room n] (tankH n z1 z2)
def givN (env : List (Nat × A)) (news : List Blk) : St := stN 24 (envL env) (bsS [⟨some 0, n, tkC z1 z2⟩] []) [] news
def givE (c : C) (k : Nat) : List Blk := match k with
 | 0 => [tbox 81 0 nilC, tbox 81 room nilC]
 | k + 1 => [tbox 81 0 nilC, tbox 81 room c, ⟨false, 152, .rows (k + 1) (tkC z1 z2)⟩]
def givHS (i : Int) (news : List Blk) : St := givN n z1 z2 [(2, .one (.ptr 1 0 1 0)), (3, .one (.ptr 2 0 1 0)), (10, slT 0 2 n), (11, int n), (12, int i)] news
def givH (k : Nat) : St := givHS n z1 z2 (k : Int) (givE room z1 z2 (slC true 3 2 k) k)
def givX (k : Nat) : St := givN n z1 z2 [(2, .one (.ptr 1 0 1 0)), (3, .one (.ptr 2 0 1 0))] (givE room z1 z2 (slC true 3 2 k) k)
def givR : St := givN n z1 z2 [(2, .one (.ptr 1 0 1 0))] (match n with | 0 => [tbox 81 room nilC] | k + 1 => [tbox 81 room (slC true 2 2 (k + 1)), ⟨false, 152, .rows (k + 1) (tkC z1 z2)⟩])
noncomputable def givT (k : Nat) : Tree (X × St) := (recT Tryz.prog noTab (loopF Tryz.f42) (givH n room z1 z2 k)).bind (canonT [2, 3, 10, 11, 12] [2, 3] (givB n room z1 z2))
noncomputable def givSk (k : Nat) : Sk (X × St) := .node (decide ((k : Int) < (n : Int))) (.need (decide (0 ≤ (k : Int)) && decide ((k : Int) < (n : Int))) (.need (Nat.blt (0 + Int.toNat (k : Int)) n) (.need (Nat.blt (0 + Int.toNat (k : Int)) n) (match k with
 | 0 => .leaf (.normal, givHS n z1 z2 (IntKind.i64.wrap (((0 : Nat) : Int) + 1)) [tbox 81 0 nilC, tbox 81 room (slC true 3 2 1), ⟨false, 152, .flat [ci (z1 0), ci (z2 0)]⟩])
 | k + 1 => .need (Nat.ble (k + 1) (k + 1) && Nat.blt ((k + 1 + 1) * ((Tryz.prog.info? 152).map (·.bytes)).getD 0) 140737488355328 && Nat.ble (k + 1 + 1) 9223372036854775807)
   (.leaf (.normal, givHS n z1 z2 (IntKind.i64.wrap (((k + 1 : Nat) : Int) + 1)) [tbox 81 0 nilC, tbox 81 room (slC true 3 2 (k + 1 + 1)), ⟨false, 152, .rows (k + 1 + 1) (tkC (putF z1 (k + 1) (z1 (0 + Int.toNat ((k + 1 : Nat) : Int)))) (putF z2 (k + 1) (z2 (0 + Int.toNat ((k + 1 : Nat) : Int)))))⟩]))))))
 (.leaf (.exit 0, givX n room z1 z2 k))
theorem giv_into (k : Nat) : givT n room z1 z2 k = into (givT n room z1 z2 k) (givSk n room z1 z2 k) := by
 cases k with
 | zero => kernel_rfl
 | succ k => kernel_rfl
theorem giv_fits (k : Nat) : fits (givT n room z1 z2 k) (givSk n room z1 z2 k) = true := by
 cases k with
 | zero => kernel_rfl
 | succ k => kernel_rfl
theorem giv_loop (hn : n ≤ 1000000) : ComesF Tryz.prog (.loop (loopF Tryz.f42)) (givB n room z1 z2) (givH n room z1 z2 0) fun q => q = (.exit 0, givX n room z1 z2 n) := by
 refine loop_count (recT_ok noTab_ok) rfl [2, 3, 10, 11, 12] [2, 3] (givH n room z1 z2) (fun _ => (.exit 0, givX n room z1 z2 n)) n (givT n room z1 z2) (givSk n room z1 z2) (fun _ => rfl) (giv_into n room z1 z2) (giv_fits n room z1 z2) (fun k hk => ?_) (sk_no (rnd_end n) (sk_leaf rfl))
 obtain ⟨a1, a2, a3⟩ := rnd_lt hk
 refine sk_yes a1 (sk_need a2 (sk_need a3 (sk_need a3 ?_)))
 cases k with
 | zero =>
  refine sk_leaf (rnd_next ?_ rfl)
  rw [wrap_succ (k := 0) (by omega)]
  exact le_news (show 1 + 3 ≤ lim by decide) ⟨⟨rfl, fun _ _ _ h => h⟩, ⟨rfl, fun _ _ _ h => h⟩, ⟨rfl, two_rows rfl rfl⟩, trivial⟩
 | succ k =>
  have d0 : ((Tryz.prog.info? 152).map (·.bytes)).getD 0 = 16 := by kernel_rfl
  have d3 : Nat.blt ((k + 1 + 1) * ((Tryz.prog.info? 152).map (·.bytes)).getD 0) 140737488355328 = true := by rw [d0, Nat.blt_eq]; omega
  have d4 : Nat.ble (k + 1 + 1) 9223372036854775807 = true := by rw [Nat.ble_eq]; omega
  refine sk_need (by rw [ble_self, d3, d4]; rfl) (sk_leaf (rnd_next ?_ rfl))
  rw [idx_nat, wrap_succ (by omega), putF_self, putF_self]
  exact St.Le.refl _
end
def givV (room : Int) : Nat → A
 | 0 => .agg [ci room, nilC]
 | k + 1 => .agg [ci room, slC true 2 2 (k + 1)]
def givW (room : Int) (z1 z2 : Nat → Int) : Nat → List Blk
 | 0 => []
 | k + 1 => [tbox 81 room (slC true 2 2 (k + 1)), ⟨false, 152, .rows (k + 1) (tkC z1 z2)⟩]
theorem giv_call (n : Nat) (room : Int) (z1 z2 : Nat → Int) (hn : n ≤ 1000000) : CallAt Tryz.prog 42 [tankA room n] (tankH n z1 z2) (givV room n) (hpT [⟨some 0, n, tkC z1 z2⟩] [] (givW room z1 z2 n)) := by
 refine call_base (recT_ok noTab_ok) (c := bodyOf Tryz.f42) (fn := Tryz.f42) Tryz.func42 (by kernel_rfl) (by kernel_rfl) (false, false) 1 [2, 3, 10, 11, 12] [2] (sB := givB n room z1 z2) (by kernel_rfl) (t := .leaf (.inr (pathF Tryz.f42, givH n room z1 z2 0))) (by kernel_rfl) ?_
 refine cutF_stop _ true [] [2] (giv_loop n room z1 z2 hn) fun q hq => ?_
 subst hq
 cases n with
 | zero => exact (congrArg (Tree.All _) (show evO2 (recT Tryz.prog noTab) true (bodyOf Tryz.f42) (pathF Tryz.f42) [] [2] (givB 0 room z1 z2) (.exit 0, givX 0 room z1 z2 0) = .leaf (.inl (.ret, givR 0 room z1 z2)) by kernel_rfl)).mpr (cutF_done (left_of (b := true) (by kernel_rfl)))
 | succ k => exact (congrArg (Tree.All _) (show evO2 (recT Tryz.prog noTab) true (bodyOf Tryz.f42) (pathF Tryz.f42) [] [2] (givB (k + 1) room z1 z2) (.exit 0, givX (k + 1) room z1 z2 (k + 1)) = .leaf (.inl (.ret, givR (k + 1) room z1 z2)) by kernel_rfl)).mpr (cutF_done (left_of (b := false) (by kernel_rfl)))
def givF : FT
 | [room], [], [], [⟨_, n, [.int .i64 z1, .int .i64 z2]⟩] => .need (Nat.ble n 1000000) (.node (Nat.beq n 0) (.leaf (.agg [ci room, nilC], [])) (.leaf (.agg [ci room, slC true 2 2 n], [tbox 81 room (slC true 2 2 n), ⟨false, 152, .rows n (tkC z1 z2)⟩])))
 | _, _, _, _ => .fail 380
def givSp : Spec := fun args h => specT [tkS] [] givF args h
theorem giv_ok : SpecOk Tryz.prog 42 givSp := by
 refine specT_ok rfl (by decide) fun l m n ts v news hl hm hn ht hnil hF => ?_
 unfold givF at hF
 split at hF
 ·rename_i room id n z1 z2
  obtain ⟨hok, hF⟩ := Tree.need_some hF
  have hok := Nat.le_of_ble_eq_true hok
  cases id with
  | none =>
   have h0 : n = 0 := hnil _ (List.mem_singleton.2 rfl) rfl
   subst h0
   simp only [Tree.run, Nat.beq, Option.some.injEq, Prod.mk.injEq] at hF
   obtain ⟨rfl, rfl⟩ := hF
   exact call_ev noTab_ok (by kernel_rfl)
  | some id =>
   have hv : v = givV room n ∧ news = givW room z1 z2 n := by
    cases n <;> (simp only [Tree.run, Nat.beq, Option.some.injEq, Prod.mk.injEq] at hF; obtain ⟨rfl, rfl⟩ := hF; exact ⟨rfl, rfl⟩)
   obtain ⟨rfl, rfl⟩ := hv
   exact giv_call n room z1 z2 hok
 ·cases hF
section
variable (n : Nat) (room : Int) (z1 z2 : Nat → Int)
def ownB : St := baseB 24 [tankA room n] (tankH n z1 z2)
def ownN (env : List (Nat × A)) (news : List Blk) : St := stN 24 (envL env) (bsS [⟨some 0, n, tkC z1 z2⟩] []) [] news
def ownE (c : C) (k : Nat) : List Blk := match k with
 | 0 => [tbox 76 0 nilC, tbox 76 room nilC]
 | k + 1 => [tbox 76 0 nilC, tbox 76 room c, ⟨false, 98, .rows (k + 1) (tkC z1 z2)⟩]
def ownHS (i : Int) (news : List Blk) : St := ownN n z1 z2 [(2, .one (.ptr 1 0 1 0)), (3, .one (.ptr 2 0 1 0)), (10, slT 0 2 n), (11, int n), (12, int i)] news
def ownH (k : Nat) : St := ownHS n z1 z2 (k : Int) (ownE room z1 z2 (slC true 3 2 k) k)
def ownX (k : Nat) : St := ownN n z1 z2 [(2, .one (.ptr 1 0 1 0)), (3, .one (.ptr 2 0 1 0))] (ownE room z1 z2 (slC true 3 2 k) k)
def ownR : St := ownN n z1 z2 [(2, .one (.ptr 1 0 1 0))] (match n with | 0 => [tbox 76 room nilC] | k + 1 => [tbox 76 room (slC true 2 2 (k + 1)), ⟨false, 98, .rows (k + 1) (tkC z1 z2)⟩])
noncomputable def ownT (k : Nat) : Tree (X × St) := (recT Tryz.prog noTab (loopF Tryz.f72) (ownH n room z1 z2 k)).bind (canonT [2, 3, 10, 11, 12] [2, 3] (ownB n room z1 z2))
noncomputable def ownSk (k : Nat) : Sk (X × St) := .node (decide ((k : Int) < (n : Int))) (.need (decide (0 ≤ (k : Int)) && decide ((k : Int) < (n : Int))) (.need (Nat.blt (0 + Int.toNat (k : Int)) n) (.need (Nat.blt (0 + Int.toNat (k : Int)) n) (match k with
 | 0 => .leaf (.normal, ownHS n z1 z2 (IntKind.i64.wrap (((0 : Nat) : Int) + 1)) [tbox 76 0 nilC, tbox 76 room (slC true 3 2 1), ⟨false, 98, .flat [ci (z1 0), ci (z2 0)]⟩])
 | k + 1 => .need (Nat.ble (k + 1) (k + 1) && Nat.blt ((k + 1 + 1) * ((Tryz.prog.info? 98).map (·.bytes)).getD 0) 140737488355328 && Nat.ble (k + 1 + 1) 9223372036854775807)
   (.leaf (.normal, ownHS n z1 z2 (IntKind.i64.wrap (((k + 1 : Nat) : Int) + 1)) [tbox 76 0 nilC, tbox 76 room (slC true 3 2 (k + 1 + 1)), ⟨false, 98, .rows (k + 1 + 1) (tkC (putF z1 (k + 1) (z1 (0 + Int.toNat ((k + 1 : Nat) : Int)))) (putF z2 (k + 1) (z2 (0 + Int.toNat ((k + 1 : Nat) : Int)))))⟩]))))))
 (.leaf (.exit 0, ownX n room z1 z2 k))
theorem own_into (k : Nat) : ownT n room z1 z2 k = into (ownT n room z1 z2 k) (ownSk n room z1 z2 k) := by
 cases k with
 | zero => kernel_rfl
 | succ k => kernel_rfl
theorem own_fits (k : Nat) : fits (ownT n room z1 z2 k) (ownSk n room z1 z2 k) = true := by
 cases k with
 | zero => kernel_rfl
 | succ k => kernel_rfl
theorem own_loop (hn : n ≤ 1000000) : ComesF Tryz.prog (.loop (loopF Tryz.f72)) (ownB n room z1 z2) (ownH n room z1 z2 0) fun q => q = (.exit 0, ownX n room z1 z2 n) := by
 refine loop_count (recT_ok noTab_ok) rfl [2, 3, 10, 11, 12] [2, 3] (ownH n room z1 z2) (fun _ => (.exit 0, ownX n room z1 z2 n)) n (ownT n room z1 z2) (ownSk n room z1 z2) (fun _ => rfl) (own_into n room z1 z2) (own_fits n room z1 z2) (fun k hk => ?_) (sk_no (rnd_end n) (sk_leaf rfl))
 obtain ⟨a1, a2, a3⟩ := rnd_lt hk
 refine sk_yes a1 (sk_need a2 (sk_need a3 (sk_need a3 ?_)))
 cases k with
 | zero =>
  refine sk_leaf (rnd_next ?_ rfl)
  rw [wrap_succ (k := 0) (by omega)]
  exact le_news (show 1 + 3 ≤ lim by decide) ⟨⟨rfl, fun _ _ _ h => h⟩, ⟨rfl, fun _ _ _ h => h⟩, ⟨rfl, two_rows rfl rfl⟩, trivial⟩
 | succ k =>
  have d0 : ((Tryz.prog.info? 98).map (·.bytes)).getD 0 = 16 := by kernel_rfl
  have d3 : Nat.blt ((k + 1 + 1) * ((Tryz.prog.info? 98).map (·.bytes)).getD 0) 140737488355328 = true := by rw [d0, Nat.blt_eq]; omega
  have d4 : Nat.ble (k + 1 + 1) 9223372036854775807 = true := by rw [Nat.ble_eq]; omega
  refine sk_need (by rw [ble_self, d3, d4]; rfl) (sk_leaf (rnd_next ?_ rfl))
  rw [idx_nat, wrap_succ (by omega), putF_self, putF_self]
  exact St.Le.refl _
end
def ownV (room : Int) : Nat → A
 | 0 => .agg [ci room, nilC]
 | k + 1 => .agg [ci room, slC true 2 2 (k + 1)]
def ownW (room : Int) (z1 z2 : Nat → Int) : Nat → List Blk
 | 0 => []
 | k + 1 => [tbox 76 room (slC true 2 2 (k + 1)), ⟨false, 98, .rows (k + 1) (tkC z1 z2)⟩]
theorem own_call (n : Nat) (room : Int) (z1 z2 : Nat → Int) (hn : n ≤ 1000000) : CallAt Tryz.prog 72 [tankA room n] (tankH n z1 z2) (ownV room n) (hpT [⟨some 0, n, tkC z1 z2⟩] [] (ownW room z1 z2 n)) := by
 refine call_base (recT_ok noTab_ok) (c := bodyOf Tryz.f72) (fn := Tryz.f72) Tryz.func72 (by kernel_rfl) (by kernel_rfl) (false, false) 1 [2, 3, 10, 11, 12] [2] (sB := ownB n room z1 z2) (by kernel_rfl) (t := .leaf (.inr (pathF Tryz.f72, ownH n room z1 z2 0))) (by kernel_rfl) ?_
 refine cutF_stop _ true [] [2] (own_loop n room z1 z2 hn) fun q hq => ?_
 subst hq
 cases n with
 | zero => exact (congrArg (Tree.All _) (show evO2 (recT Tryz.prog noTab) true (bodyOf Tryz.f72) (pathF Tryz.f72) [] [2] (ownB 0 room z1 z2) (.exit 0, ownX 0 room z1 z2 0) = .leaf (.inl (.ret, ownR 0 room z1 z2)) by kernel_rfl)).mpr (cutF_done (left_of (b := true) (by kernel_rfl)))
 | succ k => exact (congrArg (Tree.All _) (show evO2 (recT Tryz.prog noTab) true (bodyOf Tryz.f72) (pathF Tryz.f72) [] [2] (ownB (k + 1) room z1 z2) (.exit 0, ownX (k + 1) room z1 z2 (k + 1)) = .leaf (.inl (.ret, ownR (k + 1) room z1 z2)) by kernel_rfl)).mpr (cutF_done (left_of (b := false) (by kernel_rfl)))
def ownF : FT
 | [room], [], [], [⟨_, n, [.int .i64 z1, .int .i64 z2]⟩] => .need (Nat.ble n 1000000) (.node (Nat.beq n 0) (.leaf (.agg [ci room, nilC], [])) (.leaf (.agg [ci room, slC true 2 2 n], [tbox 76 room (slC true 2 2 n), ⟨false, 98, .rows n (tkC z1 z2)⟩])))
 | _, _, _, _ => .fail 380
def ownSp : Spec := fun args h => specT [tkS] [] ownF args h
theorem own_ok : SpecOk Tryz.prog 72 ownSp := by
 refine specT_ok rfl (by decide) fun l m n ts v news hl hm hn ht hnil hF => ?_
 unfold ownF at hF
 split at hF
 ·rename_i room id n z1 z2
  obtain ⟨hok, hF⟩ := Tree.need_some hF
  have hok := Nat.le_of_ble_eq_true hok
  cases id with
  | none =>
   have h0 : n = 0 := hnil _ (List.mem_singleton.2 rfl) rfl
   subst h0
   simp only [Tree.run, Nat.beq, Option.some.injEq, Prod.mk.injEq] at hF
   obtain ⟨rfl, rfl⟩ := hF
   exact call_ev noTab_ok (by kernel_rfl)
  | some id =>
   have hv : v = ownV room n ∧ news = ownW room z1 z2 n := by
    cases n <;> (simp only [Tree.run, Nat.beq, Option.some.injEq, Prod.mk.injEq] at hF; obtain ⟨rfl, rfl⟩ := hF; exact ⟨rfl, rfl⟩)
   obtain ⟨rfl, rfl⟩ := hv
   exact own_call n room z1 z2 hok
 ·cases hF
end Go.Ev
