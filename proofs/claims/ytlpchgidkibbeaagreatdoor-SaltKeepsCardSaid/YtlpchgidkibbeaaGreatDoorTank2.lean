/- Tanks: the sums of layers. Conditions: few layers. -/
import Derived.Test.YtlpchgidkibbeaaGreatDoorTank1
namespace Go.Ev
open Go Go.Proofs
set_option maxRecDepth 100000
def sumA (z : Nat → Int) : Nat → Int
 | 0 => 0
 | k + 1 => w64 (sumA z k + z k)
section
variable (n : Nat) (room : Int) (z1 z2 : Nat → Int)
def levN (env : List (Nat × A)) (news : List Blk) : St := stN 21 (envL env) (bsS [⟨some 0, n, tkC z1 z2⟩] []) [] news
def levB : St := baseB 21 [tankA room n] (tankH n z1 z2)
def levHS (s i : Int) : St := levN n z1 z2 [(1, .one (.ptr 1 0 1 0)), (3, int s), (4, int i)] [tbox 76 room (slC false 0 2 n)]
def levX (s : Int) : St := levN n z1 z2 [(3, int s)] []
def levR (s : Int) : St := levN n z1 z2 [(2, int s)] []
noncomputable def levSk (z : Nat → Int) (k : Nat) : Sk (X × St) := .node (decide ((k : Int) < (n : Int))) (.need (decide (0 ≤ (k : Int)) && decide ((k : Int) < (n : Int))) (.need (Nat.blt (0 + Int.toNat (k : Int)) n) (.leaf (.normal, levHS n room z1 z2 (w64 (sumA z k + z (0 + Int.toNat (k : Int)))) (IntKind.i64.wrap ((k : Int) + 1))))))
 (.leaf (.exit 0, levX n z1 z2 (sumA z k)))
noncomputable def levT (k : Nat) : Tree (X × St) := (recT Tryz.prog noTab (loopF Tryz.f50) (levHS n room z1 z2 (sumA z1 k) (k : Int))).bind (canonT [1, 3, 4] [3] (levB n room z1 z2))
noncomputable def entT (k : Nat) : Tree (X × St) := (recT Tryz.prog noTab (loopF Tryz.f51) (levHS n room z1 z2 (sumA z2 k) (k : Int))).bind (canonT [1, 3, 4] [3] (levB n room z1 z2))
theorem lev_into (k : Nat) : levT n room z1 z2 k = into (levT n room z1 z2 k) (levSk n room z1 z2 z1 k) := by kernel_rfl
theorem lev_fits (k : Nat) : fits (levT n room z1 z2 k) (levSk n room z1 z2 z1 k) = true := by kernel_rfl
theorem ent_into (k : Nat) : entT n room z1 z2 k = into (entT n room z1 z2 k) (levSk n room z1 z2 z2 k) := by kernel_rfl
theorem ent_fits (k : Nat) : fits (entT n room z1 z2 k) (levSk n room z1 z2 z2 k) = true := by kernel_rfl
theorem lev_step (hn : n ≤ 1000000) (z : Nat → Int) (k : Nat) (hk : k < n) : SkLeads (Rnd (fun k => levHS n room z1 z2 (sumA z k) (k : Int)) (fun _ => (.exit 0, levX n z1 z2 (sumA z n))) k) (levSk n room z1 z2 z k) := by
 obtain ⟨a1, a2, a3⟩ := rnd_lt hk
 refine sk_yes a1 (sk_need a2 (sk_need a3 (sk_leaf (rnd_next ?_ rfl))))
 rw [idx_nat, wrap_succ (by omega)]
 exact St.Le.refl _
theorem lev_call (hn : n ≤ 1000000) : CallAt Tryz.prog 50 [tankA room n] (tankH n z1 z2) (int (sumA z1 n)) (tankH n z1 z2) := by
 refine call_base (recT_ok noTab_ok) (c := bodyOf Tryz.f50) (fn := Tryz.f50) Tryz.func50 (by kernel_rfl) (by kernel_rfl) (false, false) 1 [1, 3, 4] [2] (sB := levB n room z1 z2) (by kernel_rfl) (t := .leaf (.inr (pathF Tryz.f50, levHS n room z1 z2 0 ((0 : Nat) : Int)))) (by kernel_rfl) ?_
 refine cutF_stop _ true [] [2] (loop_count (recT_ok noTab_ok) rfl [1, 3, 4] [3] (fun k => levHS n room z1 z2 (sumA z1 k) (k : Int)) (fun _ => (.exit 0, levX n z1 z2 (sumA z1 n))) n (levT n room z1 z2) (levSk n room z1 z2 z1) (fun _ => rfl) (lev_into n room z1 z2) (lev_fits n room z1 z2) (lev_step n room z1 z2 hn z1) (sk_no (rnd_end n) (sk_leaf rfl))) fun q hq => ?_
 subst hq
 exact (congrArg (Tree.All _) (show evO2 (recT Tryz.prog noTab) true (bodyOf Tryz.f50) (pathF Tryz.f50) [] [2] (levB n room z1 z2) (.exit 0, levX n z1 z2 (sumA z1 n)) = .leaf (.inl (.ret, levR n z1 z2 (sumA z1 n))) by kernel_rfl)).mpr (cutF_done (left_of (b := true) (by kernel_rfl)))
theorem ent_call (hn : n ≤ 1000000) : CallAt Tryz.prog 51 [tankA room n] (tankH n z1 z2) (int (sumA z2 n)) (tankH n z1 z2) := by
 refine call_base (recT_ok noTab_ok) (c := bodyOf Tryz.f51) (fn := Tryz.f51) Tryz.func51 (by kernel_rfl) (by kernel_rfl) (false, false) 1 [1, 3, 4] [2] (sB := levB n room z1 z2) (by kernel_rfl) (t := .leaf (.inr (pathF Tryz.f51, levHS n room z1 z2 0 ((0 : Nat) : Int)))) (by kernel_rfl) ?_
 refine cutF_stop _ true [] [2] (loop_count (recT_ok noTab_ok) rfl [1, 3, 4] [3] (fun k => levHS n room z1 z2 (sumA z2 k) (k : Int)) (fun _ => (.exit 0, levX n z1 z2 (sumA z2 n))) n (entT n room z1 z2) (levSk n room z1 z2 z2) (fun _ => rfl) (ent_into n room z1 z2) (ent_fits n room z1 z2) (lev_step n room z1 z2 hn z2) (sk_no (rnd_end n) (sk_leaf rfl))) fun q hq => ?_
 subst hq
 exact (congrArg (Tree.All _) (show evO2 (recT Tryz.prog noTab) true (bodyOf Tryz.f51) (pathF Tryz.f51) [] [2] (levB n room z1 z2) (.exit 0, levX n z1 z2 (sumA z2 n)) = .leaf (.inl (.ret, levR n z1 z2 (sumA z2 n))) by kernel_rfl)).mpr (cutF_done (left_of (b := true) (by kernel_rfl)))
end
theorem tank_ok {f : FuncId} {lim' : Nat} {F : FT} (V : Nat → Int → (Nat → Int) → (Nat → Int) → A) (hF : ∀ l m n ts, F l m n ts = match l, m, n, ts with | [room], [], [], [⟨_, k, [.int .i64 z1, .int .i64 z2]⟩] => .need (Nat.ble k lim') (.leaf (V k room z1 z2, [])) | _, _, _, _ => .fail 381)
  (h0 : ∀ room z1 z2, CallAt Tryz.prog f [.agg [ci room, nilC]] (hpT [] [] []) (V 0 room z1 z2) (hpT [] [] [])) (hc : ∀ n room z1 z2, n ≤ lim' → CallAt Tryz.prog f [tankA room n] (tankH n z1 z2) (V n room z1 z2) (tankH n z1 z2)) : SpecOk Tryz.prog f fun args h => specT [tkS] [] F args h := by
 refine specT_ok rfl (by decide) fun l m n ts v news hl hm hn ht hnil hF' => ?_
 rw [hF] at hF'
 split at hF'
 ·rename_i room id k z1 z2
  obtain ⟨hok, hF'⟩ := Tree.need_some hF'
  have hok := Nat.le_of_ble_eq_true hok
  simp only [Tree.run, Option.some.injEq, Prod.mk.injEq] at hF'
  obtain ⟨rfl, rfl⟩ := hF'
  cases id with
  | none =>
   have h00 : k = 0 := hnil _ (List.mem_singleton.2 rfl) rfl
   subst h00
   exact h0 room z1 z2
  | some id => exact hc k room z1 z2 hok
 ·cases hF'
def levF : FT
 | [_], [], [], [⟨_, n, [.int .i64 z1, .int .i64 _]⟩] => .need (Nat.ble n 1000000) (.leaf (int (sumA z1 n), []))
 | _, _, _, _ => .fail 381
def entF : FT
 | [_], [], [], [⟨_, n, [.int .i64 _, .int .i64 z2]⟩] => .need (Nat.ble n 1000000) (.leaf (int (sumA z2 n), []))
 | _, _, _, _ => .fail 381
def levSp : Spec := fun args h => specT [tkS] [] levF args h
def entSp : Spec := fun args h => specT [tkS] [] entF args h
theorem lev_ok : SpecOk Tryz.prog 50 levSp := tank_ok (fun n _ z1 _ => int (sumA z1 n)) (fun l m n ts => by unfold levF; split <;> first | rfl | (split <;> first | rfl | simp_all)) (fun room z1 z2 => call_ev noTab_ok (by kernel_rfl)) fun n room z1 z2 hn => lev_call n room z1 z2 hn
theorem ent_ok : SpecOk Tryz.prog 51 entSp := tank_ok (fun n _ _ z2 => int (sumA z2 n)) (fun l m n ts => by unfold entF; split <;> first | rfl | (split <;> first | rfl | simp_all)) (fun room z1 z2 => call_ev noTab_ok (by kernel_rfl)) fun n room z1 z2 hn => ent_call n room z1 z2 hn
theorem sum_call (n : Nat) (hn : n ≤ 17) (room : Int) (z1 z2 : Nat → Int) : CallAt Tryz.prog 104 [tankA room n] (tankH n z1 z2) (.agg [ci (sumA z1 n), ci (sumA z2 n)]) (tankH n z1 z2) := by
 match n, hn with
 | 0, _ => exact call_ev noTab_ok (by kernel_rfl)
 | 1, _ => exact call_ev noTab_ok (by kernel_rfl)
 | 2, _ => exact call_ev noTab_ok (by kernel_rfl)
 | 3, _ => exact call_ev noTab_ok (by kernel_rfl)
 | 4, _ => exact call_ev noTab_ok (by kernel_rfl)
 | 5, _ => exact call_ev noTab_ok (by kernel_rfl)
 | 6, _ => exact call_ev noTab_ok (by kernel_rfl)
 | 7, _ => exact call_ev noTab_ok (by kernel_rfl)
 | 8, _ => exact call_ev noTab_ok (by kernel_rfl)
 | 9, _ => exact call_ev noTab_ok (by kernel_rfl)
 | 10, _ => exact call_ev noTab_ok (by kernel_rfl)
 | 11, _ => exact call_ev noTab_ok (by kernel_rfl)
 | 12, _ => exact call_ev noTab_ok (by kernel_rfl)
 | 13, _ => exact call_ev noTab_ok (by kernel_rfl)
 | 14, _ => exact call_ev noTab_ok (by kernel_rfl)
 | 15, _ => exact call_ev noTab_ok (by kernel_rfl)
 | 16, _ => exact call_ev noTab_ok (by kernel_rfl)
 | 17, _ => exact call_ev noTab_ok (by kernel_rfl)
 | n + 18, h => exact absurd h (by omega)
def sumF : FT
 | [_], [], [], [⟨_, n, [.int .i64 z1, .int .i64 z2]⟩] => .need (Nat.ble n 17) (.leaf (.agg [ci (sumA z1 n), ci (sumA z2 n)], []))
 | _, _, _, _ => .fail 381
def sumSp : Spec := fun args h => specT [tkS] [] sumF args h
theorem sum_ok : SpecOk Tryz.prog 104 sumSp := tank_ok (fun n _ z1 z2 => .agg [ci (sumA z1 n), ci (sumA z2 n)]) (fun l m n ts => by unfold sumF; split <;> first | rfl | (split <;> first | rfl | simp_all)) (fun room z1 z2 => call_ev noTab_ok (by kernel_rfl)) fun n room z1 z2 hn => sum_call n hn room z1 z2
def tbT0 : List (FuncId × Spec) := (104, sumSp) :: (50, levSp) :: (51, entSp) :: (42, givSp) :: (72, ownSp) :: tb_qst
theorem tbT0_ok : TabOk Tryz.prog (tabOf tbT0) := tab_cons (tab_cons (tab_cons (tab_cons (tab_cons tb_qst_ok own_ok) giv_ok) ent_ok) lev_ok) sum_ok
end Go.Ev
