/- Functions that go through a list of steps: sizes, checks, runs. Conditions: as the entries say. -/
import Derived.Test.YtlpchgidkibbeaaGreatDoorCpy
namespace Go.Ev
open Go Go.Proofs

/-! ### spillage/spillageref08.ShortPlan -/
def anyL (z : Nat → ByteArray) : Nat → Nat → Bool
  | 0, _ => false
  | m + 1, k => match decide (((z k).size : Int) > 40) with
    | true => true
    | false => anyL z m (k + 1)
def shortB (n : Nat) (z : Nat → ByteArray) : Bool := match anyL z n 0 with
  | true => false
  | false => match decide ((n : Int) ≤ 24) with
    | true => true
    | false => (n : Int) == 257
def spN (n : Nat) (cols : List Col) (env : List (Nat × A)) : St := stN 25 (envL env) (bsS [⟨some 0, n, cols⟩] []) [] []
def spB (n : Nat) (cols : List Col) (m : Nat) : St := baseB 25 [slT 0 m n] (hpT [⟨some 0, n, cols⟩] [] [])
def spH (n : Nat) (cols : List Col) (m : Nat) (i : Int) : St := spN n cols [(0, slT 0 m n), (2, boo false), (3, int i)]
def spX (n : Nat) (cols : List Col) (m : Nat) : St := spN n cols [(0, slT 0 m n), (2, boo false)]
def spS (n : Nat) (cols : List Col) (m : Nat) (z : Nat → ByteArray) (k : Nat) : Tree (X × St) := .node (decide ((k : Int) < (n : Int))) (.need (decide (0 ≤ (k : Int)) && decide ((k : Int) < (n : Int))) (.need (Nat.blt (0 + Int.toNat (k : Int)) n) (.node (decide (((z (0 + Int.toNat (k : Int))).size : Int) > 40)) (.leaf (.ret, spX n cols m)) (.leaf (.normal, spH n cols m (IntKind.i64.wrap ((k : Int) + 1))))))) (.leaf (.exit 0, spX n cols m))
theorem sp_round (n : Nat) (z0 : Nat → ByteArray) (z1 z2 : Nat → Int) (k : Nat) : (recT Tryz.prog noTab (loopF Tryz.f62) (spH n [.str z0, .int .i64 z1, .int .i64 z2] 3 k)).bind (canonT [0, 2, 3] [0, 2] (spB n [.str z0, .int .i64 z1, .int .i64 z2] 3)) = spS n [.str z0, .int .i64 z1, .int .i64 z2] 3 z0 k := by kernel_rfl
/-- the bounds of a round's index -/
theorem idx_facts {k n : Nat} (h : k < n) : decide ((k : Int) < (n : Int)) = true ∧ decide ((0 : Int) ≤ (k : Int)) = true ∧ Nat.blt k n = true :=
  ⟨by simp only [decide_eq_true_eq]; omega, by simp only [decide_eq_true_eq]; omega, by rw [Nat.blt_eq]; exact h⟩
theorem idx_end {k n : Nat} (h : ¬ k < n) : decide ((k : Int) < (n : Int)) = false := by simp only [decide_eq_false_iff_not]; omega
def spFin (n : Nat) (cols : List Col) (m : Nat) (z : Nat → ByteArray) (k : Nat) : X × St := match anyL z (n - k) k with
  | true => (.ret, spX n cols m)
  | false => (.exit 0, spX n cols m)
theorem sp_dec {n : Nat} {cols : List Col} {m : Nat} {z : Nat → ByteArray} (hn : n ≤ 9223372036854775807) (k : Nat) (hk : k ≤ n) : (spS n cols m z k).All fun p => match p.1 with | .normal => ∃ y : Nat, p.2.Le (spH n cols m (y : Int)) ∧ y ≤ n ∧ n - y < n - k ∧ spFin n cols m z y = spFin n cols m z k | _ => p = spFin n cols m z k := by
  unfold spS spFin
  by_cases h : k < n
  · obtain ⟨e1, e2, e3⟩ := idx_facts h
    rw [show n - k = (n - (k + 1)) + 1 by omega, anyL]
    simp only [e1, e2, Tree.All, Nat.zero_add, Int.toNat_natCast, e3]
    refine ⟨(by first | exact trivial | rfl), (by first | exact trivial | rfl), ?_⟩
    cases hz : decide (((z k).size : Int) > 40) with
    | true => rfl
    | false =>
      refine ⟨k + 1, ?_, h, by omega, rfl⟩
      rw [wrap_succ (by omega)]
      exact St.Le.refl _
  · rw [idx_end h, show n - k = 0 by omega]
    rfl
theorem sp_post (n : Nat) (z0 : Nat → ByteArray) (z1 z2 : Nat → Int) : evO2 (recT Tryz.prog noTab) true (bodyOf Tryz.f62) (pathF Tryz.f62) [] [2] (spB n [.str z0, .int .i64 z1, .int .i64 z2] 3) (.exit 0, spX n [.str z0, .int .i64 z1, .int .i64 z2] 3) =
      .node (decide ((n : Int) ≤ 24)) (.need true (.leaf (.inl (.ret, spN n [.str z0, .int .i64 z1, .int .i64 z2] [(2, boo true)])))) (.leaf (.inl (.ret, spN n [.str z0, .int .i64 z1, .int .i64 z2] [(2, boo ((n : Int) == 257))]))) := by kernel_rfl
theorem sp_ret (n : Nat) (z0 : Nat → ByteArray) (z1 z2 : Nat → Int) : evO2 (recT Tryz.prog noTab) true (bodyOf Tryz.f62) (pathF Tryz.f62) [] [2] (spB n [.str z0, .int .i64 z1, .int .i64 z2] 3) (.ret, spX n [.str z0, .int .i64 z1, .int .i64 z2] 3) =
    .leaf (.inl (.ret, spN n [.str z0, .int .i64 z1, .int .i64 z2] [(2, boo false)])) := by kernel_rfl
theorem sp_call (n : Nat) (z0 : Nat → ByteArray) (z1 z2 : Nat → Int) (hn : n ≤ 9223372036854775807) : CallAt Tryz.prog 62 [slT 0 3 n] (hpT [⟨some 0, n, [.str z0, .int .i64 z1, .int .i64 z2]⟩] [] []) (boo (shortB n z0)) (hpT [⟨some 0, n, [.str z0, .int .i64 z1, .int .i64 z2]⟩] [] []) := by
  refine call_base rec0 (c := bodyOf Tryz.f62) (fn := Tryz.f62) Tryz.func62 (by kernel_rfl) (by kernel_rfl) (false, false) 1 [0, 2, 3] [2] (sB := spB n [.str z0, .int .i64 z1, .int .i64 z2] 3) (by kernel_rfl) (t := .leaf (.inr (pathF Tryz.f62, spH n [.str z0, .int .i64 z1, .int .i64 z2] 3 ((0 : Nat) : Int)))) (by kernel_rfl) ?_
  refine cutF_stop _ true [] [2] (loop_is rec0 rfl [0, 2, 3] [0, 2] (fun k : Nat => spH n [.str z0, .int .i64 z1, .int .i64 z2] 3 (k : Int)) (fun k => n - k) (fun k => k ≤ n) (spFin n [.str z0, .int .i64 z1, .int .i64 z2] 3 z0) (spS n [.str z0, .int .i64 z1, .int .i64 z2] 3 z0) (fun k _ => sp_round n z0 z1 z2 k) (fun k hk => sp_dec hn k hk) 0 (Nat.zero_le n)) fun q hq => ?_
  subst hq
  unfold spFin shortB
  rw [Nat.sub_zero]
  cases anyL z0 n 0 with
  | true =>
    simp only []
    rw [sp_ret]
    exact cutF_done (left_of (b := true) (by kernel_rfl))
  | false =>
    simp only []
    rw [sp_post]
    cases decide ((n : Int) ≤ 24) with
    | true => exact ⟨rfl, cutF_done (left_of (b := true) (by kernel_rfl))⟩
    | false => exact cutF_done (left_of (b := true) (by kernel_rfl))
def spF : FT
  | [], [], [], [⟨_, n, [.str z0, .int .i64 _, .int .i64 _]⟩] => .need (Nat.ble n 9223372036854775807) (.leaf (boo (shortB n z0), []))
  | _, _, _, _ => .fail 361
def stepD : List Col := [.str fun _ => ⟨#[]⟩, .int .i64 fun _ => 0, .int .i64 fun _ => 0]
def spSp : Spec := fun args h => specT [(false, [.t stepD])] [] spF args h
theorem sp_ok : SpecOk Tryz.prog 62 spSp := by
  refine specT_ok rfl (by decide) fun l m n ts v news hl hm hn ht hnil hF => ?_
  unfold spF at hF
  split at hF
  · rename_i id n z0 z1 z2
    obtain ⟨hok, hF⟩ := Tree.need_some hF
    have hok := Nat.le_of_ble_eq_true hok
    simp only [Tree.run, Option.some.injEq, Prod.mk.injEq] at hF
    obtain ⟨rfl, rfl⟩ := hF
    cases id with
    | none =>
      have h0 : n = 0 := hnil _ (List.mem_singleton.2 rfl) rfl
      subst h0
      exact call_ev noTab_ok (by kernel_rfl)
    | some id => exact sp_call n z0 z1 z2 hok
  · cases hF

/-! ### spillage/spillageref08.CheckPlan -/
def qpC (z0 : Nat → ByteArray) (z1 z2 : Nat → Int) (r0 : Int) : Nat → Int := fun k => qstepErr r0 (z1 k) (z2 k) (z0 k)
def qplanE (n : Nat) (g : Nat → Int) : Int := match decide ((n : Int) > 256) with
  | true => 5
  | false => (fnz g n 0).getD 0
section
variable (n : Nat) (z0 : Nat → ByteArray) (z1 z2 : Nat → Int) (r0 r1 r2 r3 r4 r5 : Int)
def st3 : List Col := [.str z0, .int .i64 z1, .int .i64 z2]
def rulesC : List C := [ci r0, ci r1, ci r2, ci r3, ci r4, ci r5]
def cpN (env : List (Nat × A)) (news : List Blk) : St := stN 25 (envL env) (bsS [⟨some 0, n, st3 z0 z1 z2⟩] []) [] news
def cpB : St := baseB 25 [.agg (rulesC r0 r1 r2 r3 r4 r5), slT 0 3 n] (hpT [⟨some 0, n, st3 z0 z1 z2⟩] [] [])
def pt (id : Nat) : A := .one (.ptr id 0 1 0)
def cpH (i : Int) : St := cpN n z0 z1 z2 [(1, slT 0 3 n), (2, pt 1), (4, int 0), (5, int i)] [⟨false, 23, .flat (rulesC r0 r1 r2 r3 r4 r5)⟩]
def cpX (e : Int) : St := cpN n z0 z1 z2 [(4, int e)] []
def cpS (k : Nat) : Tree (X × St) := .node (decide ((k : Int) < (n : Int))) (.need (decide (0 ≤ (k : Int)) && decide ((k : Int) < (n : Int))) (.need (Nat.blt (0 + Int.toNat (k : Int)) n) (.need (Nat.blt (0 + Int.toNat (k : Int)) n) (.need (Nat.blt (0 + Int.toNat (k : Int)) n) (.need true (.node (qpC z0 z1 z2 r0 (0 + Int.toNat (k : Int)) != 0) (.leaf (.ret, cpX n z0 z1 z2 (qpC z0 z1 z2 r0 (0 + Int.toNat (k : Int))))) (.leaf (.normal, cpH n z0 z1 z2 r0 r1 r2 r3 r4 r5 (IntKind.i64.wrap ((k : Int) + 1)))))))))) (.leaf (.exit 0, cpX n z0 z1 z2 0))
def cpFin (k : Nat) : X × St := match fnz (qpC z0 z1 z2 r0) (n - k) k with
  | some e => (.ret, cpX n z0 z1 z2 e)
  | none => (.exit 0, cpX n z0 z1 z2 0)
theorem cp_round (k : Nat) : (recT Tryz.prog (tabOf tb_mapS) (loopF Tryz.f65) (cpH n z0 z1 z2 r0 r1 r2 r3 r4 r5 k)).bind (canonT [1, 2, 4, 5] [4] (cpB n z0 z1 z2 r0 r1 r2 r3 r4 r5)) = cpS n z0 z1 z2 r0 r1 r2 r3 r4 r5 k := by kernel_rfl
theorem cp_dec (hn : n ≤ 9223372036854775807) (k : Nat) (hk : k ≤ n) : (cpS n z0 z1 z2 r0 r1 r2 r3 r4 r5 k).All fun p => match p.1 with | .normal => ∃ y : Nat, p.2.Le (cpH n z0 z1 z2 r0 r1 r2 r3 r4 r5 (y : Int)) ∧ y ≤ n ∧ n - y < n - k ∧ cpFin n z0 z1 z2 r0 y = cpFin n z0 z1 z2 r0 k | _ => p = cpFin n z0 z1 z2 r0 k := by
  unfold cpS cpFin
  by_cases h : k < n
  · obtain ⟨e1, e2, e3⟩ := idx_facts h
    rw [show n - k = (n - (k + 1)) + 1 by omega, fnz]
    simp only [e1, e2, Tree.All, Nat.zero_add, Int.toNat_natCast, e3]
    refine ⟨(by first | exact trivial | rfl), (by first | exact trivial | rfl), (by first | exact trivial | rfl), (by first | exact trivial | rfl), (by first | exact trivial | rfl), ?_⟩
    cases hz : qpC z0 z1 z2 r0 k != 0 with
    | true => rfl
    | false =>
      refine ⟨k + 1, ?_, h, by omega, rfl⟩
      rw [wrap_succ (by omega)]
      exact St.Le.refl _
  · rw [idx_end h, show n - k = 0 by omega]
    rfl
theorem cp_pre : evO (recT Tryz.prog (tabOf tb_mapS)) (bodyOf Tryz.f65) [1, 2, 4, 5] [4] (cpB n z0 z1 z2 r0 r1 r2 r3 r4 r5) = .node (decide ((n : Int) > 256)) (.leaf (.inl (.ret, cpX n z0 z1 z2 5))) (.leaf (.inr (pathF Tryz.f65, cpH n z0 z1 z2 r0 r1 r2 r3 r4 r5 ((0 : Nat) : Int)))) := by kernel_rfl
theorem cp_exit : evO2 (recT Tryz.prog (tabOf tb_mapS)) true (bodyOf Tryz.f65) (pathF Tryz.f65) [] [4] (cpB n z0 z1 z2 r0 r1 r2 r3 r4 r5) (.exit 0, cpX n z0 z1 z2 0) = .leaf (.inl (.ret, cpX n z0 z1 z2 0)) := by kernel_rfl
theorem cp_ret (e : Int) : evO2 (recT Tryz.prog (tabOf tb_mapS)) true (bodyOf Tryz.f65) (pathF Tryz.f65) [] [4] (cpB n z0 z1 z2 r0 r1 r2 r3 r4 r5) (.ret, cpX n z0 z1 z2 e) = .leaf (.inl (.ret, cpX n z0 z1 z2 e)) := by kernel_rfl
theorem cp_left (e : Int) : Left2 Tryz.prog Tryz.f65 (hpT [⟨some 0, n, st3 z0 z1 z2⟩] [] []) (int e) (hpT [⟨some 0, n, st3 z0 z1 z2⟩] [] []) (.ret, cpX n z0 z1 z2 e) := left_of (b := true) (by kernel_rfl)
theorem cp_call (hn : n ≤ 9223372036854775807) : CallAt Tryz.prog 65 [.agg (rulesC r0 r1 r2 r3 r4 r5), slT 0 3 n] (hpT [⟨some 0, n, st3 z0 z1 z2⟩] [] []) (int (qplanE n (qpC z0 z1 z2 r0))) (hpT [⟨some 0, n, st3 z0 z1 z2⟩] [] []) := by
  refine call_base (recT_ok tb_mapS_ok) (c := bodyOf Tryz.f65) (fn := Tryz.f65) Tryz.func65 (by kernel_rfl) (by kernel_rfl) (false, false) 1 [1, 2, 4, 5] [4] (sB := cpB n z0 z1 z2 r0 r1 r2 r3 r4 r5) (by kernel_rfl) (cp_pre n z0 z1 z2 r0 r1 r2 r3 r4 r5) ?_
  unfold qplanE
  cases decide ((n : Int) > 256) with
  | true => exact cutF_done (cp_left n z0 z1 z2 5)
  | false =>
    refine cutF_stop _ true [] [4] (loop_is (recT_ok tb_mapS_ok) rfl [1, 2, 4, 5] [4] (fun k : Nat => cpH n z0 z1 z2 r0 r1 r2 r3 r4 r5 (k : Int)) (fun k => n - k) (fun k => k ≤ n) (cpFin n z0 z1 z2 r0) (cpS n z0 z1 z2 r0 r1 r2 r3 r4 r5) (fun k _ => cp_round n z0 z1 z2 r0 r1 r2 r3 r4 r5 k) (fun k hk => cp_dec n z0 z1 z2 r0 r1 r2 r3 r4 r5 hn k hk) 0 (Nat.zero_le n)) fun q hq => ?_
    subst hq
    unfold cpFin
    rw [Nat.sub_zero]
    cases fnz (qpC z0 z1 z2 r0) n 0 with
    | some e =>
      simp only []
      rw [cp_ret]
      exact cutF_done (cp_left n z0 z1 z2 e)
    | none =>
      simp only []
      rw [cp_exit]
      exact cutF_done (cp_left n z0 z1 z2 0)
end
def cpF : FT
  | [r0, _, _, _, _, _], [], [], [⟨_, n, [.str z0, .int .i64 z1, .int .i64 z2]⟩] => .need (Nat.ble n 9223372036854775807) (.leaf (int (qplanE n (qpC z0 z1 z2 r0)), []))
  | _, _, _, _ => .fail 362
def i6 : List CK := [.i, .i, .i, .i, .i, .i]
def cpSp : Spec := fun args h => specT [(true, i6), (false, [.t stepD])] [] cpF args h
theorem cp_ok : SpecOk Tryz.prog 65 cpSp := by
  refine specT_ok rfl (by decide) fun l m n ts v news hl hm hn ht hnil hF => ?_
  unfold cpF at hF
  split at hF
  · rename_i r0 r1 r2 r3 r4 r5 id n z0 z1 z2
    obtain ⟨hok, hF⟩ := Tree.need_some hF
    have hok := Nat.le_of_ble_eq_true hok
    simp only [Tree.run, Option.some.injEq, Prod.mk.injEq] at hF
    obtain ⟨rfl, rfl⟩ := hF
    cases id with
    | none =>
      have h0 : n = 0 := hnil _ (List.mem_singleton.2 rfl) rfl
      subst h0
      exact call_ev tb_mapS_ok (by kernel_rfl)
    | some id => exact cp_call n z0 z1 z2 r0 r1 r2 r3 r4 r5 hok
  · cases hF
def tb_cp : List (FuncId × Spec) := (65, cpSp) :: (62, spSp) :: tb_mapS
theorem tb_cp_ok : TabOk Tryz.prog (tabOf tb_cp) := tab_cons (tab_cons tb_mapS_ok sp_ok) cp_ok
end Go.Ev
