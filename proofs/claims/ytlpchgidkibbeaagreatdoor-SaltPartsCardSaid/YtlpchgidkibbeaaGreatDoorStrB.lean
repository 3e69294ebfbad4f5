/- SaltStrain: the damage of cycles and a rest, by the program. Conditions: short lists. SaltStrain: the damage of cycles and a rest, by the reference; both as entries. Conditions: short lists. SaltStrain: how many cycles are in each class, by the program and by the reference. Conditions: short lists. -/
import Derived.Test.YtlpchgidkibbeaaGreatDoorStrA
namespace Go.Ev
open Go Go.Proofs
set_option maxRecDepth 100000

/-- the range between two numbers, as the program computes it -/
def farW (a b : Int) : Int := if w64 (b - a) > w64 (a - b) then w64 (b - a) else w64 (a - b)
/-- the damage of a range -/
def dmgV (w1 w2 : Nat → Int) (c : Nat) (s : Int) : Int := match decide (clsK w1 s c ≥ 0) with
  | true => w2 (0 + (clsK w1 s c).toNat)
  | false => 0
def d1V (z1 z2 w1 w2 : Nat → Int) (c : Nat) : Nat → Int
  | 0 => 0
  | k + 1 => w64 (d1V z1 z2 w1 w2 c k + w64 (2 * dmgV w1 w2 c (farW (z1 k) (z2 k))))
def d2V (r w1 w2 : Nat → Int) (c : Nat) (o : Int) : Nat → Int
  | 0 => o
  | k + 1 => w64 (d2V r w1 w2 c o k + dmgV w1 w2 c (farW (r k) (r (k + 1))))
noncomputable def daRe : Code → St → Tree (X × St) := recT Tryz.prog (tabOf tbH3)
section
variable (n m c : Nat) (z1 z2 r w1 w2 : Nat → Int)
def daTs : List TA := [⟨some 0, n, [.int .i64 z1, .int .i64 z2]⟩, ⟨some 1, m, [.int .i64 r]⟩, ⟨some 2, c, [.int .i64 w1, .int .i64 w2]⟩]
def daHp : Hp := hpT (daTs n m c z1 z2 r w1 w2) [] []
def daB : St := { baseB 63 [slT 0 2 n, slT 1 1 m, slT 2 2 c] (daHp n m c z1 z2 r w1 w2) with keep := true }
def daN (env : List (Nat × A)) (news : List Blk) : St := { stN 63 (envL env) (bsS (daTs n m c z1 z2 r w1 w2) []) [] news with keep := true }
def daBox : List Blk := [⟨false, 58, .flat [.sl false 2 0 2 0 c]⟩]
def daFn : A := .one (.fn 99 [(3, 0, 1, 0)])
def daH1 (o i : Int) : St := daN n m c z1 z2 r w1 w2 [(1, slT 1 1 m), (9, daFn), (10, int o), (26, slT 0 2 n), (27, int n), (28, int i)] (daBox c)
def daX1 (o : Int) : St := daN n m c z1 z2 r w1 w2 [(1, slT 1 1 m), (9, daFn), (10, int o)] (daBox c)
def daH2 (o b i : Int) : St := daN n m c z1 z2 r w1 w2 [(1, slT 1 1 m), (9, daFn), (10, int o), (43, int b), (44, int i)] (daBox c)
def daX2 (o : Int) : St := daN n m c z1 z2 r w1 w2 [(10, int o)] []
def daR (o e : Int) : St := daN n m c z1 z2 r w1 w2 [(6, int o), (7, int e)] []
noncomputable def daP2 : List Bool := pathOf (bodyOf Tryz.f29) 1
noncomputable def daC2 : Code := nthLoop (bodyOf Tryz.f29) daP2
noncomputable def daO : Tree ((X × St) ⊕ (List Bool × St)) := evO daRe (bodyOf Tryz.f29) [1, 9, 10, 26, 27, 28] [6, 7] (daB n m c z1 z2 r w1 w2)
noncomputable def daT1 (o : Int) (k : Nat) : Tree (X × St) := (daRe (loopF Tryz.f29) (daH1 n m c z1 z2 r w1 w2 o (k : Int))).bind (canonT [1, 9, 10, 26, 27, 28] [1, 9, 10] (daB n m c z1 z2 r w1 w2))
noncomputable def daM (o : Int) : Tree ((X × St) ⊕ (List Bool × St)) := evO2 daRe true (bodyOf Tryz.f29) (pathF Tryz.f29) [1, 9, 10, 43, 44] [6, 7] (daB n m c z1 z2 r w1 w2) (.exit 0, daX1 n m c z1 z2 r w1 w2 o)
noncomputable def daT2 (o b : Int) (k : Nat) : Tree (X × St) := (daRe daC2 (daH2 n m c z1 z2 r w1 w2 o b (k : Int))).bind (canonT [1, 9, 10, 43, 44] [10] (daB n m c z1 z2 r w1 w2))
noncomputable def daE (o : Int) : Tree ((X × St) ⊕ (List Bool × St)) := evO2 daRe true (bodyOf Tryz.f29) daP2 [] [6, 7] (daB n m c z1 z2 r w1 w2) (.exit 2, daX2 n m c z1 z2 r w1 w2 o)
/-- the damage of a range, and what is done with it -/
def daOf (s : Int) (S : Int → Sk (X × St)) : Sk (X × St) := .need (okN c) (.need (Nat.ble c 1000000) (.node (decide (clsK w1 s c ≥ 0)) (.need (decide (0 ≤ clsK w1 s c) && decide (clsK w1 s c < (c : Int))) (.need (Nat.blt (0 + (clsK w1 s c).toNat) c) (S (w2 (0 + (clsK w1 s c).toNat))))) (S 0)))
noncomputable def daS1 (o : Int) (k : Nat) : Sk (X × St) := .node (decide ((k : Int) < (n : Int))) (.need (decide (0 ≤ (k : Int)) && decide ((k : Int) < (n : Int))) (.need (Nat.blt (0 + Int.toNat (k : Int)) n) (.need (Nat.blt (0 + Int.toNat (k : Int)) n)
  (daOf c w1 w2 (farW (z1 (0 + Int.toNat (k : Int))) (z2 (0 + Int.toNat (k : Int)))) fun d => .leaf (.normal, daH1 n m c z1 z2 r w1 w2 (w64 (o + w64 (2 * d))) (IntKind.i64.wrap ((k : Int) + 1))))))) (.leaf (.exit 0, daX1 n m c z1 z2 r w1 w2 o))
noncomputable def daS2 (o b : Int) (k : Nat) : Sk (X × St) := .node (decide ((k : Int) < b)) (.need (decide (0 ≤ (k : Int)) && decide ((k : Int) < (m : Int))) (.need (Nat.blt (0 + Int.toNat (k : Int)) m) (.need (decide (0 ≤ IntKind.i64.wrap ((k : Int) + 1)) && decide (IntKind.i64.wrap ((k : Int) + 1) < (m : Int))) (.need (Nat.blt (0 + (IntKind.i64.wrap ((k : Int) + 1)).toNat) m)
  (daOf c w1 w2 (farW (r (0 + Int.toNat (k : Int))) (r (0 + (IntKind.i64.wrap ((k : Int) + 1)).toNat))) fun d => .leaf (.normal, daH2 n m c z1 z2 r w1 w2 (w64 (o + d)) b (IntKind.i64.wrap ((k : Int) + 1)))))))) (.leaf (.exit 2, daX2 n m c z1 z2 r w1 w2 o))
def daV (n m c : Nat) (z1 z2 r w1 w2 : Nat → Int) : Int := d2V r w1 w2 c (d1V z1 z2 w1 w2 c n) (m - 1)
def daErr (n m c : Nat) (z1 z2 r w1 w2 : Nat → Int) : Int := firstZ [cycE n z1 z2, hisE m r, clsE c w1 w2]
noncomputable def daOS : Sk ((X × St) ⊕ (List Bool × St)) := .need (okN n) (.need (Nat.ble n 9223372036854775807) (.need (okN m) (.need (Nat.ble m 9223372036854775807) (.need (okN c) (.node (daErr n m c z1 z2 r w1 w2 != 0) (.leaf (.inl (.ret, daR n m c z1 z2 r w1 w2 0 (daErr n m c z1 z2 r w1 w2)))) (.leaf (.inr (pathF Tryz.f29, daH1 n m c z1 z2 r w1 w2 0 ((0 : Nat) : Int)))))))))
section
variable (o b : Int) (k : Nat)
theorem daO_into : daO n m c z1 z2 r w1 w2 = into (daO n m c z1 z2 r w1 w2) (daOS n m c z1 z2 r w1 w2) := by kernel_rfl
theorem daO_fits : fits (daO n m c z1 z2 r w1 w2) (daOS n m c z1 z2 r w1 w2) = true := by kernel_rfl
theorem da1_into : daT1 n m c z1 z2 r w1 w2 o k = into (daT1 n m c z1 z2 r w1 w2 o k) (daS1 n m c z1 z2 r w1 w2 o k) := by kernel_rfl
theorem da1_fits : fits (daT1 n m c z1 z2 r w1 w2 o k) (daS1 n m c z1 z2 r w1 w2 o k) = true := by kernel_rfl
theorem daM_into : daM n m c z1 z2 r w1 w2 o = into (daM n m c z1 z2 r w1 w2 o) (.leaf (.inr (daP2, daH2 n m c z1 z2 r w1 w2 o (siI m) ((0 : Nat) : Int)))) := by kernel_rfl
theorem daM_fits : fits (daM n m c z1 z2 r w1 w2 o) (.leaf (.inr (daP2, daH2 n m c z1 z2 r w1 w2 o (siI m) ((0 : Nat) : Int)))) = true := by kernel_rfl
theorem da2_into : daT2 n m c z1 z2 r w1 w2 o b k = into (daT2 n m c z1 z2 r w1 w2 o b k) (daS2 n m c z1 z2 r w1 w2 o b k) := by kernel_rfl
theorem da2_fits : fits (daT2 n m c z1 z2 r w1 w2 o b k) (daS2 n m c z1 z2 r w1 w2 o b k) = true := by kernel_rfl
theorem daE_into : daE n m c z1 z2 r w1 w2 o = into (daE n m c z1 z2 r w1 w2 o) (.leaf (.inl (.ret, daR n m c z1 z2 r w1 w2 o 0))) := by kernel_rfl
theorem daE_fits : fits (daE n m c z1 z2 r w1 w2 o) (.leaf (.inl (.ret, daR n m c z1 z2 r w1 w2 o 0))) = true := by kernel_rfl
end
theorem daRe_ok : RecOk Tryz.prog daRe := recT_ok tbH3_ok
theorem daOf_ok {p : X × St → Prop} {s : Int} {S : Int → Sk (X × St)} (hc : c ≤ 1000000) (h : SkLeads p (S (dmgV w1 w2 c s))) : SkLeads p (daOf c w1 w2 s S) := by
  obtain ⟨b1, b2⟩ := clsK_bd w1 s c
  unfold daOf
  unfold dmgV at h
  refine sk_need (okN_ok c) (sk_need (by rw [Nat.ble_eq]; exact hc) (sk_either (fun g => ?_) fun g => ?_))
  · rw [g] at h
    simp only [decide_eq_true_eq] at g
    refine sk_need ?_ (sk_need ?_ h)
    · rw [show decide (0 ≤ clsK w1 s c) = true by simpa using g, show decide (clsK w1 s c < (c : Int)) = true by simpa using b2]; rfl
    · rw [Nat.blt_eq]; omega
  · rw [g] at h
    exact h
theorem da_loop1 (hn : n ≤ 1000000) (hc : c ≤ 1000000) : ComesF Tryz.prog (.loop (loopF Tryz.f29)) (daB n m c z1 z2 r w1 w2) (daH1 n m c z1 z2 r w1 w2 (d1V z1 z2 w1 w2 c 0) ((0 : Nat) : Int)) fun q => q = (.exit 0, daX1 n m c z1 z2 r w1 w2 (d1V z1 z2 w1 w2 c n)) := by
  refine loop_count daRe_ok rfl [1, 9, 10, 26, 27, 28] [1, 9, 10] (fun k => daH1 n m c z1 z2 r w1 w2 (d1V z1 z2 w1 w2 c k) (k : Int)) (fun _ => (.exit 0, daX1 n m c z1 z2 r w1 w2 (d1V z1 z2 w1 w2 c n))) n (fun k => daT1 n m c z1 z2 r w1 w2 (d1V z1 z2 w1 w2 c k) k) (fun k => daS1 n m c z1 z2 r w1 w2 (d1V z1 z2 w1 w2 c k) k) (fun _ => rfl) (fun k => da1_into n m c z1 z2 r w1 w2 _ k) (fun k => da1_fits n m c z1 z2 r w1 w2 _ k) (fun k hk => ?_) (sk_no (rnd_end n) (sk_leaf rfl))
  obtain ⟨a1, a2, a3⟩ := rnd_lt hk
  refine sk_yes a1 (sk_need a2 (sk_need a3 (sk_need a3 ?_)))
  rw [idx_nat]
  refine daOf_ok c w1 w2 hc (sk_leaf (rnd_next ?_ rfl))
  rw [wrap_succ (by omega)]
  exact St.Le.refl _
theorem da_loop2 (o : Int) (hm : m ≤ 1000000) (hc : c ≤ 1000000) : ComesF Tryz.prog (.loop daC2) (daB n m c z1 z2 r w1 w2) (daH2 n m c z1 z2 r w1 w2 (d2V r w1 w2 c o 0) ((m - 1 : Nat) : Int) ((0 : Nat) : Int)) fun q => q = (.exit 2, daX2 n m c z1 z2 r w1 w2 (d2V r w1 w2 c o (m - 1))) := by
  refine loop_count daRe_ok rfl [1, 9, 10, 43, 44] [10] (fun k => daH2 n m c z1 z2 r w1 w2 (d2V r w1 w2 c o k) ((m - 1 : Nat) : Int) (k : Int)) (fun _ => (.exit 2, daX2 n m c z1 z2 r w1 w2 (d2V r w1 w2 c o (m - 1)))) (m - 1) (fun k => daT2 n m c z1 z2 r w1 w2 (d2V r w1 w2 c o k) ((m - 1 : Nat) : Int) k) (fun k => daS2 n m c z1 z2 r w1 w2 (d2V r w1 w2 c o k) ((m - 1 : Nat) : Int) k) (fun _ => rfl) (fun k => da2_into n m c z1 z2 r w1 w2 _ _ k) (fun k => da2_fits n m c z1 z2 r w1 w2 _ _ k) (fun k hk => ?_) (sk_no (rnd_end (m - 1)) (sk_leaf rfl))
  have a1 := (rnd_lt hk).1
  obtain ⟨_, a2, a3⟩ := rnd_lt (show k < m by omega)
  obtain ⟨_, b2, b3⟩ := rnd_lt (show k + 1 < m by omega)
  refine sk_yes a1 (sk_need a2 (sk_need a3 ?_))
  rw [wrap_succ (by omega)]
  refine sk_need b2 (sk_need b3 ?_)
  rw [idx_nat, idx_nat]
  exact daOf_ok c w1 w2 hc (sk_leaf (rnd_next (St.Le.refl _) rfl))
theorem da_left (o e : Int) : Left2 Tryz.prog Tryz.f29 (daHp n m c z1 z2 r w1 w2) (.tup [(false, [ci o]), (false, [ci e])]) (daHp n m c z1 z2 r w1 w2) (.ret, daR n m c z1 z2 r w1 w2 o e) := left_of (b := true) (by kernel_rfl)
theorem his_len {n : Nat} {z : Nat → Int} (h : hisE n z = 0) : n ≤ 256 := by
  unfold hisE at h
  split at h
  · cases h
  · rename_i g; simp only [decide_eq_false_iff_not] at g; omega
theorem cyc_len {n : Nat} {z1 z2 : Nat → Int} (h : cycE n z1 z2 = 0) : n ≤ 256 := by
  unfold cycE at h
  split at h
  · cases h
  · rename_i g; simp only [decide_eq_false_iff_not] at g; omega
theorem cls_len {n : Nat} {z1 z2 : Nat → Int} (h : clsE n z1 z2 = 0) : 1 ≤ n ∧ n ≤ 16 := by
  unfold clsE at h
  split at h
  · rename_i g; rw [h] at g; cases g
  · rename_i g
    obtain ⟨h1, h2⟩ := first0 (ne0 g)
    obtain ⟨h2, _⟩ := first0 h2
    have g1 := errIf0 (by decide) h1
    have g2 := errIf0 (by decide) h2
    simp only [decide_eq_false_iff_not, beq_eq_false_iff_ne, ne_eq] at g1 g2
    omega
/-- what is handed back -/
def daU : A := match daErr n m c z1 z2 r w1 w2 != 0 with
  | true => .tup [(false, [ci 0]), (false, [ci (daErr n m c z1 z2 r w1 w2)])]
  | false => .tup [(false, [ci (daV n m c z1 z2 r w1 w2)]), (false, [ci 0])]
theorem da_call (hn : n ≤ 9223372036854775807) (hm : m ≤ 9223372036854775807) : CallAt Tryz.prog 29 [slT 0 2 n, slT 1 1 m, slT 2 2 c] (daHp n m c z1 z2 r w1 w2) (daU n m c z1 z2 r w1 w2) (daHp n m c z1 z2 r w1 w2) := by
  refine call_base (rec := daRe) daRe_ok (c := bodyOf Tryz.f29) (fn := Tryz.f29) Tryz.func29 (by kernel_rfl) (by kernel_rfl) (false, true) 2 [1, 9, 10, 26, 27, 28] [6, 7] (sB := daB n m c z1 z2 r w1 w2) (by kernel_rfl) (t := daO n m c z1 z2 r w1 w2) (by delta daO; rfl) (all_into (daO_into n m c z1 z2 r w1 w2) (daO_fits n m c z1 z2 r w1 w2) (SkLeads.all ?_))
  unfold daU
  refine sk_need (okN_ok n) (sk_need (by rw [Nat.ble_eq]; exact hn) (sk_need (okN_ok m) (sk_need (by rw [Nat.ble_eq]; exact hm) (sk_need (okN_ok c) (sk_either (fun g => ?_) fun g => ?_)))))
  · rw [g]; exact sk_leaf (cutF_dn (da_left n m c z1 z2 r w1 w2 _ _))
  · rw [g]
    obtain ⟨e1, e2⟩ := first0 (ne0 g)
    obtain ⟨e2, e3⟩ := first0 e2
    obtain ⟨e3, _⟩ := first0 e3
    have l1 := cyc_len e1
    have l2 := his_len e2
    have l3 := cls_len e3
    refine sk_leaf ⟨_, true, [1, 9, 10, 43, 44], [6, 7], da_loop1 n m c z1 z2 r w1 w2 (by omega) (by omega), fun q hq => Leads.all ?_⟩
    subst hq
    refine leads_in (show _ = daM n m c z1 z2 r w1 w2 (d1V z1 z2 w1 w2 c n) by delta daM; rfl) (daM_into n m c z1 z2 r w1 w2 _) (daM_fits n m c z1 z2 r w1 w2 _) (sk_leaf ?_)
    rw [siI_eq (by omega)]
    refine ⟨_, true, [], [6, 7], da_loop2 n m c z1 z2 r w1 w2 (d1V z1 z2 w1 w2 c n) (by omega) (by omega), fun q hq => Leads.all ?_⟩
    subst hq
    exact leads_in (show _ = daE n m c z1 z2 r w1 w2 (daV n m c z1 z2 r w1 w2) by delta daE daV; rfl) (daE_into n m c z1 z2 r w1 w2 _) (daE_fits n m c z1 z2 r w1 w2 _) (sk_leaf (cutF_dn (da_left n m c z1 z2 r w1 w2 _ _)))
end
end Go.Ev

namespace Go.Ev
open Go Go.Proofs
set_option maxRecDepth 100000

/-- the absolute value of a difference, as the reference computes it -/
def absQ (x : Int) : Int := if w64 (0 - x) > x then w64 (0 - x) else x
theorem absQ_far (a b : Int) : absQ (w64 (a - b)) = farW a b := by
  have h : w64 (0 - w64 (a - b)) = w64 (b - a) := by
    have e : ∀ x : Int, w64 x = (x + 9223372036854775808) % 18446744073709551616 - 9223372036854775808 := fun x => IntKind.wrap_i64 x
    rw [e, e, e]
    omega
  unfold absQ farW
  rw [h]
section
variable (n m c : Nat) (z1 z2 r w1 w2 : Nat → Int)
def dqB : St := { baseB 56 [slT 0 2 n, slT 1 1 m, slT 2 2 c] (daHp n m c z1 z2 r w1 w2) with keep := true }
def dqN (env : List (Nat × A)) : St := { stN 56 (envL env) (bsS (daTs n m c z1 z2 r w1 w2) []) [] [] with keep := true }
def dqH1 (o i : Int) : St := dqN n m c z1 z2 r w1 w2 [(0, slT 0 2 n), (1, slT 1 1 m), (2, slT 2 2 c), (7, int o), (8, int i)]
def dqX1 (o : Int) : St := dqN n m c z1 z2 r w1 w2 [(1, slT 1 1 m), (2, slT 2 2 c), (7, int o)]
def dqH2 (o i : Int) : St := dqN n m c z1 z2 r w1 w2 [(1, slT 1 1 m), (2, slT 2 2 c), (7, int o), (9, int i)]
def dqX2 (o : Int) : St := dqN n m c z1 z2 r w1 w2 [(7, int o)]
def dqR (o : Int) : St := dqN n m c z1 z2 r w1 w2 [(6, int o)]
noncomputable def dqP2 : List Bool := pathOf (bodyOf Tryz.f36) 1
noncomputable def dqC2 : Code := nthLoop (bodyOf Tryz.f36) dqP2
noncomputable def dqO : Tree ((X × St) ⊕ (List Bool × St)) := evO daRe (bodyOf Tryz.f36) [0, 1, 2, 7, 8] [6] (dqB n m c z1 z2 r w1 w2)
noncomputable def dqT1 (o : Int) (k : Nat) : Tree (X × St) := (daRe (loopF Tryz.f36) (dqH1 n m c z1 z2 r w1 w2 o (k : Int))).bind (canonT [0, 1, 2, 7, 8] [1, 2, 7] (dqB n m c z1 z2 r w1 w2))
noncomputable def dqM (o : Int) : Tree ((X × St) ⊕ (List Bool × St)) := evO2 daRe true (bodyOf Tryz.f36) (pathF Tryz.f36) [1, 2, 7, 9] [6] (dqB n m c z1 z2 r w1 w2) (.exit 0, dqX1 n m c z1 z2 r w1 w2 o)
noncomputable def dqT2 (o : Int) (k : Nat) : Tree (X × St) := (daRe dqC2 (dqH2 n m c z1 z2 r w1 w2 o (k : Int))).bind (canonT [1, 2, 7, 9] [7] (dqB n m c z1 z2 r w1 w2))
noncomputable def dqE (o : Int) : Tree ((X × St) ⊕ (List Bool × St)) := evO2 daRe true (bodyOf Tryz.f36) dqP2 [] [6] (dqB n m c z1 z2 r w1 w2) (.exit 2, dqX2 n m c z1 z2 r w1 w2 o)
noncomputable def dqS1 (o : Int) (k : Nat) : Sk (X × St) := .node (decide ((k : Int) < (n : Int))) (.need (decide (0 ≤ (k : Int)) && decide ((k : Int) < (n : Int))) (.need (Nat.blt (0 + Int.toNat (k : Int)) n) (.need (decide (0 ≤ (k : Int)) && decide ((k : Int) < (n : Int))) (.need (Nat.blt (0 + Int.toNat (k : Int)) n)
  (daOf c w1 w2 (absQ (w64 (z1 (0 + Int.toNat (k : Int)) - z2 (0 + Int.toNat (k : Int))))) fun d => .leaf (.normal, dqH1 n m c z1 z2 r w1 w2 (w64 (o + w64 (2 * d))) (IntKind.i64.wrap ((k : Int) + 1)))))))) (.leaf (.exit 0, dqX1 n m c z1 z2 r w1 w2 o))
noncomputable def dqS2 (o : Int) (k : Nat) : Sk (X × St) := .node (decide (IntKind.i64.wrap ((k : Int) + 1) < (m : Int))) (.need (decide (0 ≤ (k : Int)) && decide ((k : Int) < (m : Int))) (.need (Nat.blt (0 + Int.toNat (k : Int)) m) (.need (decide (0 ≤ IntKind.i64.wrap ((k : Int) + 1)) && decide (IntKind.i64.wrap ((k : Int) + 1) < (m : Int))) (.need (Nat.blt (0 + (IntKind.i64.wrap ((k : Int) + 1)).toNat) m)
  (daOf c w1 w2 (absQ (w64 (r (0 + Int.toNat (k : Int)) - r (0 + (IntKind.i64.wrap ((k : Int) + 1)).toNat)))) fun d => .leaf (.normal, dqH2 n m c z1 z2 r w1 w2 (w64 (o + d)) (IntKind.i64.wrap ((k : Int) + 1)))))))) (.leaf (.exit 2, dqX2 n m c z1 z2 r w1 w2 o))
section
variable (o : Int) (k : Nat)
theorem dqO_into : dqO n m c z1 z2 r w1 w2 = into (dqO n m c z1 z2 r w1 w2) (.leaf (.inr (pathF Tryz.f36, dqH1 n m c z1 z2 r w1 w2 0 ((0 : Nat) : Int)))) := by kernel_rfl
theorem dqO_fits : fits (dqO n m c z1 z2 r w1 w2) (.leaf (.inr (pathF Tryz.f36, dqH1 n m c z1 z2 r w1 w2 0 ((0 : Nat) : Int)))) = true := by kernel_rfl
theorem dq1_into : dqT1 n m c z1 z2 r w1 w2 o k = into (dqT1 n m c z1 z2 r w1 w2 o k) (dqS1 n m c z1 z2 r w1 w2 o k) := by kernel_rfl
theorem dq1_fits : fits (dqT1 n m c z1 z2 r w1 w2 o k) (dqS1 n m c z1 z2 r w1 w2 o k) = true := by kernel_rfl
theorem dqM_into : dqM n m c z1 z2 r w1 w2 o = into (dqM n m c z1 z2 r w1 w2 o) (.leaf (.inr (dqP2, dqH2 n m c z1 z2 r w1 w2 o ((0 : Nat) : Int)))) := by kernel_rfl
theorem dqM_fits : fits (dqM n m c z1 z2 r w1 w2 o) (.leaf (.inr (dqP2, dqH2 n m c z1 z2 r w1 w2 o ((0 : Nat) : Int)))) = true := by kernel_rfl
theorem dq2_into : dqT2 n m c z1 z2 r w1 w2 o k = into (dqT2 n m c z1 z2 r w1 w2 o k) (dqS2 n m c z1 z2 r w1 w2 o k) := by kernel_rfl
theorem dq2_fits : fits (dqT2 n m c z1 z2 r w1 w2 o k) (dqS2 n m c z1 z2 r w1 w2 o k) = true := by kernel_rfl
theorem dqE_into : dqE n m c z1 z2 r w1 w2 o = into (dqE n m c z1 z2 r w1 w2 o) (.leaf (.inl (.ret, dqR n m c z1 z2 r w1 w2 o))) := by kernel_rfl
theorem dqE_fits : fits (dqE n m c z1 z2 r w1 w2 o) (.leaf (.inl (.ret, dqR n m c z1 z2 r w1 w2 o))) = true := by kernel_rfl
end
theorem dq_loop1 (hn : n ≤ 1000000) (hc : c ≤ 1000000) : ComesF Tryz.prog (.loop (loopF Tryz.f36)) (dqB n m c z1 z2 r w1 w2) (dqH1 n m c z1 z2 r w1 w2 (d1V z1 z2 w1 w2 c 0) ((0 : Nat) : Int)) fun q => q = (.exit 0, dqX1 n m c z1 z2 r w1 w2 (d1V z1 z2 w1 w2 c n)) := by
  refine loop_count daRe_ok rfl [0, 1, 2, 7, 8] [1, 2, 7] (fun k => dqH1 n m c z1 z2 r w1 w2 (d1V z1 z2 w1 w2 c k) (k : Int)) (fun _ => (.exit 0, dqX1 n m c z1 z2 r w1 w2 (d1V z1 z2 w1 w2 c n))) n (fun k => dqT1 n m c z1 z2 r w1 w2 (d1V z1 z2 w1 w2 c k) k) (fun k => dqS1 n m c z1 z2 r w1 w2 (d1V z1 z2 w1 w2 c k) k) (fun _ => rfl) (fun k => dq1_into n m c z1 z2 r w1 w2 _ k) (fun k => dq1_fits n m c z1 z2 r w1 w2 _ k) (fun k hk => ?_) (sk_no (rnd_end n) (sk_leaf rfl))
  obtain ⟨a1, a2, a3⟩ := rnd_lt hk
  refine sk_yes a1 (sk_need a2 (sk_need a3 (sk_need a2 (sk_need a3 ?_))))
  rw [idx_nat, absQ_far]
  refine daOf_ok c w1 w2 hc (sk_leaf (rnd_next ?_ rfl))
  rw [wrap_succ (by omega)]
  exact St.Le.refl _
theorem dq_loop2 (o : Int) (hm : m ≤ 1000000) (hc : c ≤ 1000000) : ComesF Tryz.prog (.loop dqC2) (dqB n m c z1 z2 r w1 w2) (dqH2 n m c z1 z2 r w1 w2 (d2V r w1 w2 c o 0) ((0 : Nat) : Int)) fun q => q = (.exit 2, dqX2 n m c z1 z2 r w1 w2 (d2V r w1 w2 c o (m - 1))) := by
  refine loop_count daRe_ok rfl [1, 2, 7, 9] [7] (fun k => dqH2 n m c z1 z2 r w1 w2 (d2V r w1 w2 c o k) (k : Int)) (fun _ => (.exit 2, dqX2 n m c z1 z2 r w1 w2 (d2V r w1 w2 c o (m - 1)))) (m - 1) (fun k => dqT2 n m c z1 z2 r w1 w2 (d2V r w1 w2 c o k) k) (fun k => dqS2 n m c z1 z2 r w1 w2 (d2V r w1 w2 c o k) k) (fun _ => rfl) (fun k => dq2_into n m c z1 z2 r w1 w2 _ k) (fun k => dq2_fits n m c z1 z2 r w1 w2 _ k) (fun k hk => ?_) (sk_no ?_ (sk_leaf rfl))
  · obtain ⟨_, a2, a3⟩ := rnd_lt (show k < m by omega)
    obtain ⟨b1, b2, b3⟩ := rnd_lt (show k + 1 < m by omega)
    unfold dqS2
    rw [wrap_succ (by omega)]
    refine sk_yes b1 (sk_need a2 (sk_need a3 (sk_need b2 (sk_need b3 ?_))))
    rw [idx_nat, idx_nat, absQ_far]
    exact daOf_ok c w1 w2 hc (sk_leaf (rnd_next (St.Le.refl _) rfl))
  · rw [wrap_succ (by omega)]
    simp only [decide_eq_false_iff_not]
    omega
theorem dq_left (o : Int) : Left2 Tryz.prog Tryz.f36 (daHp n m c z1 z2 r w1 w2) (int o) (daHp n m c z1 z2 r w1 w2) (.ret, dqR n m c z1 z2 r w1 w2 o) := left_of (b := true) (by kernel_rfl)
theorem dq_call (hn : n ≤ 1000000) (hm : m ≤ 1000000) (hc : c ≤ 1000000) : CallAt Tryz.prog 36 [slT 0 2 n, slT 1 1 m, slT 2 2 c] (daHp n m c z1 z2 r w1 w2) (int (daV n m c z1 z2 r w1 w2)) (daHp n m c z1 z2 r w1 w2) := by
  refine call_base (rec := daRe) daRe_ok (c := bodyOf Tryz.f36) (fn := Tryz.f36) Tryz.func36 (by kernel_rfl) (by kernel_rfl) (false, true) 2 [0, 1, 2, 7, 8] [6] (sB := dqB n m c z1 z2 r w1 w2) (by kernel_rfl) (t := dqO n m c z1 z2 r w1 w2) (by delta dqO; rfl) (all_into (dqO_into n m c z1 z2 r w1 w2) (dqO_fits n m c z1 z2 r w1 w2) (SkLeads.all ?_))
  refine sk_leaf ⟨_, true, [1, 2, 7, 9], [6], dq_loop1 n m c z1 z2 r w1 w2 hn hc, fun q hq => Leads.all ?_⟩
  subst hq
  refine leads_in (show _ = dqM n m c z1 z2 r w1 w2 (d1V z1 z2 w1 w2 c n) by delta dqM; rfl) (dqM_into n m c z1 z2 r w1 w2 _) (dqM_fits n m c z1 z2 r w1 w2 _) (sk_leaf ?_)
  refine ⟨_, true, [], [6], dq_loop2 n m c z1 z2 r w1 w2 (d1V z1 z2 w1 w2 c n) hm hc, fun q hq => Leads.all ?_⟩
  subst hq
  exact leads_in (show _ = dqE n m c z1 z2 r w1 w2 (daV n m c z1 z2 r w1 w2) by delta dqE daV; rfl) (dqE_into n m c z1 z2 r w1 w2 _) (dqE_fits n m c z1 z2 r w1 w2 _) (sk_leaf (cutF_dn (dq_left n m c z1 z2 r w1 w2 _)))
end
end Go.Ev

namespace Go.Ev
open Go Go.Proofs
set_option maxRecDepth 100000

def nilZ : C := .lit (.slice none 0 0)
def slZ (own : Bool) (j m n : Nat) : C := .sl own j 0 m 0 n
/-- how many cycles are in each class, behind k of them -/
def cntV (z1 z2 w1 : Nat → Int) (c : Nat) : Nat → Nat → Int
  | 0 => fun _ => 0
  | k + 1 => match decide (clsK w1 (farW (z1 k) (z2 k)) c ≥ 0) with
    | true => putF (cntV z1 z2 w1 c k) (0 + (clsK w1 (farW (z1 k) (z2 k)) c).toNat) (w64 (cntV z1 z2 w1 c k (0 + (clsK w1 (farW (z1 k) (z2 k)) c).toNat) + 1))
    | false => cntV z1 z2 w1 c k
def rowsSp : Spec := fun _ _ => .fail 777
theorem rowsSp_ok : SpecOk Tryz.prog 999999 rowsSp := fun args h v h' hr => by cases hr
def tbK : List (FuncId × Spec) := (999999, rowsSp) :: tbH3
theorem tbK_ok : TabOk Tryz.prog (tabOf tbK) := tab_cons tbH3_ok rowsSp_ok
noncomputable def cnRe : Code → St → Tree (X × St) := recT Tryz.prog (tabOf tbK)
theorem call_baseS' {P : Program} {rec : Code → St → Tree (X × St)} (hrec : RecOk P rec) {f : FuncId} {fn : Func} {c : Code} (hfn : P.funcs[f]? = some fn) (hc : fn.body = some c) {args : List A} (hsz : (Nat.ble args.length fn.ntmps && Nat.ble args.length lim) = true) {h : Hp} (m : Bool × Bool) {v : A} {h' : Hp} (k : Nat) (slots slotsR : List Nat)
    {sB : St} (hsB : sB = st0 fn args h m) {t : Tree ((X × St) ⊕ (List Bool × St))} (hpre : evO rec c slots slotsR sB = t) {S : Sk ((X × St) ⊕ (List Bool × St))} (h1 : t = into t S) (h2 : fits t S = true) (h3 : SkLeads (CutF P rec c sB (Left2 P fn h v h') k) S) : CallAt P f args h v h' :=
  call_base hrec hfn hc hsz m k slots slotsR hsB hpre (all_into h1 h2 h3.all)
theorem cnRe_ok : RecOk Tryz.prog cnRe := recT_ok tbK_ok
section
variable (n c : Nat) (z1 z2 w1 w2 : Nat → Int)
def cnTs : List TA := [⟨some 0, n, [.int .i64 z1, .int .i64 z2]⟩, ⟨some 1, c, [.int .i64 w1, .int .i64 w2]⟩]
def cnHp : Hp := hpT (cnTs n c z1 z2 w1 w2) [] []
def cnB : St := { baseB 43 [slT 0 2 n, slT 1 2 c] (cnHp n c z1 z2 w1 w2) with keep := true }
def cnN (env : List (Nat × A)) (news : List Blk) : St := { stN 43 (envL env) (bsS (cnTs n c z1 z2 w1 w2) []) [] news with keep := true }
def cnBl (f : Nat → Int) : List Blk := [⟨false, 3, .rows c [.int .i64 f]⟩]
def cnH (f : Nat → Int) (i : Int) : St := cnN n c z1 z2 w1 w2 [(1, slT 1 2 c), (7, slO 2 1 c), (23, slT 0 2 n), (24, int n), (25, int i)] (cnBl c f)
def cnX (f : Nat → Int) : St := cnN n c z1 z2 w1 w2 [(7, slO 2 1 c)] (cnBl c f)
noncomputable def cnO : Tree ((X × St) ⊕ (List Bool × St)) := evO cnRe (bodyOf Tryz.f26) [1, 7, 23, 24, 25] [4, 5] (cnB n c z1 z2 w1 w2)
noncomputable def cnT (f : Nat → Int) (k : Nat) : Tree (X × St) := (cnRe (loopF Tryz.f26) (cnH n c z1 z2 w1 w2 f (k : Int))).bind (canonT [1, 7, 23, 24, 25] [7] (cnB n c z1 z2 w1 w2))
noncomputable def cnE (f : Nat → Int) : Tree ((X × St) ⊕ (List Bool × St)) := evO2 cnRe true (bodyOf Tryz.f26) (pathF Tryz.f26) [] [4, 5] (cnB n c z1 z2 w1 w2) (.exit 0, cnX n c z1 z2 w1 w2 f)
/-! ### by the reference -/
def cqB : St := { baseB 41 [slT 0 2 n, slT 1 2 c] (cnHp n c z1 z2 w1 w2) with keep := true }
def cqN (env : List (Nat × A)) (news : List Blk) : St := { stN 41 (envL env) (bsS (cnTs n c z1 z2 w1 w2) []) [] news with keep := true }
def cqH (f : Nat → Int) (i : Int) : St := cqN n c z1 z2 w1 w2 [(0, slT 0 2 n), (1, slT 1 2 c), (5, slO 2 1 c), (6, int i)] (cnBl c f)
def cqX (f : Nat → Int) : St := cqN n c z1 z2 w1 w2 [(5, slO 2 1 c)] (cnBl c f)
noncomputable def cqO : Tree ((X × St) ⊕ (List Bool × St)) := evO cnRe (bodyOf Tryz.f35) [0, 1, 5, 6] [4] (cqB n c z1 z2 w1 w2)
noncomputable def cqT (f : Nat → Int) (k : Nat) : Tree (X × St) := (cnRe (loopF Tryz.f35) (cqH n c z1 z2 w1 w2 f (k : Int))).bind (canonT [0, 1, 5, 6] [5] (cqB n c z1 z2 w1 w2))
noncomputable def cqE (f : Nat → Int) : Tree ((X × St) ⊕ (List Bool × St)) := evO2 cnRe true (bodyOf Tryz.f35) (pathF Tryz.f35) [] [4] (cqB n c z1 z2 w1 w2) (.exit 0, cqX n c z1 z2 w1 w2 f)
/-! ### sketches -/
noncomputable def cnOf (s : Int) (f : Nat → Int) (S : (Nat → Int) → Sk (X × St)) : Sk (X × St) := .need (okN c) (.need (Nat.ble c 1000000) (.node (decide (clsK w1 s c ≥ 0))
  (.need (decide (0 ≤ clsK w1 s c) && decide (clsK w1 s c < (c : Int))) (.need (Nat.blt (0 + (clsK w1 s c).toNat) c) (.need (decide (0 ≤ clsK w1 s c) && decide (clsK w1 s c < (c : Int))) (.need (Nat.blt (0 + (clsK w1 s c).toNat) c) (S (putF f (0 + (clsK w1 s c).toNat) (w64 (f (0 + (clsK w1 s c).toNat) + 1))))))))
  (S f)))
noncomputable def cnS (f : Nat → Int) (k : Nat) : Sk (X × St) := .node (decide ((k : Int) < (n : Int))) (.need (decide (0 ≤ (k : Int)) && decide ((k : Int) < (n : Int))) (.need (Nat.blt (0 + Int.toNat (k : Int)) n) (.need (Nat.blt (0 + Int.toNat (k : Int)) n)
  (cnOf c w1 (farW (z1 (0 + Int.toNat (k : Int))) (z2 (0 + Int.toNat (k : Int)))) f fun f' => .leaf (.normal, cnH n c z1 z2 w1 w2 f' (IntKind.i64.wrap ((k : Int) + 1))))))) (.leaf (.exit 0, cnX n c z1 z2 w1 w2 f))
noncomputable def cqS (f : Nat → Int) (k : Nat) : Sk (X × St) := .node (decide ((k : Int) < (n : Int))) (.need (decide (0 ≤ (k : Int)) && decide ((k : Int) < (n : Int))) (.need (Nat.blt (0 + Int.toNat (k : Int)) n) (.need (decide (0 ≤ (k : Int)) && decide ((k : Int) < (n : Int))) (.need (Nat.blt (0 + Int.toNat (k : Int)) n)
  (cnOf c w1 (absQ (w64 (z1 (0 + Int.toNat (k : Int)) - z2 (0 + Int.toNat (k : Int))))) f fun f' => .leaf (.normal, cqH n c z1 z2 w1 w2 f' (IntKind.i64.wrap ((k : Int) + 1)))))))) (.leaf (.exit 0, cqX n c z1 z2 w1 w2 f))
def cnErr : Int := firstZ [cycE n z1 z2, clsE c w1 w2]
def cnR0 (e : Int) : St := cnN n c z1 z2 w1 w2 [(4, nilA), (5, int e)] []
def cnR (f : Nat → Int) : St := cnN n c z1 z2 w1 w2 [(4, slO 2 1 c), (5, int 0)] (cnBl c f)
def cqR (f : Nat → Int) : St := cqN n c z1 z2 w1 w2 [(4, slO 2 1 c)] (cnBl c f)
noncomputable def cnOS : Sk ((X × St) ⊕ (List Bool × St)) := .need (okN n) (.need (Nat.ble n 9223372036854775807) (.need (okN c) (.node (cnErr n c z1 z2 w1 w2 != 0) (.leaf (.inl (.ret, cnR0 n c z1 z2 w1 w2 (cnErr n c z1 z2 w1 w2))))
  (.need (decide ((c : Int) = (c : Int)) && decide (0 ≤ (c : Int)) && Nat.ble (c * 8) 140737488355328 && Nat.ble c 9223372036854775807) (.leaf (.inr (pathF Tryz.f26, cnH n c z1 z2 w1 w2 (fun _ => 0) ((0 : Nat) : Int))))))))
noncomputable def cqOS : Sk ((X × St) ⊕ (List Bool × St)) := .need (decide (0 < (c : Int)) && Nat.ble (c * 8) 140737488355328 && Nat.ble c 9223372036854775807) (.leaf (.inr (pathF Tryz.f35, cqH n c z1 z2 w1 w2 (fun _ => 0) ((0 : Nat) : Int))))
section
variable (f : Nat → Int) (k : Nat)
theorem cnO_into : cnO n c z1 z2 w1 w2 = into (cnO n c z1 z2 w1 w2) (cnOS n c z1 z2 w1 w2) := by kernel_rfl
theorem cnO_fits : fits (cnO n c z1 z2 w1 w2) (cnOS n c z1 z2 w1 w2) = true := by kernel_rfl
theorem cnT_into : cnT n c z1 z2 w1 w2 f k = into (cnT n c z1 z2 w1 w2 f k) (cnS n c z1 z2 w1 w2 f k) := by kernel_rfl
theorem cnT_fits : fits (cnT n c z1 z2 w1 w2 f k) (cnS n c z1 z2 w1 w2 f k) = true := by kernel_rfl
theorem cnE_into : cnE n c z1 z2 w1 w2 f = into (cnE n c z1 z2 w1 w2 f) (.leaf (.inl (.ret, cnR n c z1 z2 w1 w2 f))) := by kernel_rfl
theorem cnE_fits : fits (cnE n c z1 z2 w1 w2 f) (.leaf (.inl (.ret, cnR n c z1 z2 w1 w2 f))) = true := by kernel_rfl
theorem cqO_into : cqO n c z1 z2 w1 w2 = into (cqO n c z1 z2 w1 w2) (cqOS n c z1 z2 w1 w2) := by kernel_rfl
theorem cqO_fits : fits (cqO n c z1 z2 w1 w2) (cqOS n c z1 z2 w1 w2) = true := by kernel_rfl
theorem cqT_into : cqT n c z1 z2 w1 w2 f k = into (cqT n c z1 z2 w1 w2 f k) (cqS n c z1 z2 w1 w2 f k) := by kernel_rfl
theorem cqT_fits : fits (cqT n c z1 z2 w1 w2 f k) (cqS n c z1 z2 w1 w2 f k) = true := by kernel_rfl
theorem cqE_into : cqE n c z1 z2 w1 w2 f = into (cqE n c z1 z2 w1 w2 f) (.leaf (.inl (.ret, cqR n c z1 z2 w1 w2 f))) := by kernel_rfl
theorem cqE_fits : fits (cqE n c z1 z2 w1 w2 f) (.leaf (.inl (.ret, cqR n c z1 z2 w1 w2 f))) = true := by kernel_rfl
end
theorem cnOf_ok {p : X × St → Prop} {s : Int} {f : Nat → Int} {S : (Nat → Int) → Sk (X × St)} (hc : c ≤ 1000000) (h : SkLeads p (S (match decide (clsK w1 s c ≥ 0) with | true => putF f (0 + (clsK w1 s c).toNat) (w64 (f (0 + (clsK w1 s c).toNat) + 1)) | false => f))) : SkLeads p (cnOf c w1 s f S) := by
  obtain ⟨b1, b2⟩ := clsK_bd w1 s c
  unfold cnOf
  refine sk_need (okN_ok c) (sk_need (by rw [Nat.ble_eq]; exact hc) (sk_either (fun g => ?_) fun g => ?_))
  · rw [g] at h
    simp only [decide_eq_true_eq] at g
    have e1 : (decide (0 ≤ clsK w1 s c) && decide (clsK w1 s c < (c : Int))) = true := by rw [show decide (0 ≤ clsK w1 s c) = true by simpa using g, show decide (clsK w1 s c < (c : Int)) = true by simpa using b2]; rfl
    have e2 : Nat.blt (0 + (clsK w1 s c).toNat) c = true := by rw [Nat.blt_eq]; omega
    exact sk_need e1 (sk_need e2 (sk_need e1 (sk_need e2 h)))
  · rw [g] at h
    exact h
theorem cn_loop (hn : n ≤ 1000000) (hc : c ≤ 1000000) : ComesF Tryz.prog (.loop (loopF Tryz.f26)) (cnB n c z1 z2 w1 w2) (cnH n c z1 z2 w1 w2 (cntV z1 z2 w1 c 0) ((0 : Nat) : Int)) fun q => q = (.exit 0, cnX n c z1 z2 w1 w2 (cntV z1 z2 w1 c n)) := by
  refine loop_count cnRe_ok rfl [1, 7, 23, 24, 25] [7] (fun k => cnH n c z1 z2 w1 w2 (cntV z1 z2 w1 c k) (k : Int)) (fun _ => (.exit 0, cnX n c z1 z2 w1 w2 (cntV z1 z2 w1 c n))) n (fun k => cnT n c z1 z2 w1 w2 (cntV z1 z2 w1 c k) k) (fun k => cnS n c z1 z2 w1 w2 (cntV z1 z2 w1 c k) k) (fun _ => rfl) (fun k => cnT_into n c z1 z2 w1 w2 _ k) (fun k => cnT_fits n c z1 z2 w1 w2 _ k) (fun k hk => ?_) (sk_no (rnd_end n) (sk_leaf rfl))
  obtain ⟨a1, a2, a3⟩ := rnd_lt hk
  refine sk_yes a1 (sk_need a2 (sk_need a3 (sk_need a3 ?_)))
  rw [idx_nat]
  refine cnOf_ok c w1 hc (sk_leaf (rnd_next ?_ rfl))
  rw [wrap_succ (by omega)]
  exact St.Le.refl _
theorem cq_loop (hn : n ≤ 1000000) (hc : c ≤ 1000000) : ComesF Tryz.prog (.loop (loopF Tryz.f35)) (cqB n c z1 z2 w1 w2) (cqH n c z1 z2 w1 w2 (cntV z1 z2 w1 c 0) ((0 : Nat) : Int)) fun q => q = (.exit 0, cqX n c z1 z2 w1 w2 (cntV z1 z2 w1 c n)) := by
  refine loop_count cnRe_ok rfl [0, 1, 5, 6] [5] (fun k => cqH n c z1 z2 w1 w2 (cntV z1 z2 w1 c k) (k : Int)) (fun _ => (.exit 0, cqX n c z1 z2 w1 w2 (cntV z1 z2 w1 c n))) n (fun k => cqT n c z1 z2 w1 w2 (cntV z1 z2 w1 c k) k) (fun k => cqS n c z1 z2 w1 w2 (cntV z1 z2 w1 c k) k) (fun _ => rfl) (fun k => cqT_into n c z1 z2 w1 w2 _ k) (fun k => cqT_fits n c z1 z2 w1 w2 _ k) (fun k hk => ?_) (sk_no (rnd_end n) (sk_leaf rfl))
  obtain ⟨a1, a2, a3⟩ := rnd_lt hk
  refine sk_yes a1 (sk_need a2 (sk_need a3 (sk_need a2 (sk_need a3 ?_))))
  rw [idx_nat, absQ_far]
  refine cnOf_ok c w1 hc (sk_leaf (rnd_next ?_ rfl))
  rw [wrap_succ (by omega)]
  exact St.Le.refl _
def cnW (f : Nat → Int) : Hp := hpT (cnTs n c z1 z2 w1 w2) [] (cnBl c f)
theorem cn_left0 (e : Int) : Left2 Tryz.prog Tryz.f26 (cnHp n c z1 z2 w1 w2) (.tup [(false, [nilZ]), (false, [ci e])]) (cnHp n c z1 z2 w1 w2) (.ret, cnR0 n c z1 z2 w1 w2 e) := left_of (b := true) (by kernel_rfl)
theorem cn_left (f : Nat → Int) : Left2 Tryz.prog Tryz.f26 (cnHp n c z1 z2 w1 w2) (.tup [(false, [slZ true 2 1 c]), (false, [ci 0])]) (cnW n c z1 z2 w1 w2 f) (.ret, cnR n c z1 z2 w1 w2 f) := left_of (b := false) (by kernel_rfl)
theorem cq_left (f : Nat → Int) : Left2 Tryz.prog Tryz.f35 (cnHp n c z1 z2 w1 w2) (slO 2 1 c) (cnW n c z1 z2 w1 w2 f) (.ret, cqR n c z1 z2 w1 w2 f) := left_of (b := false) (by kernel_rfl)
theorem cnO_eq : evO cnRe (bodyOf Tryz.f26) [1, 7, 23, 24, 25] [4, 5] (cnB n c z1 z2 w1 w2) = cnO n c z1 z2 w1 w2 := by delta cnO; rfl
theorem cqO_eq : evO cnRe (bodyOf Tryz.f35) [0, 1, 5, 6] [4] (cqB n c z1 z2 w1 w2) = cqO n c z1 z2 w1 w2 := by delta cqO; rfl
theorem cn_call_bad (hn : n ≤ 9223372036854775807) (he : cnErr n c z1 z2 w1 w2 ≠ 0) : CallAt Tryz.prog 26 [slT 0 2 n, slT 1 2 c] (cnHp n c z1 z2 w1 w2) (.tup [(false, [nilZ]), (false, [ci (cnErr n c z1 z2 w1 w2)])]) (cnHp n c z1 z2 w1 w2) := by
  refine call_baseS' (rec := cnRe) cnRe_ok (c := bodyOf Tryz.f26) (fn := Tryz.f26) Tryz.func26 (by kernel_rfl) (by kernel_rfl) (false, true) 1 [1, 7, 23, 24, 25] [4, 5] (sB := cnB n c z1 z2 w1 w2) (by kernel_rfl) (t := cnO n c z1 z2 w1 w2) (cnO_eq n c z1 z2 w1 w2) (cnO_into n c z1 z2 w1 w2) (cnO_fits n c z1 z2 w1 w2) ?_
  exact sk_need (okN_ok n) (sk_need (by rw [Nat.ble_eq]; exact hn) (sk_need (okN_ok c) (sk_yes (by simpa using he) (sk_leaf (cutF_dn (cn_left0 n c z1 z2 w1 w2 _))))))
theorem cn_call (he : cnErr n c z1 z2 w1 w2 = 0) : CallAt Tryz.prog 26 [slT 0 2 n, slT 1 2 c] (cnHp n c z1 z2 w1 w2) (.tup [(false, [slZ true 2 1 c]), (false, [ci 0])]) (cnW n c z1 z2 w1 w2 (cntV z1 z2 w1 c n)) := by
  obtain ⟨e1, e2⟩ := first0 he
  obtain ⟨e2, _⟩ := first0 e2
  have l1 := cyc_len e1
  have l3 := cls_len e2
  refine call_baseS' (rec := cnRe) cnRe_ok (c := bodyOf Tryz.f26) (fn := Tryz.f26) Tryz.func26 (by kernel_rfl) (by kernel_rfl) (false, true) 1 [1, 7, 23, 24, 25] [4, 5] (sB := cnB n c z1 z2 w1 w2) (by kernel_rfl) (t := cnO n c z1 z2 w1 w2) (cnO_eq n c z1 z2 w1 w2) (cnO_into n c z1 z2 w1 w2) (cnO_fits n c z1 z2 w1 w2) ?_
  refine sk_need (okN_ok n) (sk_need (by rw [Nat.ble_eq]; omega) (sk_need (okN_ok c) (sk_no (by rw [he]; rfl) (sk_need ?_ (sk_leaf ⟨_, true, [], [4, 5], cn_loop n c z1 z2 w1 w2 (by omega) (by omega), fun q hq => Leads.all ?_⟩)))))
  · rw [show decide ((c : Int) = (c : Int)) = true by simp, show decide (0 ≤ (c : Int)) = true by simp, show Nat.ble (c * 8) 140737488355328 = true by rw [Nat.ble_eq]; omega, show Nat.ble c 9223372036854775807 = true by rw [Nat.ble_eq]; omega]; rfl
  · subst hq
    exact leads_in (show _ = cnE n c z1 z2 w1 w2 (cntV z1 z2 w1 c n) by delta cnE; rfl) (cnE_into n c z1 z2 w1 w2 _) (cnE_fits n c z1 z2 w1 w2 _) (sk_leaf (cutF_dn (cn_left n c z1 z2 w1 w2 _)))
theorem cq_call (he : cnErr n c z1 z2 w1 w2 = 0) : CallAt Tryz.prog 35 [slT 0 2 n, slT 1 2 c] (cnHp n c z1 z2 w1 w2) (slO 2 1 c) (cnW n c z1 z2 w1 w2 (cntV z1 z2 w1 c n)) := by
  obtain ⟨e1, e2⟩ := first0 he
  obtain ⟨e2, _⟩ := first0 e2
  have l1 := cyc_len e1
  have l3 := cls_len e2
  refine call_baseS' (rec := cnRe) cnRe_ok (c := bodyOf Tryz.f35) (fn := Tryz.f35) Tryz.func35 (by kernel_rfl) (by kernel_rfl) (false, true) 1 [0, 1, 5, 6] [4] (sB := cqB n c z1 z2 w1 w2) (by kernel_rfl) (t := cqO n c z1 z2 w1 w2) (cqO_eq n c z1 z2 w1 w2) (cqO_into n c z1 z2 w1 w2) (cqO_fits n c z1 z2 w1 w2) ?_
  refine sk_need ?_ (sk_leaf ⟨_, true, [], [4], cq_loop n c z1 z2 w1 w2 (by omega) (by omega), fun q hq => Leads.all ?_⟩)
  · rw [show decide (0 < (c : Int)) = true by simp only [decide_eq_true_eq]; omega, show Nat.ble (c * 8) 140737488355328 = true by rw [Nat.ble_eq]; omega, show Nat.ble c 9223372036854775807 = true by rw [Nat.ble_eq]; omega]; rfl
  · subst hq
    exact leads_in (show _ = cqE n c z1 z2 w1 w2 (cntV z1 z2 w1 c n) by delta cqE; rfl) (cqE_into n c z1 z2 w1 w2 _) (cqE_fits n c z1 z2 w1 w2 _) (sk_leaf (cutF_dn (cq_left n c z1 z2 w1 w2 _)))
end
end Go.Ev
