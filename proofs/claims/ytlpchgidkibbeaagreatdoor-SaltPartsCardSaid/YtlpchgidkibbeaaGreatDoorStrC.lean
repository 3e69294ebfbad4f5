/- SaltStrain: the turns of a history, by the reference. Conditions: short lists. SaltStrain: the turns of a history, by the reference: its entry. Conditions: short lists. SaltStrain: slices.Compact of a row of numbers of one's own, out of the shelf's contract. Conditions: the row lies by itself. SaltStrain: the turns of a history, by the program. Conditions: short lists that are not empty. SaltStrain: the turns of a history, by the program: the same as by the reference; its entry. Conditions: short lists that are not empty. -/
import Derived.Test.YtlpchgidkibbeaaGreatDoorStrB
import Derived.Test.YtlpchgidkibbeaaGreatDoorShelf
namespace Go.Ev
open Go Go.Proofs
set_option maxRecDepth 100000

/-! ### lists of numbers of a call's own: a number of elements, and what they are -/
abbrev L2 := Nat × (Nat → Int)
def pushL (s : L2) (x : Int) : L2 := (s.1 + 1, putF s.2 s.1 x)
def liA (j m : Nat) : A := match m with | 0 => nilA | m + 1 => slO j 1 (m + 1)
def liB (e : TypeId) (s : L2) : List Blk := match s with | (0, _) => [] | (m + 1, f) => [⟨false, e, .rows (m + 1) [.int .i64 f]⟩]
theorem one_row {e : TypeId} {x : Int} {f : Nat → Int} (h : x = f 0) : ∀ (E : Env) (w : World) (p : Nat × Nat × Nat), blkIs E w p ⟨false, e, .flat [ci x]⟩ → blkIs E w p ⟨false, e, .rows 1 [.int .i64 f]⟩ := by
  subst h
  exact blk_body rfl (fun cs e => by cases e) fun E arr hh => rows_one rfl (fun j c col h1 h2 => by match j, h1, h2 with | 0, h1, h2 => injection h1 with h1; injection h2 with h2; subst h1; subst h2; rfl) hh
/-- a number put to the end of such a list: what the evaluator comes to -/
def pushS (bld : A → List Blk → St) (e : TypeId) (j : Nat) (s : L2) (x : Int) : Sk (X × St) := match s with
  | (0, _) => .leaf (.normal, bld (slO j 1 1) [⟨false, e, .flat [ci x]⟩])
  | (m + 1, f) => .need (Nat.ble (m + 1) (m + 1) && Nat.blt ((m + 1 + 1) * 8) 140737488355328 && Nat.ble (m + 1 + 1) 9223372036854775807) (.leaf (.normal, bld (slO j 1 (m + 1 + 1)) [⟨false, e, .rows (m + 1 + 1) [.int .i64 (putF f (m + 1) x)]⟩]))
theorem pushS_ok {p : X × St → Prop} {bld : A → List Blk → St} {e : TypeId} {j : Nat} {s : L2} {x : Int} (hs : s.1 ≤ 1000000) (hle : ∀ f : Nat → Int, x = f 0 → (bld (slO j 1 1) [⟨false, e, .flat [ci x]⟩]).Le (bld (slO j 1 1) [⟨false, e, .rows 1 [.int .i64 f]⟩])) (h : ∀ st : St, st.Le (bld (liA j (pushL s x).1) (liB e (pushL s x))) → p (.normal, st)) : SkLeads p (pushS bld e j s x) := by
  obtain ⟨m, f⟩ := s
  cases m with
  | zero => exact sk_leaf (h _ (hle _ (putF_same f 0 x).symm))
  | succ m =>
    have hs : m + 1 ≤ 1000000 := hs
    refine sk_need ?_ (sk_leaf (h _ (St.Le.refl _)))
    rw [ble_self, show Nat.blt ((m + 1 + 1) * 8) 140737488355328 = true by rw [Nat.blt_eq]; omega, show Nat.ble (m + 1 + 1) 9223372036854775807 = true by rw [Nat.ble_eq]; omega]
    rfl
/-- so many numbers of a list, each one but those that the one before them is alike -/
def dedS (z : Nat → Int) : Nat → L2
  | 0 => (0, fun _ => 0)
  | k + 1 => match ((k : Int) == 0) || (z k != z (k - 1)) with
    | true => pushL (dedS z k) (z k)
    | false => dedS z k
theorem dedS_le (z : Nat → Int) : ∀ k, (dedS z k).1 ≤ k
  | 0 => Nat.le_refl _
  | k + 1 => by
    have := dedS_le z k
    unfold dedS
    split
    · show (dedS z k).1 + 1 ≤ k + 1; omega
    · omega
section
variable (n : Nat) (z : Nat → Int)
def tqB : St := { baseB 94 [slT 0 1 n] (hisHp n z) with keep := true }
def tqN (env : List (Nat × A)) (news : List Blk) : St := stN 94 (envL env) (bsS [⟨some 0, n, [.int .i64 z]⟩] []) [] news true
def tqD1 (i : Int) (a : A) (b : List Blk) : St := tqN n z [(0, slT 0 1 n), (3, a), (4, nilA), (5, int i)] b
def tqH1 (s : L2) (i : Int) : St := tqD1 n z i (liA 1 s.1) (liB 3 s)
def tqX1 (s : L2) : St := tqN n z [(3, liA 1 s.1), (4, nilA)] (liB 3 s)
noncomputable def tqT1 (s : L2) (k : Nat) : Tree (X × St) := (daRe (loopF Tryz.f33) (tqH1 n z s (k : Int))).bind (canonT [0, 3, 4, 5] [3, 4] (tqB n z))
noncomputable def tqPu (s : L2) (k : Nat) : Sk (X × St) := .need (decide (0 ≤ (k : Int)) && decide ((k : Int) < (n : Int))) (.need (Nat.blt (0 + Int.toNat (k : Int)) n) (pushS (tqD1 n z (IntKind.i64.wrap ((k : Int) + 1))) 3 1 s (z (0 + Int.toNat (k : Int)))))
noncomputable def tqS1 (s : L2) (k : Nat) : Sk (X × St) := .node (decide ((k : Int) < (n : Int))) (.node ((k : Int) == 0) (.tt (tqPu n z s k)) (.need (decide (0 ≤ (k : Int)) && decide ((k : Int) < (n : Int))) (.need (Nat.blt (0 + Int.toNat (k : Int)) n) (.need (decide (0 ≤ siI k) && decide (siI k < (n : Int))) (.need (Nat.blt (0 + (siI k).toNat) n)
  (.node (z (0 + Int.toNat (k : Int)) != z (0 + (siI k).toNat)) (tqPu n z s k) (.leaf (.normal, tqH1 n z s (IntKind.i64.wrap ((k : Int) + 1))))))))))
  (.leaf (.exit 0, tqX1 n z s))
theorem tq1_into (s : L2) (k : Nat) : tqT1 n z s k = into (tqT1 n z s k) (tqS1 n z s k) := by
  obtain ⟨m, f⟩ := s
  cases m with
  | zero => kernel_rfl
  | succ m => kernel_rfl
theorem tq1_fits (s : L2) (k : Nat) : fits (tqT1 n z s k) (tqS1 n z s k) = true := by
  obtain ⟨m, f⟩ := s
  cases m with
  | zero => kernel_rfl
  | succ m => kernel_rfl
theorem tq_loop1 (hn : n ≤ 100000) : ComesF Tryz.prog (.loop (loopF Tryz.f33)) (tqB n z) (tqH1 n z (dedS z 0) ((0 : Nat) : Int)) fun q => q = (.exit 0, tqX1 n z (dedS z n)) := by
  refine loop_count daRe_ok rfl [0, 3, 4, 5] [3, 4] (fun k => tqH1 n z (dedS z k) (k : Int)) (fun _ => (.exit 0, tqX1 n z (dedS z n))) n (fun k => tqT1 n z (dedS z k) k) (fun k => tqS1 n z (dedS z k) k) (fun _ => rfl) (fun k => tq1_into n z _ k) (fun k => tq1_fits n z _ k) (fun k hk => ?_) (sk_no (rnd_end n) (sk_leaf rfl))
  obtain ⟨a1, a2, a3⟩ := rnd_lt hk
  obtain ⟨_, b2, b3⟩ := rnd_lt (show k - 1 < n by omega)
  have hp : dedS z (k + 1) = pushL (dedS z k) (z k) → SkLeads (Rnd (fun k => tqH1 n z (dedS z k) (k : Int)) (fun _ => (.exit 0, tqX1 n z (dedS z n))) k) (tqPu n z (dedS z k) k) := fun e => by
    refine sk_need a2 (sk_need a3 ?_)
    rw [idx_nat, wrap_succ (by omega)]
    refine pushS_ok (by have := dedS_le z k; omega) (fun f hf => le_news (show 1 + 1 ≤ lim by decide) ⟨⟨rfl, one_row hf⟩, trivial⟩) fun st hst => rnd_next ?_ rfl
    rw [e]
    exact hst
  have hd : dedS z (k + 1) = match ((k : Int) == 0) || (z k != z (k - 1)) with | true => pushL (dedS z k) (z k) | false => dedS z k := rfl
  refine sk_yes a1 (sk_either (fun g0 => sk_tt (hp (by rw [hd, g0]; rfl))) fun g0 => sk_need a2 (sk_need a3 ?_))
  rw [siI_eq (by omega)]
  refine sk_need b2 (sk_need b3 ?_)
  rw [idx_nat, idx_nat]
  refine sk_either (fun g1 => hp (by rw [hd, g0, g1]; rfl)) fun g1 => sk_leaf (rnd_next ?_ rfl)
  rw [hd, g0, g1, wrap_succ (by omega)]
  exact St.Le.refl _
end
/-! ### the second loop -/
/-- does a number lie between its neighbours, as the reference asks it -/
def betQ (a x b : Int) : Bool := match decide (x > if b < a then b else a) with
  | true => decide (x < if b > a then b else a)
  | false => false
/-- is a number of a list of so many no turn -/
def skipQ (M : Nat) (f : Nat → Int) (k : Nat) : Bool := match decide ((k : Int) > 0) with
  | true => match decide (((k + 1 : Nat) : Int) < (M : Int)) with
    | true => betQ (f (k - 1)) (f k) (f (k + 1))
    | false => false
  | false => false
def selS (M : Nat) (f : Nat → Int) : Nat → L2
  | 0 => (0, fun _ => 0)
  | k + 1 => match skipQ M f k with
    | true => selS M f k
    | false => pushL (selS M f k) (f k)
theorem selS_le (M : Nat) (f : Nat → Int) : ∀ k, (selS M f k).1 ≤ k
  | 0 => Nat.le_refl _
  | k + 1 => by
    have := selS_le M f k
    unfold selS
    split
    · omega
    · show (selS M f k).1 + 1 ≤ k + 1; omega
noncomputable def tqP2 : List Bool := pathOf (bodyOf Tryz.f33) 1
noncomputable def tqC2 : Code := nthLoop (bodyOf Tryz.f33) tqP2
section
variable (n : Nat) (z : Nat → Int) (m : Nat) (f : Nat → Int)
def tqD2 (i : Int) (a : A) (b : List Blk) : St := tqN n z [(3, slO 1 1 (m + 1)), (4, a), (6, int i)] (⟨false, 3, .rows (m + 1) [.int .i64 f]⟩ :: b)
def tqH2 (t : L2) (i : Int) : St := tqD2 n z m f i (liA 2 t.1) (liB 3 t)
def tqX2 (t : L2) : St := tqN n z [(4, liA 1 t.1)] (liB 3 t)
def tqR (t : L2) : St := tqN n z [(2, liA 1 t.1)] (liB 3 t)
noncomputable def tqT2 (t : L2) (k : Nat) : Tree (X × St) := (daRe tqC2 (tqH2 n z m f t (k : Int))).bind (canonT [3, 4, 6] [4] (tqB n z))
noncomputable def tqM (s : L2) : Tree ((X × St) ⊕ (List Bool × St)) := evO2 daRe true (bodyOf Tryz.f33) (pathF Tryz.f33) [3, 4, 6] [2] (tqB n z) (.exit 0, tqX1 n z s)
noncomputable def tqE (t : L2) : Tree ((X × St) ⊕ (List Bool × St)) := evO2 daRe true (bodyOf Tryz.f33) tqP2 [] [2] (tqB n z) (.exit 2, tqX2 n z t)
def tqIx (i : Int) (S : Sk (X × St)) : Sk (X × St) := .need (decide (0 ≤ i) && decide (i < ((m + 1 : Nat) : Int))) (.need (Nat.blt (0 + i.toNat) (m + 1)) S)
noncomputable def tqPu2 (t : L2) (k : Nat) : Sk (X × St) := tqIx m (k : Int) (pushS (tqD2 n z m f (IntKind.i64.wrap ((k : Int) + 1))) 3 2 t (f (0 + Int.toNat (k : Int))))
def tqI3 (k : Nat) (S : Sk (X × St)) : Sk (X × St) := tqIx m (k : Int) (tqIx m (IntKind.i64.wrap ((k : Int) - 1)) (tqIx m (IntKind.i64.wrap ((k : Int) + 1)) S))
def tqAt (i : Int) : Int := f (0 + i.toNat)
noncomputable def tqS2 (t : L2) (k : Nat) : Sk (X × St) := .node (decide ((k : Int) < ((m + 1 : Nat) : Int))) (.node (decide ((k : Int) > 0)) (.node (decide (IntKind.i64.wrap ((k : Int) + 1) < ((m + 1 : Nat) : Int)))
    (tqI3 m k (.node (decide (tqAt f (k : Int) > if tqAt f (IntKind.i64.wrap ((k : Int) + 1)) < tqAt f (IntKind.i64.wrap ((k : Int) - 1)) then tqAt f (IntKind.i64.wrap ((k : Int) + 1)) else tqAt f (IntKind.i64.wrap ((k : Int) - 1))))
      (tqI3 m k (.node (decide (tqAt f (k : Int) < if tqAt f (IntKind.i64.wrap ((k : Int) + 1)) > tqAt f (IntKind.i64.wrap ((k : Int) - 1)) then tqAt f (IntKind.i64.wrap ((k : Int) + 1)) else tqAt f (IntKind.i64.wrap ((k : Int) - 1)))) (.leaf (.normal, tqH2 n z m f t (IntKind.i64.wrap ((k : Int) + 1)))) (tqPu2 n z m f t k)))
      (.ff (tqPu2 n z m f t k)))) (.ff (.ff (tqPu2 n z m f t k)))) (.ff (.ff (.ff (tqPu2 n z m f t k))))) (.leaf (.exit 2, tqX2 n z t))
theorem tq2_into (t : L2) (k : Nat) : tqT2 n z m f t k = into (tqT2 n z m f t k) (tqS2 n z m f t k) := by
  obtain ⟨t, g⟩ := t
  cases t with
  | zero => kernel_rfl
  | succ t => kernel_rfl
theorem tq2_fits (t : L2) (k : Nat) : fits (tqT2 n z m f t k) (tqS2 n z m f t k) = true := by
  obtain ⟨t, g⟩ := t
  cases t with
  | zero => kernel_rfl
  | succ t => kernel_rfl
theorem tqIx_ok {p : X × St → Prop} {i : Nat} {S : Sk (X × St)} (hi : i < m + 1) (h : SkLeads p S) : SkLeads p (tqIx m (i : Int) S) := by
  obtain ⟨_, a2, a3⟩ := rnd_lt hi
  exact sk_need a2 (sk_need a3 h)
theorem tq_loop2 (hm : m + 1 ≤ 100000) : ComesF Tryz.prog (.loop tqC2) (tqB n z) (tqH2 n z m f (selS (m + 1) f 0) ((0 : Nat) : Int)) fun q => q = (.exit 2, tqX2 n z (selS (m + 1) f (m + 1))) := by
  refine loop_count daRe_ok rfl [3, 4, 6] [4] (fun k => tqH2 n z m f (selS (m + 1) f k) (k : Int)) (fun _ => (.exit 2, tqX2 n z (selS (m + 1) f (m + 1)))) (m + 1) (fun k => tqT2 n z m f (selS (m + 1) f k) k) (fun k => tqS2 n z m f (selS (m + 1) f k) k) (fun _ => rfl) (fun k => tq2_into n z m f _ k) (fun k => tq2_fits n z m f _ k) (fun k hk => ?_) (sk_no (rnd_end (m + 1)) (sk_leaf rfl))
  have hs : selS (m + 1) f (k + 1) = match skipQ (m + 1) f k with | true => selS (m + 1) f k | false => pushL (selS (m + 1) f k) (f k) := rfl
  have hp : skipQ (m + 1) f k = false → SkLeads (Rnd (fun k => tqH2 n z m f (selS (m + 1) f k) (k : Int)) (fun _ => (.exit 2, tqX2 n z (selS (m + 1) f (m + 1)))) k) (tqPu2 n z m f (selS (m + 1) f k) k) := fun e => by
    refine tqIx_ok m hk ?_
    rw [idx_nat, wrap_succ (by omega)]
    refine pushS_ok (by have := selS_le (m + 1) f k; omega) (fun f' hf => le_news (show 1 + 2 ≤ lim by decide) ⟨⟨rfl, fun _ _ _ h => h⟩, ⟨rfl, one_row hf⟩, trivial⟩) fun st hst => rnd_next ?_ rfl
    rw [hs, e]
    exact hst
  unfold tqS2
  rw [wrap_succ (by omega)]
  refine sk_yes (rnd_lt hk).1 (sk_either (fun g0 => sk_either (fun g1 => ?_) fun g1 => sk_ff (sk_ff (hp ?_))) fun g0 => sk_ff (sk_ff (sk_ff (hp ?_))))
  · obtain ⟨e1, e2⟩ := prev_facts g0 hk (by omega)
    have h1 : k + 1 < m + 1 := by simp only [decide_eq_true_eq] at g1; omega
    have hb : skipQ (m + 1) f k = betQ (f (k - 1)) (f k) (f (k + 1)) := by unfold skipQ; rw [g0, g1]
    have i3 : ∀ {p : X × St → Prop} {S : Sk (X × St)}, SkLeads p S → SkLeads p (tqI3 m k S) := fun h => by
      unfold tqI3
      rw [e1, wrap_succ (by omega)]
      exact tqIx_ok m hk (tqIx_ok m (by omega) (tqIx_ok m h1 h))
    have ft : ∀ i : Nat, tqAt f (i : Int) = f i := fun i => by unfold tqAt; rw [idx_nat]
    rw [e1, ft, ft, ft]
    refine i3 (sk_either (fun g2 => i3 (sk_either (fun g3 => sk_leaf (rnd_next ?_ rfl)) fun g3 => hp ?_)) fun g2 => sk_ff (hp ?_))
    · rw [hs, hb, show betQ (f (k - 1)) (f k) (f (k + 1)) = true by unfold betQ; rw [g2, g3]]
      exact St.Le.refl _
    · rw [hb]; unfold betQ; rw [g2, g3]
    · rw [hb]; unfold betQ; rw [g2]
  · unfold skipQ; rw [g0, g1]
  · unfold skipQ; rw [g0]
end
end Go.Ev

namespace Go.Ev
open Go Go.Proofs
set_option maxRecDepth 100000

theorem dedS_pos (z : Nat → Int) : ∀ k, 1 ≤ k → 1 ≤ (dedS z k).1
  | 1, _ => Nat.le_refl _
  | k + 2, _ => by
    have := dedS_pos z (k + 1) (by omega)
    unfold dedS
    split
    · show 1 ≤ (dedS z (k + 1)).1 + 1; omega
    · exact this
theorem selS_pos (M : Nat) (f : Nat → Int) : ∀ k, 1 ≤ k → 1 ≤ (selS M f k).1
  | 1, _ => Nat.le_refl _
  | k + 2, _ => by
    have := selS_pos M f (k + 1) (by omega)
    unfold selS
    split
    · exact this
    · show 1 ≤ (selS M f (k + 1)).1 + 1; omega
/-- the turns of a history -/
def turQ (n : Nat) (z : Nat → Int) : L2 := selS (dedS z n).1 (dedS z n).2 (dedS z n).1
theorem turQ_le (n : Nat) (z : Nat → Int) : (turQ n z).1 ≤ n := Nat.le_trans (selS_le _ _ _) (dedS_le z n)
theorem turQ_pos (n : Nat) (z : Nat → Int) (h : 1 ≤ n) : 1 ≤ (turQ n z).1 := selS_pos _ _ _ (dedS_pos z n h)
section
variable (n : Nat) (z : Nat → Int)
noncomputable def tqO : Tree ((X × St) ⊕ (List Bool × St)) := evO daRe (bodyOf Tryz.f33) [0, 3, 4, 5] [2] (tqB n z)
theorem tqO_in : tqO n z = into (tqO n z) (.leaf (.inr (pathF Tryz.f33, tqH1 n z (dedS z 0) ((0 : Nat) : Int)))) := by kernel_rfl
theorem tqO_fits : fits (tqO n z) (.leaf (.inr (pathF Tryz.f33, tqH1 n z (dedS z 0) ((0 : Nat) : Int)))) = true := by kernel_rfl
theorem tqM_into (m : Nat) (f : Nat → Int) : tqM n z (m + 1, f) = into (tqM n z (m + 1, f)) (.leaf (.inr (tqP2, tqH2 n z m f (0, fun _ => 0) ((0 : Nat) : Int)))) := by kernel_rfl
theorem tqM_fits (m : Nat) (f : Nat → Int) : fits (tqM n z (m + 1, f)) (.leaf (.inr (tqP2, tqH2 n z m f (0, fun _ => 0) ((0 : Nat) : Int)))) = true := by kernel_rfl
theorem tqE_into (t : Nat) (f : Nat → Int) : tqE n z (t + 1, f) = into (tqE n z (t + 1, f)) (.leaf (.inl (.ret, tqR n z (t + 1, f)))) := by kernel_rfl
theorem tqE_fits (t : Nat) (f : Nat → Int) : fits (tqE n z (t + 1, f)) (.leaf (.inl (.ret, tqR n z (t + 1, f)))) = true := by kernel_rfl
def tqW (t : L2) : Hp := hpT [⟨some 0, n, [.int .i64 z]⟩] [] (liB 3 t)
theorem tq_left (t : Nat) (f : Nat → Int) : Left2 Tryz.prog Tryz.f33 (hisHp n z) (slO 1 1 (t + 1)) (tqW n z (t + 1, f)) (.ret, tqR n z (t + 1, f)) := left_of (b := false) (by kernel_rfl)
theorem tq_call (k : Nat) (hn : k + 1 ≤ 100000) : CallAt Tryz.prog 33 [slT 0 1 (k + 1)] (hisHp (k + 1) z) (slO 1 1 (turQ (k + 1) z).1) (tqW (k + 1) z (turQ (k + 1) z)) := by
  refine call_base (rec := daRe) daRe_ok (c := bodyOf Tryz.f33) (fn := Tryz.f33) Tryz.func33 (by kernel_rfl) (by kernel_rfl) (false, true) 2 [0, 3, 4, 5] [2] (sB := tqB (k + 1) z) (by kernel_rfl) (t := tqO (k + 1) z) (by delta tqO; rfl) (all_into (tqO_in (k + 1) z) (tqO_fits (k + 1) z) (SkLeads.all ?_))
  refine sk_leaf ⟨_, true, [3, 4, 6], [2], tq_loop1 (k + 1) z hn, fun q hq => Leads.all ?_⟩
  subst hq
  have h1 := dedS_pos z (k + 1) (by omega)
  have h2 := dedS_le z (k + 1)
  have h3 := turQ_pos (k + 1) z (by omega)
  unfold turQ at h3 ⊢
  generalize dedS z (k + 1) = s at h1 h2 h3 ⊢
  obtain ⟨m', f⟩ := s
  obtain ⟨m, rfl⟩ : ∃ m, m' = m + 1 := ⟨m' - 1, by simp only at h1; omega⟩
  refine leads_in (show _ = tqM (k + 1) z (m + 1, f) by delta tqM; rfl) (tqM_into (k + 1) z m f) (tqM_fits (k + 1) z m f) (sk_leaf ?_)
  refine ⟨_, true, [], [2], tq_loop2 (k + 1) z m f (by simp only at h2; omega), fun q hq => Leads.all ?_⟩
  subst hq
  simp only at h3 ⊢
  generalize selS (m + 1) f (m + 1) = t at h3 ⊢
  obtain ⟨t', g⟩ := t
  obtain ⟨t, rfl⟩ : ∃ t, t' = t + 1 := ⟨t' - 1, by simp only at h3; omega⟩
  exact leads_in (show _ = tqE (k + 1) z (t + 1, g) by delta tqE; rfl) (tqE_into (k + 1) z t g) (tqE_fits (k + 1) z t g) (sk_leaf (cutF_dn (tq_left (k + 1) z t g)))
end
/-- what is handed back: a list by a function that is left open -/
def turF (g : Nat → (Nat → Int) → L2) : FT
  | [], [], [], [⟨_, n, [.int .i64 z]⟩] => .need (Nat.ble n 100000) (.node (Nat.beq n 0) (.leaf (nilA, [])) (.leaf (slO 1 1 (g n z).1, [⟨false, 3, .rows (g n z).1 [.int .i64 (g n z).2]⟩])))
  | _, _, _, _ => .fail 396
theorem turq_ok : SpecOk Tryz.prog 33 fun args h => specT [(false, [.t [.int .i64 fun _ => 0]])] [] (turF turQ) args h := by
  refine specT_ok rfl (by decide) fun l m n ts v news hl hm hn ht hnil hF => ?_
  unfold turF at hF
  split at hF
  · rename_i id n z
    obtain ⟨hok, hF⟩ := Tree.need_some hF
    have hok := Nat.le_of_ble_eq_true hok
    cases n with
    | zero =>
      simp only [Tree.run, Nat.beq, Option.some.injEq, Prod.mk.injEq] at hF
      obtain ⟨rfl, rfl⟩ := hF
      cases id with
      | none => exact call_ev tbH3_ok (by kernel_rfl)
      | some id => exact call_ev tbH3_ok (by kernel_rfl)
    | succ k =>
      simp only [Tree.run, Nat.beq, Option.some.injEq, Prod.mk.injEq] at hF
      obtain ⟨rfl, rfl⟩ := hF
      cases id with
      | none => exact absurd (hnil _ (List.mem_singleton.2 rfl) rfl) (by simp)
      | some id =>
        have h := tq_call z k hok
        have h3 := turQ_pos (k + 1) z (by omega)
        unfold tqW at h
        generalize turQ (k + 1) z = t at h h3
        obtain ⟨t', g⟩ := t
        obtain ⟨t, rfl⟩ : ∃ t, t' = t + 1 := ⟨t' - 1, by simp only at h3; omega⟩
        exact h
  · cases hF
end Go.Ev

namespace Go.Ev
open Go Go.Proofs

/-! ### in plain lists -/
theorem ded_list (z : Nat → Int) (n : Nat) : ∀ k, k ≤ n → Lib.compactUpTo ((List.range n).map z).toArray k = (List.range (dedS z k).1).map (dedS z k).2
  | 0, _ => rfl
  | k + 1, hk => by
    have ih := ded_list z n k (by omega)
    have hd : ∀ j, j < n → ((List.range n).map z).toArray[j]! = z j := fun j hj => by
      rw [getElem!_pos _ j (by simpa using hj)]
      simp
    rw [Lib.compactUpTo_succ, ih]
    have hkeep : Lib.keeps ((List.range n).map z).toArray k = (((k : Int) == 0) || (z k != z (k - 1))) := by
      unfold Lib.keeps
      rw [hd k (by omega), hd (k - 1) (by omega)]
      cases k with
      | zero => simp
      | succ k =>
        have e : (((k + 1 : Nat) : Int) == 0) = false := by
          simp only [beq_eq_false_iff_ne, ne_eq]
          omega
        rw [e, Bool.false_or]
        rw [Nat.add_sub_cancel]
        by_cases h : z (k + 1) = z k
        · rw [h]; simp
        · rw [show decide (k + 1 = 0 ∨ z (k + 1) ≠ z k) = true by simp [h], show (z (k + 1) != z k) = true by simpa using h]
    rw [hkeep, hd k (by omega)]
    have hd2 : dedS z (k + 1) = match ((k : Int) == 0) || (z k != z (k - 1)) with | true => pushL (dedS z k) (z k) | false => dedS z k := rfl
    rw [hd2]
    cases ((k : Int) == 0) || (z k != z (k - 1)) with
    | false => simp
    | true =>
      simp only [if_true, pushL, List.range_succ, List.map_append, List.map_cons, List.map_nil]
      congr 1
      · refine List.map_congr_left fun i hi => ?_
        have : i ≠ (dedS z k).1 := by
          have := List.mem_range.1 hi
          omega
        exact (putF_other _ _ this).symm
      · rw [putF_same]
/-! ### a row of cells behind many stores -/
theorem setCells_lay {b : Nat} {t : TypeId} : ∀ (vs : List Value) (o : Nat) (w : World) (arr : Array Value), w.heap[b]? = some (.cells arr t (0, 0)) → (w.setCells b o vs).heap[b]? = some (.cells (layFrom arr o vs) t (0, 0)) ∧ (∀ k, k ≠ b → (w.setCells b o vs).heap[k]? = w.heap[k]?) ∧ (w.setCells b o vs).heap.size = w.heap.size ∧ (w.setCells b o vs).os = w.os ∧ (w.setCells b o vs).tape = w.tape ∧ (w.setCells b o vs).output = w.output
  | [], _, _, _, h => ⟨h, fun _ _ => rfl, rfl, rfl, rfl, rfl⟩
  | v :: r, o, w, arr, h => by
    have e := setCell_eq_setRow w b o arr t (0, 0) v h
    have h2 : (w.setCell ⟨b, o, none⟩ v).heap[b]? = some (.cells (arr.setIfInBounds o v) t (0, 0)) := by rw [e]; exact setRow_heap w b arr _ t (0, 0) h
    obtain ⟨a1, a2, a3, a4, a5, a6⟩ := setCells_lay r (o + 1) (w.setCell ⟨b, o, none⟩ v) _ h2
    refine ⟨a1, fun k hk => (a2 k hk).trans (by rw [e]; exact setRow_other w b k _ hk), a3.trans (by rw [e]; exact size_setRow w b _), a4.trans (by rw [e]; rfl), a5.trans (by rw [e]; rfl), a6.trans (by rw [e]; rfl)⟩
theorem lay_get : ∀ (vs : List Value) (o : Nat) (arr : Array Value), o + vs.length ≤ arr.size → ∀ j, j < vs.length → (layFrom arr o vs)[o + j]? = vs[j]?
  | [], _, _, _, j, h => by cases h
  | v :: r, o, arr, h, j, hj => by
    have h : o + (r.length + 1) ≤ arr.size := h
    have key : ∀ (xs : List Value) (p : Nat) (a : Array Value) (i : Nat), i < p → (layFrom a p xs)[i]? = a[i]? := fun xs => by
      induction xs with
      | nil => intro p a i _; rfl
      | cons x xs ih =>
        intro p a i hi
        show (layFrom (a.setIfInBounds p x) (p + 1) xs)[i]? = _
        rw [ih (p + 1) _ i (by omega), Array.getElem?_setIfInBounds_ne (by omega)]
    cases j with
    | zero =>
      show (layFrom (arr.setIfInBounds o v) (o + 1) r)[o]? = some v
      rw [key _ _ _ _ (by omega), Array.getElem?_setIfInBounds_self_of_lt (by omega)]
    | succ j =>
      have hj : j + 1 < r.length + 1 := hj
      have := lay_get r (o + 1) (arr.setIfInBounds o v) (by simp; omega) j (by omega)
      rw [show o + (j + 1) = o + 1 + j by omega]
      exact this
/-! ### slices.Compact -/
def compSp (g : (Nat → Int) → Nat → L2) : Spec := fun args h => match args with
  | [.one (.sl true id 0 1 0 n)] => match h.blk id with
    | some ⟨false, e, .rows n' [.int .i64 z]⟩ => match Nat.beq e 3 with
      | true => .need (Nat.ble n n') ((Hp.alloc { h with heap := h.heap.set D id none, low := min h.low id } ⟨false, e, .rows (g z n).1 [.int .i64 (g z n).2]⟩).bind fun p => .leaf (.one (.sl true p.1 0 1 0 (g z n).1), p.2))
      | false => .fail 397
    | _ => .fail 397
  | _ => .fail 397
theorem comp_ok : SpecOk Tryz.prog 136 (compSp dedS) := by
  intro args h v h' hr E w vals rh hargs
  unfold compSp at hr
  split at hr
  · rename_i id n
    split at hr
    · rename_i e n' z hb
      split at hr
      · rename_i he
        obtain rfl := Nat.eq_of_beq_eq_true he
        obtain ⟨hnn, hr⟩ := Tree.need_some hr
        have hnn := Nat.le_of_ble_eq_true hnn
        obtain ⟨⟨id2, h1⟩, hal, hr⟩ := Tree.bind_some hr
        simp only [Tree.run, Option.some.injEq, Prod.mk.injEq] at hr
        obtain ⟨rfl, rfl⟩ := hr
        match vals, hargs with
        | [p], ⟨hy, _⟩ =>
          obtain ⟨bn, sz, o, cap, hE, hp, hnc, hcm, ho, hown⟩ := sl_some hy (.inl rfl)
          subst hp
          obtain ⟨rfl, _, _, hs⟩ := hown rfl
          obtain ⟨p1, hp1, arr, fz, ⟨ty, hh, hty⟩, hsz, hbd, hfz⟩ := rh.cells hb rfl
          obtain rfl : p1 = (bn, sz) := Option.some.inj (hp1.symm.trans hE)
          obtain rfl := hty rfl
          rw [roIs_fz hfz rfl] at hh
          have hcs : arr.size = cap := by rw [hsz, hs]; simp
          have hcell : ∀ j, j < n → arr[j]? = some (.int .i64 (z j)) := fun j hj => by
            obtain ⟨_, hbd⟩ := hbd.own rfl
            obtain ⟨x, hx, hi⟩ := hbd j 0 (.int .i64 z) (by omega) rfl
            have hi : x = .int .i64 (z j) := by
              have h2 := at_is (E' := E) hi
              exact h2.1
            rw [← hi, ← hx]
            simp
          have hid : id < lim := by
            rcases Nat.lt_or_ge id h.next with hlt | hge
            · exact Nat.lt_of_lt_of_le hlt rh.nlim
            · rw [rh.dom id hge] at hE; cases hE
          have hzl : ((List.range n).map z).length = n := by simp
          have hC := Tryz.slices_Compact_int_cells bn 0 n cap ((List.range n).map z) w (by omega) (by unfold maxLen at hcm; omega) hnc (fun j hj => by
            have hj : j < n := by omega
            rw [Nat.zero_add, cell_of_row w bn _ arr _ _ hh, hcell j hj]
            simp [List.getD_eq_getElem?_getD, hj]) (fun j hj => frozen_of_row w bn _ arr _ hh)
          rw [List.take_of_length_le (by omega), show Lib.compact ((List.range n).map z) = (List.range (dedS z n).1).map (dedS z n).2 by unfold Lib.compact; rw [hzl]; exact ded_list z n n (Nat.le_refl n)] at hC
          have hle := dedS_le z n
          generalize dedS z n = d at hC hle hal ⊢
          obtain ⟨m, f⟩ := d
          simp only [List.length_map, List.length_range] at hC hle hal ⊢
          refine hC.mono ?_
          rintro e w' ⟨rfl, q, rfl⟩
          obtain ⟨a1, a2, a3, a4, a5, a6⟩ := setCells_lay (((List.range m).map f ++ List.replicate (n - m) 0).map (Value.int .i64)) 0 (w.drewN q) arr hh
          have hVl : (((List.range m).map f ++ List.replicate (n - m) 0).map (Value.int .i64)).length = n := by simp; omega
          obtain ⟨hst, hE'⟩ := name_stp (b := ⟨false, 3, .rows m [.int .i64 f]⟩) (g := bn) (h1 := { h with heap := h.heap.set D id none, low := min h.low id }) (fun k => k = bn) rh rfl rfl rfl
            (fun k hk o ho => by subst hk; rw [hh] at ho; injection ho with ho; subst ho; rfl) (Nat.min_le_left _ _)
            (fun i b' hb' => by
              have hb3 : (Tr.set D h.heap id none).get D i = some b' := hb'
              rw [Tr.get_set_D _ _ _ _ hid] at hb3
              split at hb3
              · cases hb3
              · rename_i hne'
                refine ⟨hb3, fun pp hpp => ?_⟩
                have hpn : pp.1 ≠ bn := fun he => hne' (rh.inj id i _ b' _ pp hb hb3 rfl hE hpp he.symm)
                exact ⟨hpn, hpn⟩)
            a1 (fun k j c hk hj => by
              match j, hj with
              | 0, hj =>
                injection hj with hj
                subst hj
                refine ⟨.int .i64 (f k), ?_, rfl, rfl⟩
                have := lay_get (((List.range m).map f ++ List.replicate (n - m) 0).map (Value.int .i64)) 0 arr (by rw [hVl]; omega) k (by rw [hVl]; omega)
                rw [Nat.zero_add] at this
                show (layFrom arr 0 _)[k * 1 + 0]? = _
                rw [Nat.mul_one, Nat.add_zero, this]
                simp [List.getElem?_append_left, hk]
              | j + 1, hj => cases hj)
            (fun k hk hne => (a2 k hne)) (Nat.le_of_eq a3.symm) a4 a5 a6 (fun k hk => ⟨id, _, hE, hk.symm, Nat.min_le_right _ _⟩) (.inr rfl) hal
          exact ⟨_, _, rfl, .inl ⟨_, _, 0, cap, hE', rfl, by omega, hcm, fun _ => by simp, fun _ => ⟨rfl, rfl, rfl, by rw [size_layFrom, hcs]; simp⟩⟩, hst⟩
      · cases hr
    · cases hr
  · cases hr
end Go.Ev

namespace Go.Ev
open Go Go.Proofs
set_option maxRecDepth 100000

def tbT (g : (Nat → Int) → Nat → L2) : List (FuncId × Spec) := (136, compSp g) :: tbH3
theorem tbT_ok : TabOk Tryz.prog (tabOf (tbT dedS)) := tab_cons tbH3_ok comp_ok
noncomputable def tpRe (g : (Nat → Int) → Nat → L2) : Code → St → Tree (X × St) := recT Tryz.prog (tabOf (tbT g))
/-- is a number of a list of so many no turn, as the program asks it -/
def skipP (M : Nat) (f : Nat → Int) (k : Nat) : Bool := match decide ((k : Int) > 0) with
  | true => match decide ((k : Int) < w64 ((M : Int) - 1)) with
    | true => decide (f k > f (k - 1)) == decide (f (k + 1) > f k)
    | false => false
  | false => false
def selP (M : Nat) (f : Nat → Int) : Nat → L2
  | 0 => (0, fun _ => 0)
  | k + 1 => match skipP M f k with
    | true => selP M f k
    | false => pushL (selP M f k) (f k)
theorem selP_le (M : Nat) (f : Nat → Int) : ∀ k, (selP M f k).1 ≤ k
  | 0 => Nat.le_refl _
  | k + 1 => by
    have := selP_le M f k
    unfold selP
    split
    · omega
    · show (selP M f k).1 + 1 ≤ k + 1; omega
section
variable (g : (Nat → Int) → Nat → L2) (n : Nat) (z : Nat → Int) (M : Nat) (f : Nat → Int)
def tpB : St := { baseB 48 [slT 0 1 n] (hisHp n z) with keep := true }
def tpN (env : List (Nat × A)) (news : List Blk) : St := stN 48 (envL env) (bsS [⟨some 0, n, [.int .i64 z]⟩] []) [] news true
def tpD (i : Int) (a : A) (b : List Blk) : St := tpN n z [(0, slO 1 1 M), (3, a), (9, slO 1 1 M), (10, int M), (11, int i)] (⟨false, 3, .rows M [.int .i64 f]⟩ :: b)
def tpH (t : L2) (i : Int) : St := tpD n z M f i (liA 2 t.1) (liB 3 t)
def tpX (t : L2) : St := tpN n z [(3, liA 1 t.1)] (liB 3 t)
def tpR (t : L2) : St := tpN n z [(2, liA 1 t.1)] (liB 3 t)
noncomputable def tpO : Tree ((X × St) ⊕ (List Bool × St)) := evO (tpRe g) (bodyOf Tryz.f94) [0, 3, 9, 10, 11] [2] (tpB n z)
noncomputable def tpT (t : L2) (k : Nat) : Tree (X × St) := (tpRe g (loopF Tryz.f94) (tpH n z M f t (k : Int))).bind (canonT [0, 3, 9, 10, 11] [3] (tpB n z))
noncomputable def tpE (t : L2) : Tree ((X × St) ⊕ (List Bool × St)) := evO2 (tpRe g) true (bodyOf Tryz.f94) (pathF Tryz.f94) [] [2] (tpB n z) (.exit 0, tpX n z t)
def tpIx (i : Int) (S : Sk (X × St)) : Sk (X × St) := .need (decide (0 ≤ i) && decide (i < (M : Int))) (.need (Nat.blt (0 + i.toNat) M) S)
noncomputable def tpPu (t : L2) (k : Nat) : Sk (X × St) := pushS (tpD n z M f (IntKind.i64.wrap ((k : Int) + 1))) 3 2 t (tqAt f (k : Int))
noncomputable def tpS (t : L2) (k : Nat) : Sk (X × St) := .node (decide ((k : Int) < (M : Int))) (tpIx M (k : Int) (.node (decide ((k : Int) > 0)) (.node (decide ((k : Int) < IntKind.i64.wrap ((M : Int) - 1)))
    (tpIx M (IntKind.i64.wrap ((k : Int) - 1)) (tpIx M (IntKind.i64.wrap ((k : Int) + 1)) (.node (decide (tqAt f (k : Int) > tqAt f (IntKind.i64.wrap ((k : Int) - 1))) == decide (tqAt f (IntKind.i64.wrap ((k : Int) + 1)) > tqAt f (k : Int))) (.leaf (.normal, tpH n z M f t (IntKind.i64.wrap ((k : Int) + 1)))) (tpPu n z M f t k))))
    (.ff (tpPu n z M f t k))) (.ff (.ff (tpPu n z M f t k))))) (.leaf (.exit 0, tpX n z t))
noncomputable def tpOS : Sk ((X × St) ⊕ (List Bool × St)) := .need (false || Nat.blt 0 n) (.ff (.need (Nat.ble (0 + n) n && Nat.ble ((n + 0) * 8) 140737488355328 && Nat.ble (n + 0) 9223372036854775807) (.need (Nat.ble (n + 0) (n + 0)) (.leaf (.inr (pathF Tryz.f94, tpH n z (g z n).1 (g z n).2 (0, fun _ => 0) ((0 : Nat) : Int)))))))
theorem tpO_into : tpO g n z = into (tpO g n z) (tpOS g n z) := by kernel_rfl
theorem tpO_fits : fits (tpO g n z) (tpOS g n z) = true := by kernel_rfl
theorem tp_into (t : L2) (k : Nat) : tpT g n z M f t k = into (tpT g n z M f t k) (tpS n z M f t k) := by
  obtain ⟨t, h⟩ := t
  cases t with
  | zero => kernel_rfl
  | succ t => kernel_rfl
theorem tp_fits (t : L2) (k : Nat) : fits (tpT g n z M f t k) (tpS n z M f t k) = true := by
  obtain ⟨t, h⟩ := t
  cases t with
  | zero => kernel_rfl
  | succ t => kernel_rfl
theorem tpE_into (t : Nat) (h : Nat → Int) : tpE g n z (t + 1, h) = into (tpE g n z (t + 1, h)) (.leaf (.inl (.ret, tpR n z (t + 1, h)))) := by kernel_rfl
theorem tpE_fits (t : Nat) (h : Nat → Int) : fits (tpE g n z (t + 1, h)) (.leaf (.inl (.ret, tpR n z (t + 1, h)))) = true := by kernel_rfl
theorem tpIx_ok {p : X × St → Prop} {i : Nat} {S : Sk (X × St)} (hi : i < M) (h : SkLeads p S) : SkLeads p (tpIx M (i : Int) S) := by
  obtain ⟨_, a2, a3⟩ := rnd_lt hi
  exact sk_need a2 (sk_need a3 h)
theorem tp_loop (hm : M ≤ 100000) : ComesF Tryz.prog (.loop (loopF Tryz.f94)) (tpB n z) (tpH n z M f (selP M f 0) ((0 : Nat) : Int)) fun q => q = (.exit 0, tpX n z (selP M f M)) := by
  refine loop_count (rec := tpRe dedS) (recT_ok tbT_ok) rfl [0, 3, 9, 10, 11] [3] (fun k => tpH n z M f (selP M f k) (k : Int)) (fun _ => (.exit 0, tpX n z (selP M f M))) M (fun k => tpT dedS n z M f (selP M f k) k) (fun k => tpS n z M f (selP M f k) k) (fun _ => rfl) (fun k => tp_into dedS n z M f _ k) (fun k => tp_fits dedS n z M f _ k) (fun k hk => ?_) (sk_no (rnd_end M) (sk_leaf rfl))
  have hs : selP M f (k + 1) = match skipP M f k with | true => selP M f k | false => pushL (selP M f k) (f k) := rfl
  have ft : ∀ i : Nat, tqAt f (i : Int) = f i := fun i => by unfold tqAt; rw [idx_nat]
  have hp : skipP M f k = false → SkLeads (Rnd (fun k => tpH n z M f (selP M f k) (k : Int)) (fun _ => (.exit 0, tpX n z (selP M f M))) k) (tpPu n z M f (selP M f k) k) := fun e => by
    unfold tpPu
    rw [ft, wrap_succ (by omega)]
    refine pushS_ok (by have := selP_le M f k; omega) (fun f' hf => le_news (show 1 + 2 ≤ lim by decide) ⟨⟨rfl, fun _ _ _ h => h⟩, ⟨rfl, one_row hf⟩, trivial⟩) fun st hst => rnd_next ?_ rfl
    rw [hs, e]
    exact hst
  unfold tpS
  rw [wrap_succ (by omega)]
  refine sk_yes (rnd_lt hk).1 (tpIx_ok M hk (sk_either (fun g0 => sk_either (fun g1 => ?_) fun g1 => sk_ff (hp ?_)) fun g0 => sk_ff (sk_ff (hp ?_))))
  · obtain ⟨e1, e2⟩ := prev_facts g0 hk (by omega)
    have h1 : k + 1 < M := by
      rw [wrap_id (by omega) (by omega)] at g1
      simp only [decide_eq_true_eq] at g1
      omega
    have hb : skipP M f k = (decide (f k > f (k - 1)) == decide (f (k + 1) > f k)) := by unfold skipP; rw [g0, show decide ((k : Int) < w64 ((M : Int) - 1)) = true from g1]
    rw [e1, ft, ft, ft]
    refine tpIx_ok M (by omega) (tpIx_ok M h1 (sk_either (fun g2 => sk_leaf (rnd_next ?_ rfl)) fun g2 => hp (hb.trans g2)))
    rw [hs, hb, g2]
    exact St.Le.refl _
  · unfold skipP; rw [g0, show decide ((k : Int) < w64 ((M : Int) - 1)) = false from g1]
  · unfold skipP; rw [g0]
end
end Go.Ev

namespace Go.Ev
open Go Go.Proofs
set_option maxRecDepth 100000

theorem ded_facts (z : Nat → Int) : ∀ k, (1 ≤ k → (dedS z k).2 ((dedS z k).1 - 1) = z (k - 1)) ∧ ∀ i, i + 1 < (dedS z k).1 → (dedS z k).2 (i + 1) ≠ (dedS z k).2 i
  | 0 => ⟨fun h => by omega, fun i h => by
      have h : i + 1 < 0 := h
      omega⟩
  | k + 1 => by
    obtain ⟨h1, h2⟩ := ded_facts z k
    have hd : dedS z (k + 1) = match ((k : Int) == 0) || (z k != z (k - 1)) with | true => pushL (dedS z k) (z k) | false => dedS z k := rfl
    have hle := dedS_le z k
    cases hc : ((k : Int) == 0) || (z k != z (k - 1)) with
    | false =>
      rw [hd, hc]
      simp only [Bool.or_eq_false_iff, beq_eq_false_iff_ne, bne_eq_false_iff_eq, ne_eq] at hc
      refine ⟨fun _ => ?_, h2⟩
      simp only []
      rw [h1 (by omega), Nat.add_sub_cancel, hc.2]
    | true =>
      rw [hd, hc]
      refine ⟨fun _ => putF_same _ _ _, fun i hi => ?_⟩
      have hi : i + 1 < (dedS z k).1 + 1 := hi
      show putF (dedS z k).2 (dedS z k).1 (z k) (i + 1) ≠ putF (dedS z k).2 (dedS z k).1 (z k) i
      rw [putF_other _ _ (show i ≠ (dedS z k).1 by omega)]
      rcases Nat.lt_or_ge (i + 1) (dedS z k).1 with h | h
      · rw [putF_other _ _ (show i + 1 ≠ (dedS z k).1 by omega)]
        exact h2 i h
      · have e : i + 1 = (dedS z k).1 := by omega
        rw [e, putF_same]
        have hk : 1 ≤ k := by omega
        have hz := h1 hk
        rw [← e, Nat.add_sub_cancel] at hz
        rw [hz]
        simp only [Bool.or_eq_true, beq_iff_eq, bne_iff_ne, ne_eq] at hc
        rcases hc with hc | hc
        · omega
        · exact hc
theorem bet_eq {a x b : Int} (h1 : x ≠ a) (h2 : b ≠ x) : (decide (x > a) == decide (b > x)) = betQ a x b := by
  unfold betQ
  by_cases g1 : x > a <;> by_cases g2 : b > x
  · rw [show decide (x > a) = true by simpa using g1, show decide (b > x) = true by simpa using g2, if_neg (show ¬ b < a by omega), if_pos (show b > a by omega), show decide (x > a) = true by simpa using g1, show decide (x < b) = true by simp only [decide_eq_true_eq]; omega]; rfl
  · rw [show decide (x > a) = true by simpa using g1, show decide (b > x) = false by simpa using g2]
    have g3 : b < x := by omega
    split
    · rename_i h
      split at h <;> split <;> simp only [decide_eq_true_eq] at h ⊢ <;> (try simp) <;> omega
    · rfl
  · rw [show decide (x > a) = false by simpa using g1, show decide (b > x) = true by simpa using g2]
    have g3 : x < a := by omega
    split
    · rename_i h
      split at h <;> simp only [decide_eq_true_eq] at h <;> omega
    · rfl
  · have g3 : x < a := by omega
    have g4 : b < x := by omega
    rw [show decide (x > a) = false by simpa using g1, show decide (b > x) = false by simpa using g2, if_pos (show b < a by omega), if_neg (show ¬ b > a by omega), show decide (x > b) = true by simp only [decide_eq_true_eq]; omega, show decide (x < a) = true by simp only [decide_eq_true_eq]; omega]; rfl
theorem skip_eq {M : Nat} {f : Nat → Int} (hM : M ≤ 100000) (hf : ∀ i, i + 1 < M → f (i + 1) ≠ f i) {k : Nat} (hk : k < M) : skipP M f k = skipQ M f k := by
  unfold skipP skipQ
  cases g0 : decide ((k : Int) > 0) with
  | false => rfl
  | true =>
    simp only [decide_eq_true_eq] at g0
    have e : decide ((k : Int) < w64 ((M : Int) - 1)) = decide (((k + 1 : Nat) : Int) < (M : Int)) := by
      rw [show w64 ((M : Int) - 1) = (M : Int) - 1 from wrap_id (by omega) (by omega)]
      rw [Bool.eq_iff_iff, decide_eq_true_eq, decide_eq_true_eq]
      omega
    rw [e]
    cases g1 : decide (((k + 1 : Nat) : Int) < (M : Int)) with
    | false => rfl
    | true =>
      simp only [decide_eq_true_eq] at g1
      have h1 := hf (k - 1) (by omega)
      rw [show k - 1 + 1 = k by omega] at h1
      exact bet_eq h1 (hf k (by omega))
theorem sel_eq {M : Nat} {f : Nat → Int} (hM : M ≤ 100000) (hf : ∀ i, i + 1 < M → f (i + 1) ≠ f i) : ∀ k, k ≤ M → selP M f k = selS M f k
  | 0, _ => rfl
  | k + 1, hk => by
    unfold selP selS
    rw [skip_eq hM hf (by omega), sel_eq hM hf k (by omega)]
    try (cases skipQ M f k <;> rfl)
theorem turP_eq (n : Nat) (z : Nat → Int) (hn : n ≤ 100000) : selP (dedS z n).1 (dedS z n).2 (dedS z n).1 = turQ n z := sel_eq (Nat.le_trans (dedS_le z n) hn) (ded_facts z n).2 _ (Nat.le_refl _)
theorem tp_left (n : Nat) (z : Nat → Int) (t : Nat) (f : Nat → Int) : Left2 Tryz.prog Tryz.f94 (hisHp n z) (slO 1 1 (t + 1)) (tqW n z (t + 1, f)) (.ret, tpR n z (t + 1, f)) := left_of (b := false) (by kernel_rfl)
/-- call_base where the tree is told by a sketch: the tree is a variable here, so that nobody runs it -/
theorem call_baseS {P : Program} {rec : Code → St → Tree (X × St)} (hrec : RecOk P rec) {f : FuncId} {fn : Func} {c : Code} (hfn : P.funcs[f]? = some fn) (hc : fn.body = some c) {args : List A} (hsz : (Nat.ble args.length fn.ntmps && Nat.ble args.length lim) = true) {h : Hp} (m : Bool × Bool) {v : A} {h' : Hp} (k : Nat) (slots slotsR : List Nat)
    {sB : St} (hsB : sB = st0 fn args h m) {t : Tree ((X × St) ⊕ (List Bool × St))} (hpre : evO rec c slots slotsR sB = t) {S : Sk ((X × St) ⊕ (List Bool × St))} (h1 : t = into t S) (h2 : fits t S = true) (h3 : SkLeads (CutF P rec c sB (Left2 P fn h v h') k) S) : CallAt P f args h v h' :=
  call_base hrec hfn hc hsz m k slots slotsR hsB hpre (all_into h1 h2 h3.all)
theorem tpRe_ok : RecOk Tryz.prog (tpRe dedS) := recT_ok tbT_ok
theorem tpO_eq (g : (Nat → Int) → Nat → L2) (n : Nat) (z : Nat → Int) : evO (tpRe g) (bodyOf Tryz.f94) [0, 3, 9, 10, 11] [2] (tpB n z) = tpO g n z := by delta tpO; rfl
theorem tpE_eq (g : (Nat → Int) → Nat → L2) (n : Nat) (z : Nat → Int) (t : L2) : evO2 (tpRe g) true (bodyOf Tryz.f94) (pathF Tryz.f94) [] [2] (tpB n z) (.exit 0, tpX n z t) = tpE g n z t := by delta tpE; rfl
theorem tp_call (z : Nat → Int) (n : Nat) (h1 : 1 ≤ n) (hn : n ≤ 100000) : CallAt Tryz.prog 94 [slT 0 1 n] (hisHp n z) (slO 1 1 (turQ n z).1) (tqW n z (turQ n z)) := by
  refine call_baseS (rec := tpRe dedS) tpRe_ok (c := bodyOf Tryz.f94) (fn := Tryz.f94) Tryz.func94 (by kernel_rfl) (by kernel_rfl) (false, true) 1 [0, 3, 9, 10, 11] [2] (sB := tpB n z) (by kernel_rfl) (t := tpO dedS n z) (tpO_eq dedS n z) (tpO_into dedS n z) (tpO_fits dedS n z) ?_
  refine sk_need (by rw [Bool.false_or, Nat.blt_eq]; omega) (sk_ff (sk_need (by rw [Nat.zero_add, ble_self, Nat.add_zero, show Nat.ble (n * 8) 140737488355328 = true by rw [Nat.ble_eq]; omega, show Nat.ble n 9223372036854775807 = true by rw [Nat.ble_eq]; omega]; rfl) (sk_need (ble_self _) (sk_leaf ?_))))
  have hle := dedS_le z n
  refine ⟨_, true, [], [2], tp_loop n z (dedS z n).1 (dedS z n).2 (by omega), fun q hq => Leads.all ?_⟩
  subst hq
  rw [turP_eq n z hn]
  have h3 := turQ_pos n z (by omega)
  generalize turQ n z = t at h3 ⊢
  obtain ⟨t', h⟩ := t
  obtain ⟨t, rfl⟩ : ∃ t, t' = t + 1 := ⟨t' - 1, by simp only at h3; omega⟩
  exact leads_in (tpE_eq dedS n z (t + 1, h)) (tpE_into dedS n z t h) (tpE_fits dedS n z t h) (sk_leaf (cutF_dn (tp_left n z t h)))
def turpF (g : Nat → (Nat → Int) → L2) : FT
  | [], [], [], [⟨_, n, [.int .i64 z]⟩] => .need (Nat.ble n 100000 && Nat.blt 0 n) (.leaf (slO 1 1 (g n z).1, [⟨false, 3, .rows (g n z).1 [.int .i64 (g n z).2]⟩]))
  | _, _, _, _ => .fail 398
theorem turp_ok : SpecOk Tryz.prog 94 fun args h => specT [(false, [.t [.int .i64 fun _ => 0]])] [] (turpF turQ) args h := by
  refine specT_ok rfl (by decide) fun l m n ts v news hl hm hn ht hnil hF => ?_
  unfold turpF at hF
  split at hF
  · rename_i id n z
    obtain ⟨hok, hF⟩ := Tree.need_some hF
    rw [Bool.and_eq_true, Nat.blt_eq] at hok
    have hk := Nat.le_of_ble_eq_true hok.1
    obtain ⟨k, rfl⟩ : ∃ k, n = k + 1 := ⟨n - 1, by omega⟩
    simp only [Tree.run, Option.some.injEq, Prod.mk.injEq] at hF
    obtain ⟨rfl, rfl⟩ := hF
    cases id with
    | none => exact absurd (hnil _ (List.mem_singleton.2 rfl) rfl) (by simp)
    | some id =>
      have h := tp_call z (k + 1) (by omega) hk
      have h3 := turQ_pos (k + 1) z (by omega)
      unfold tqW at h
      generalize turQ (k + 1) z = t at h h3
      obtain ⟨t', g⟩ := t
      obtain ⟨t, rfl⟩ : ∃ t, t' = t + 1 := ⟨t' - 1, by simp only at h3; omega⟩
      exact h
  · cases hF
end Go.Ev
