/- SaltParts: the history is laid in two signs; its turns are counted, its rest and the ends of its cycles taken away again. Conditions: short lists. -/
import Derived.Test.YtlpchgidkibbeaaGreatDoorPtA
namespace Go.Ev
open Go Go.Proofs
set_option maxRecDepth 100000

def hX (z : Nat → Int) (k : Nat) : Int := (IntKind.i64.wrap (z k)).tmod 1001
def mX (z : Nat → Int) (k : Nat) : Int := IntKind.i64.wrap (0 - hX z k)
def hS (z : Nat → Int) : Nat → Nat → Int
  | 0 => fun _ => 0
  | k + 1 => putF (hS z k) k (hX z k)
def mS (z : Nat → Int) : Nat → Nat → Int
  | 0 => fun _ => 0
  | k + 1 => putF (mS z k) k (mX z k)
theorem hS_at (z : Nat → Int) : ∀ (n i : Nat), i < n → hS z n i = hX z i
  | 0, i, h => absurd h (Nat.not_lt_zero i)
  | n + 1, i, h => by
    show putF (hS z n) n (hX z n) i = _
    by_cases e : i = n
    · rw [e, putF_same]
    · rw [putF_other _ _ e]; exact hS_at z n i (by omega)
theorem mS_at (z : Nat → Int) : ∀ (n i : Nat), i < n → mS z n i = mX z i
  | 0, i, h => absurd h (Nat.not_lt_zero i)
  | n + 1, i, h => by
    show putF (mS z n) n (mX z n) i = _
    by_cases e : i = n
    · rw [e, putF_same]
    · rw [putF_other _ _ e]; exact mS_at z n i (by omega)
def capB (k : Nat) : Bool := Nat.ble (k + 1) (k + 1) && Nat.blt ((k + 1 + 1) * 8) 140737488355328 && Nat.ble (k + 1 + 1) 9223372036854775807
theorem capB_ok {k : Nat} (h : k ≤ 1000000) : capB k = true := by
  unfold capB
  rw [bleR (Nat.le_refl _), bltR (by omega), bleR (by omega)]
  rfl
/-- a loop that does not begin -/
theorem loop_none {P : Program} {rec : Code → St → Tree (X × St)} (hrec : RecOk P rec) {c : Code} {sB st : St} (hlow : sB.hp.low = sB.hp.next) (slots slotsX : List Nat) {T : Tree (X × St)} (hT : (rec c st).bind (canonT slots slotsX sB) = T) {i : Nat} {s' : St} {S : Sk (X × St)} (h1 : T = into T S) (h2 : fits T S = true) (h3 : SkLeads (fun q => q = (.exit i, s')) S) : ComesF P (.loop c) sB st fun q => q = (.exit i, s') := by
  refine comesF_loop (fun _ : Unit => st) (fun _ => 0) (fun _ => True) _ (fun _ _ => ?_) () trivial
  subst hT
  refine comesF_round hrec hlow slots slotsX (Tree.All_mono (fun p hp => ?_) (all_into h1 h2 h3.all))
  subst hp
  rfl
section
variable (n q : Nat) (u : Int) (z w1 w2 : Nat → Int)
noncomputable def sk0 (k : Nat) (f g : Nat → Int) (i : Int) : Sk (X × St) := match k with
  | 0 => .node (decide (i < (n : Int))) (.need (decide (0 ≤ i) && decide (i < (n : Int))) (.need (Nat.blt (0 + i.toNat) n) (.leaf (.normal, ptN n q z w1 w2 [(1, uu u), (2, slT 1 2 q), (7, slO 4 1 1), (8, slO 5 1 1), (61, slT 0 1 n), (62, int n), (63, int (IntKind.i64.wrap (i + 1)))] [⟨false, 3, .flat [ci (hX z (0 + i.toNat))]⟩, ⟨false, 3, .flat [ci (mX z (0 + i.toNat))]⟩]))))
    (.leaf (.exit 0, ptX0 n q u z w1 w2 0 f g))
  | k + 1 => .node (decide (i < (n : Int))) (.need (decide (0 ≤ i) && decide (i < (n : Int))) (.need (Nat.blt (0 + i.toNat) n) (.nn (.need (capB k) (.nn (.need (capB k) (.leaf (.normal, ptH0 n q u z w1 w2 (k + 2) (putF f (k + 1) (hX z (0 + i.toNat))) (putF g (k + 1) (mX z (0 + i.toNat))) (IntKind.i64.wrap (i + 1))))))))))
    (.leaf (.exit 0, ptX0 n q u z w1 w2 (k + 1) f g))
theorem t0_into (gs : Gs) (k : Nat) (f g : Nat → Int) (i : Int) : ptT0 n q u z w1 w2 gs k f g i = into (ptT0 n q u z w1 w2 gs k f g i) (sk0 n q u z w1 w2 k f g i) := by
  cases k with
  | zero => kernel_rfl
  | succ k => kernel_rfl
theorem t0_fits (gs : Gs) (k : Nat) (f g : Nat → Int) (i : Int) : fits (ptT0 n q u z w1 w2 gs k f g i) (sk0 n q u z w1 w2 k f g i) = true := by
  cases k with
  | zero => kernel_rfl
  | succ k => kernel_rfl
theorem pt_loop0 (hn : n ≤ 1000) : ComesF Tryz.prog (.loop (ptC 0)) (ptB n q u z w1 w2) (ptH0 n q u z w1 w2 0 (hS z 0) (mS z 0) ((0 : Nat) : Int)) fun o => o = (.exit 0, ptX0 n q u z w1 w2 n (hS z n) (mS z n)) := by
  refine loop_count (ptRe_ok .z .z .ok) rfl [1, 2, 7, 8, 61, 62, 63] [1, 2, 7, 8] (fun k => ptH0 n q u z w1 w2 k (hS z k) (mS z k) (k : Int)) (fun _ => (.exit 0, ptX0 n q u z w1 w2 n (hS z n) (mS z n))) n (fun k => ptT0 n q u z w1 w2 gsT k (hS z k) (mS z k) (k : Int)) (fun k => sk0 n q u z w1 w2 k (hS z k) (mS z k) (k : Int)) (fun _ => rfl) (fun k => t0_into n q u z w1 w2 gsT k _ _ _) (fun k => t0_fits n q u z w1 w2 gsT k _ _ _) (fun k hk => ?_) ?_
  · obtain ⟨a1, a2, a3⟩ := rnd_lt hk
    cases k with
    | zero =>
      refine sk_yes a1 (sk_need a2 (sk_need a3 (sk_leaf (rnd_next ?_ rfl))))
      rw [wrap_succ (by omega), idx_nat]
      exact le_news (show 4 + 2 ≤ lim by decide) ⟨⟨rfl, one_row (putF_same _ _ _).symm⟩, ⟨rfl, one_row (putF_same _ _ _).symm⟩, trivial⟩
    | succ k =>
      refine sk_yes a1 (sk_need a2 (sk_need a3 (sk_nn (sk_need (capB_ok (by omega)) (sk_nn (sk_need (capB_ok (by omega)) (sk_leaf (rnd_next ?_ rfl))))))))
      rw [wrap_succ (by omega), idx_nat]
      exact St.Le.refl _
  · cases n with
    | zero => exact sk_no (rnd_end 0) (sk_leaf rfl)
    | succ n => exact sk_no (rnd_end (n + 1)) (sk_leaf rfl)
section
variable (kd : KP) (f g : Nat → Int) (R : Nat) (r c1 c2 : Nat → Int)
noncomputable def sk1 (M : Nat) (t : Nat → Int) (s : MS) (i : Int) : Sk (X × St) := .node (decide (i < (M : Int))) (.need (decide (0 ≤ i) && decide (i < (M : Int))) (.need (Nat.blt (0 + i.toNat) M) (.leaf (.normal, ptH1 n q u z w1 w2 kd f g R r c1 c2 M t (incM upI s (t (0 + i.toNat))) (IntKind.i64.wrap (i + 1))))))
  (.leaf (.exit 2, ptXM n q u z w1 w2 kd f g R r c1 c2 s))
noncomputable def sk2 (s : MS) (i : Int) : Sk (X × St) := .node (decide (i < (R : Int))) (.need (decide (0 ≤ i) && decide (i < (R : Int))) (.need (Nat.blt (0 + i.toNat) R) (.leaf (.normal, ptH2 n q u z w1 w2 kd f g R r c1 c2 (incM dnI s (r (0 + i.toNat))) (IntKind.i64.wrap (i + 1))))))
  (.leaf (.exit 4, ptXM n q u z w1 w2 kd f g R r c1 c2 s))
noncomputable def sk3 (p : Nat) (s : MS) (i : Int) : Sk (X × St) := .node (decide (i < ((p + 1 : Nat) : Int))) (.need (decide (0 ≤ i) && decide (i < ((p + 1 : Nat) : Int))) (.need (Nat.blt (0 + i.toNat) (p + 1)) (.need (Nat.blt (0 + i.toNat) (p + 1)) (.leaf (.normal, ptH3 n q u z w1 w2 (.c p) f g R r c1 c2 (incM dnI (incM dnI s (c1 (0 + i.toNat))) (c2 (0 + i.toNat))) (IntKind.i64.wrap (i + 1)))))))
  (.leaf (.exit 6, ptXM n q u z w1 w2 (.c p) f g R r c1 c2 s))
section
variable (gs : Gs) (s : MS) (i : Int)
theorem t1n_into (M : Nat) (t : Nat → Int) : ptT1 n q u z w1 w2 .n f g R r c1 c2 gs M t s i = into (ptT1 n q u z w1 w2 .n f g R r c1 c2 gs M t s i) (sk1 n q u z w1 w2 .n f g R r c1 c2 M t s i) := by kernel_rfl
theorem t1n_fits (M : Nat) (t : Nat → Int) : fits (ptT1 n q u z w1 w2 .n f g R r c1 c2 gs M t s i) (sk1 n q u z w1 w2 .n f g R r c1 c2 M t s i) = true := by kernel_rfl
theorem t1c_into (p M : Nat) (t : Nat → Int) : ptT1 n q u z w1 w2 (.c p) f g R r c1 c2 gs M t s i = into (ptT1 n q u z w1 w2 (.c p) f g R r c1 c2 gs M t s i) (sk1 n q u z w1 w2 (.c p) f g R r c1 c2 M t s i) := by kernel_rfl
theorem t1c_fits (p M : Nat) (t : Nat → Int) : fits (ptT1 n q u z w1 w2 (.c p) f g R r c1 c2 gs M t s i) (sk1 n q u z w1 w2 (.c p) f g R r c1 c2 M t s i) = true := by kernel_rfl
theorem t2n_into : ptT2 n q u z w1 w2 .n f g R r c1 c2 gs s i = into (ptT2 n q u z w1 w2 .n f g R r c1 c2 gs s i) (sk2 n q u z w1 w2 .n f g R r c1 c2 s i) := by kernel_rfl
theorem t2n_fits : fits (ptT2 n q u z w1 w2 .n f g R r c1 c2 gs s i) (sk2 n q u z w1 w2 .n f g R r c1 c2 s i) = true := by kernel_rfl
theorem t2c_into (p : Nat) : ptT2 n q u z w1 w2 (.c p) f g R r c1 c2 gs s i = into (ptT2 n q u z w1 w2 (.c p) f g R r c1 c2 gs s i) (sk2 n q u z w1 w2 (.c p) f g R r c1 c2 s i) := by kernel_rfl
theorem t2c_fits (p : Nat) : fits (ptT2 n q u z w1 w2 (.c p) f g R r c1 c2 gs s i) (sk2 n q u z w1 w2 (.c p) f g R r c1 c2 s i) = true := by kernel_rfl
theorem t3c_into (p : Nat) : ptT3 n q u z w1 w2 (.c p) f g R r c1 c2 gs s i = into (ptT3 n q u z w1 w2 (.c p) f g R r c1 c2 gs s i) (sk3 n q u z w1 w2 f g R r c1 c2 p s i) := by kernel_rfl
theorem t3c_fits (p : Nat) : fits (ptT3 n q u z w1 w2 (.c p) f g R r c1 c2 gs s i) (sk3 n q u z w1 w2 f g R r c1 c2 p s i) = true := by kernel_rfl
/-! where there is nothing to count -/
noncomputable def skE (j : Nat) : Sk (X × St) := .ff (.leaf (.exit j, ptXM n q u z w1 w2 kd f g R r c1 c2 s))
theorem t1z_into (M : Nat) (t : Nat → Int) : ptT1 n q u z w1 w2 .z f g R r c1 c2 gs M t s 0 = into (ptT1 n q u z w1 w2 .z f g R r c1 c2 gs M t s 0) (skE n q u z w1 w2 .z f g R r c1 c2 s 2) := by kernel_rfl
theorem t1z_fits (M : Nat) (t : Nat → Int) : fits (ptT1 n q u z w1 w2 .z f g R r c1 c2 gs M t s 0) (skE n q u z w1 w2 .z f g R r c1 c2 s 2) = true := by kernel_rfl
theorem t2z_into : ptT2 n q u z w1 w2 .z f g R r c1 c2 gs s 0 = into (ptT2 n q u z w1 w2 .z f g R r c1 c2 gs s 0) (skE n q u z w1 w2 .z f g R r c1 c2 s 4) := by kernel_rfl
theorem t2z_fits : fits (ptT2 n q u z w1 w2 .z f g R r c1 c2 gs s 0) (skE n q u z w1 w2 .z f g R r c1 c2 s 4) = true := by kernel_rfl
theorem t3z_into : ptT3 n q u z w1 w2 .z f g R r c1 c2 gs s 0 = into (ptT3 n q u z w1 w2 .z f g R r c1 c2 gs s 0) (skE n q u z w1 w2 .z f g R r c1 c2 s 6) := by kernel_rfl
theorem t3z_fits : fits (ptT3 n q u z w1 w2 .z f g R r c1 c2 gs s 0) (skE n q u z w1 w2 .z f g R r c1 c2 s 6) = true := by kernel_rfl
theorem t3n_into : ptT3 n q u z w1 w2 .n f g R r c1 c2 gs s 0 = into (ptT3 n q u z w1 w2 .n f g R r c1 c2 gs s 0) (skE n q u z w1 w2 .n f g R r c1 c2 s 6) := by kernel_rfl
theorem t3n_fits : fits (ptT3 n q u z w1 w2 .n f g R r c1 c2 gs s 0) (skE n q u z w1 w2 .n f g R r c1 c2 s 6) = true := by kernel_rfl
/-! between the loops -/
theorem s2_into : ptS2 n q u z w1 w2 kd f g R r c1 c2 gs s = into (ptS2 n q u z w1 w2 kd f g R r c1 c2 gs s) (.leaf (.inr (ptP 2, ptH2 n q u z w1 w2 kd f g R r c1 c2 s 0))) := by
  cases kd with
  | z => kernel_rfl
  | n => kernel_rfl
  | c p => kernel_rfl
theorem s2_fits : fits (ptS2 n q u z w1 w2 kd f g R r c1 c2 gs s) (.leaf (.inr (ptP 2, ptH2 n q u z w1 w2 kd f g R r c1 c2 s 0))) = true := by
  cases kd with
  | z => kernel_rfl
  | n => kernel_rfl
  | c p => kernel_rfl
theorem s3_into : ptS3 n q u z w1 w2 kd f g R r c1 c2 gs s = into (ptS3 n q u z w1 w2 kd f g R r c1 c2 gs s) (.leaf (.inr (ptP 3, ptH3 n q u z w1 w2 kd f g R r c1 c2 s 0))) := by
  cases kd with
  | z => kernel_rfl
  | n => kernel_rfl
  | c p => kernel_rfl
theorem s3_fits : fits (ptS3 n q u z w1 w2 kd f g R r c1 c2 gs s) (.leaf (.inr (ptP 3, ptH3 n q u z w1 w2 kd f g R r c1 c2 s 0))) = true := by
  cases kd with
  | z => kernel_rfl
  | n => kernel_rfl
  | c p => kernel_rfl
theorem s4_into : ptS4 n q u z w1 w2 kd f g R r c1 c2 gs s = into (ptS4 n q u z w1 w2 kd f g R r c1 c2 gs s) (.leaf (.inr (ptP 4, ptH4 n q u z w1 w2 kd f g R r c1 c2 s))) := by
  cases kd with
  | z => kernel_rfl
  | n => kernel_rfl
  | c p => kernel_rfl
theorem s4_fits : fits (ptS4 n q u z w1 w2 kd f g R r c1 c2 gs s) (.leaf (.inr (ptP 4, ptH4 n q u z w1 w2 kd f g R r c1 c2 s))) = true := by
  cases kd with
  | z => kernel_rfl
  | n => kernel_rfl
  | c p => kernel_rfl
end
/-! ### the loops -/
theorem pt_loop1 (M : Nat) (t : Nat → Int) (s : MS) (hM : M ≤ 1000000) (hz : kd ≠ .z) : ComesF Tryz.prog (.loop (ptC 1)) (ptB n q u z w1 w2) (ptH1 n q u z w1 w2 kd f g R r c1 c2 M t s 0) fun o => o = (.exit 2, ptXM n q u z w1 w2 kd f g R r c1 c2 (itM upI t s M)) := by
  have go : ∀ kd : KP, (∀ s i, ptT1 n q u z w1 w2 kd f g R r c1 c2 gsT M t s i = into (ptT1 n q u z w1 w2 kd f g R r c1 c2 gsT M t s i) (sk1 n q u z w1 w2 kd f g R r c1 c2 M t s i)) → (∀ s i, fits (ptT1 n q u z w1 w2 kd f g R r c1 c2 gsT M t s i) (sk1 n q u z w1 w2 kd f g R r c1 c2 M t s i) = true) →
      ComesF Tryz.prog (.loop (ptC 1)) (ptB n q u z w1 w2) (ptH1 n q u z w1 w2 kd f g R r c1 c2 M t (itM upI t s 0) ((0 : Nat) : Int)) fun o => o = (.exit 2, ptXM n q u z w1 w2 kd f g R r c1 c2 (itM upI t s M)) := fun kd h1 h2 => by
    refine loop_count (ptRe_ok .z .z .ok) rfl [1, 2, 7, 8, 15, 16, 18, 135, 136, 137] [1, 2, 7, 8, 15, 16, 18] (fun k => ptH1 n q u z w1 w2 kd f g R r c1 c2 M t (itM upI t s k) (k : Int)) (fun _ => (.exit 2, ptXM n q u z w1 w2 kd f g R r c1 c2 (itM upI t s M))) M (fun k => ptT1 n q u z w1 w2 kd f g R r c1 c2 gsT M t (itM upI t s k) (k : Int)) (fun k => sk1 n q u z w1 w2 kd f g R r c1 c2 M t (itM upI t s k) (k : Int)) (fun _ => rfl) (fun k => h1 _ _) (fun k => h2 _ _) (fun k hk => ?_) (sk_no (rnd_end M) (sk_leaf rfl))
    obtain ⟨a1, a2, a3⟩ := rnd_lt hk
    refine sk_yes a1 (sk_need a2 (sk_need a3 (sk_leaf (rnd_next ?_ rfl))))
    rw [wrap_succ (by omega), idx_nat]
    exact St.Le.refl _
  cases kd with
  | z => exact absurd rfl hz
  | n => exact go .n (fun s i => t1n_into n q u z w1 w2 f g R r c1 c2 gsT s i M t) (fun s i => t1n_fits n q u z w1 w2 f g R r c1 c2 gsT s i M t)
  | c p => exact go (.c p) (fun s i => t1c_into n q u z w1 w2 f g R r c1 c2 gsT s i p M t) (fun s i => t1c_fits n q u z w1 w2 f g R r c1 c2 gsT s i p M t)
theorem pt_loop2 (s : MS) (hR : R ≤ 1000000) (hz : kd ≠ .z) : ComesF Tryz.prog (.loop (ptC 2)) (ptB n q u z w1 w2) (ptH2 n q u z w1 w2 kd f g R r c1 c2 s 0) fun o => o = (.exit 4, ptXM n q u z w1 w2 kd f g R r c1 c2 (itM dnI r s R)) := by
  have go : ∀ kd : KP, (∀ s i, ptT2 n q u z w1 w2 kd f g R r c1 c2 gsT s i = into (ptT2 n q u z w1 w2 kd f g R r c1 c2 gsT s i) (sk2 n q u z w1 w2 kd f g R r c1 c2 s i)) → (∀ s i, fits (ptT2 n q u z w1 w2 kd f g R r c1 c2 gsT s i) (sk2 n q u z w1 w2 kd f g R r c1 c2 s i) = true) →
      ComesF Tryz.prog (.loop (ptC 2)) (ptB n q u z w1 w2) (ptH2 n q u z w1 w2 kd f g R r c1 c2 (itM dnI r s 0) ((0 : Nat) : Int)) fun o => o = (.exit 4, ptXM n q u z w1 w2 kd f g R r c1 c2 (itM dnI r s R)) := fun kd h1 h2 => by
    refine loop_count (ptRe_ok .z .z .ok) rfl [1, 2, 7, 8, 15, 16, 18, 146, 147, 148] [1, 2, 7, 8, 15, 16, 18] (fun k => ptH2 n q u z w1 w2 kd f g R r c1 c2 (itM dnI r s k) (k : Int)) (fun _ => (.exit 4, ptXM n q u z w1 w2 kd f g R r c1 c2 (itM dnI r s R))) R (fun k => ptT2 n q u z w1 w2 kd f g R r c1 c2 gsT (itM dnI r s k) (k : Int)) (fun k => sk2 n q u z w1 w2 kd f g R r c1 c2 (itM dnI r s k) (k : Int)) (fun _ => rfl) (fun k => h1 _ _) (fun k => h2 _ _) (fun k hk => ?_) (sk_no (rnd_end R) (sk_leaf rfl))
    obtain ⟨a1, a2, a3⟩ := rnd_lt hk
    refine sk_yes a1 (sk_need a2 (sk_need a3 (sk_leaf (rnd_next ?_ rfl))))
    rw [wrap_succ (by omega), idx_nat]
    exact St.Le.refl _
  cases kd with
  | z => exact absurd rfl hz
  | n => exact go .n (fun s i => t2n_into n q u z w1 w2 f g R r c1 c2 gsT s i) (fun s i => t2n_fits n q u z w1 w2 f g R r c1 c2 gsT s i)
  | c p => exact go (.c p) (fun s i => t2c_into n q u z w1 w2 f g R r c1 c2 gsT s i p) (fun s i => t2c_fits n q u z w1 w2 f g R r c1 c2 gsT s i p)
theorem pt_loop3 (p : Nat) (s : MS) (hp : p ≤ 1000000) : ComesF Tryz.prog (.loop (ptC 3)) (ptB n q u z w1 w2) (ptH3 n q u z w1 w2 (.c p) f g R r c1 c2 s 0) fun o => o = (.exit 6, ptXM n q u z w1 w2 (.c p) f g R r c1 c2 (itM2 c1 c2 s (p + 1))) := by
  refine loop_count (ptRe_ok .z .z .ok) rfl [1, 2, 7, 8, 15, 16, 18, 157, 158, 159] [1, 2, 7, 8, 15, 16, 18] (fun k => ptH3 n q u z w1 w2 (.c p) f g R r c1 c2 (itM2 c1 c2 s k) (k : Int)) (fun _ => (.exit 6, ptXM n q u z w1 w2 (.c p) f g R r c1 c2 (itM2 c1 c2 s (p + 1)))) (p + 1) (fun k => ptT3 n q u z w1 w2 (.c p) f g R r c1 c2 gsT (itM2 c1 c2 s k) (k : Int)) (fun k => sk3 n q u z w1 w2 f g R r c1 c2 p (itM2 c1 c2 s k) (k : Int)) (fun _ => rfl) (fun k => t3c_into n q u z w1 w2 f g R r c1 c2 gsT _ _ p) (fun k => t3c_fits n q u z w1 w2 f g R r c1 c2 gsT _ _ p) (fun k hk => ?_) (sk_no (rnd_end (p + 1)) (sk_leaf rfl))
  obtain ⟨a1, a2, a3⟩ := rnd_lt hk
  refine sk_yes a1 (sk_need a2 (sk_need a3 (sk_need a3 (sk_leaf (rnd_next ?_ rfl)))))
  rw [wrap_succ (by omega), idx_nat]
  exact St.Le.refl _
theorem pt_loop1z (M : Nat) (t : Nat → Int) (s : MS) : ComesF Tryz.prog (.loop (ptC 1)) (ptB n q u z w1 w2) (ptH1 n q u z w1 w2 .z f g R r c1 c2 M t s 0) fun o => o = (.exit 2, ptXM n q u z w1 w2 .z f g R r c1 c2 s) :=
  loop_none (ptRe_ok .z .z .ok) rfl [1, 2, 7, 8, 15, 16, 18, 135, 136, 137] [1, 2, 7, 8, 15, 16, 18] (T := ptT1 n q u z w1 w2 .z f g R r c1 c2 gsT M t s 0) rfl (t1z_into n q u z w1 w2 f g R r c1 c2 gsT s M t) (t1z_fits n q u z w1 w2 f g R r c1 c2 gsT s M t) (sk_ff (sk_leaf rfl))
theorem pt_loop2z (s : MS) : ComesF Tryz.prog (.loop (ptC 2)) (ptB n q u z w1 w2) (ptH2 n q u z w1 w2 .z f g R r c1 c2 s 0) fun o => o = (.exit 4, ptXM n q u z w1 w2 .z f g R r c1 c2 s) :=
  loop_none (ptRe_ok .z .z .ok) rfl [1, 2, 7, 8, 15, 16, 18, 146, 147, 148] [1, 2, 7, 8, 15, 16, 18] (T := ptT2 n q u z w1 w2 .z f g R r c1 c2 gsT s 0) rfl (t2z_into n q u z w1 w2 f g R r c1 c2 gsT s) (t2z_fits n q u z w1 w2 f g R r c1 c2 gsT s) (sk_ff (sk_leaf rfl))
theorem pt_loop3z (s : MS) : ComesF Tryz.prog (.loop (ptC 3)) (ptB n q u z w1 w2) (ptH3 n q u z w1 w2 .z f g R r c1 c2 s 0) fun o => o = (.exit 6, ptXM n q u z w1 w2 .z f g R r c1 c2 s) :=
  loop_none (ptRe_ok .z .z .ok) rfl [1, 2, 7, 8, 15, 16, 18, 157, 158, 159] [1, 2, 7, 8, 15, 16, 18] (T := ptT3 n q u z w1 w2 .z f g R r c1 c2 gsT s 0) rfl (t3z_into n q u z w1 w2 f g R r c1 c2 gsT s) (t3z_fits n q u z w1 w2 f g R r c1 c2 gsT s) (sk_ff (sk_leaf rfl))
theorem pt_loop3n (s : MS) : ComesF Tryz.prog (.loop (ptC 3)) (ptB n q u z w1 w2) (ptH3 n q u z w1 w2 .n f g R r c1 c2 s 0) fun o => o = (.exit 6, ptXM n q u z w1 w2 .n f g R r c1 c2 s) :=
  loop_none (ptRe_ok .z .z .ok) rfl [1, 2, 7, 8, 15, 16, 18, 157, 158, 159] [1, 2, 7, 8, 15, 16, 18] (T := ptT3 n q u z w1 w2 .n f g R r c1 c2 gsT s 0) rfl (t3n_into n q u z w1 w2 f g R r c1 c2 gsT s) (t3n_fits n q u z w1 w2 f g R r c1 c2 gsT s) (sk_ff (sk_leaf rfl))
/-- the map holds 0 alone -/
theorem pt_loop4 (s : MS) (hs : ∀ x, s.f x = 0) : ComesF Tryz.prog (.loop (ptC 4)) (ptB n q u z w1 w2) (ptH4 n q u z w1 w2 kd f g R r c1 c2 s) fun o => o = (.exit 8, rangeSt [1, 2, 7, 8, 15, 16] (kM kd + 1) (ptH4 n q u z w1 w2 kd f g R r c1 c2 s)) := by
  have hsh : rgSh Tryz.prog 175 176 177 8 178 179 26 180 181 (ptC 4) = true := by kernel_rfl
  cases kd with
  | z => exact rangeF hsh [1, 2, 7, 8, 15, 16] (j := 5) (m := 4) (n := s.n) (e := 0) (e' := 0) (f := s.f) (b := s.b) (l := s.last) (by kernel_rfl) (by kernel_rfl) (by kernel_rfl) hs
  | n => exact rangeF hsh [1, 2, 7, 8, 15, 16] (j := 8) (m := 7) (n := s.n) (e := 0) (e' := 0) (f := s.f) (b := s.b) (l := s.last) (by kernel_rfl) (by kernel_rfl) (by kernel_rfl) hs
  | c p => exact rangeF hsh [1, 2, 7, 8, 15, 16] (j := 9) (m := 8) (n := s.n) (e := 0) (e' := 0) (f := s.f) (b := s.b) (l := s.last) (by kernel_rfl) (by kernel_rfl) (by kernel_rfl) hs
end
end
end Go.Ev
