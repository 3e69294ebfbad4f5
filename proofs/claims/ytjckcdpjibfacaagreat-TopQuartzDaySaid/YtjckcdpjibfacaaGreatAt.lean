/- States for the sun at a tick. Conditions: none. The sun at a tick. Conditions: a valid sky, a tick of it. -/
import Derived.Test.YtjckcdpjibfacaaGreatCsk
import Derived.Test.YtjckcdpjibfacaaGreatDyP
namespace Go.Ev
open Go Go.Proofs
set_option maxRecDepth 100000
def tbC : List (FuncId × Spec) := (32, ckSp skyE) :: (5, ckSp skyE) :: tbK
theorem tbC_ok : TabOk Tryz.prog (tabOf tbC) := tab_cons (tab_cons tbK_ok qk_ok) pk_ok
noncomputable def reC : Code → St → Tree (X × St) := recT Tryz.prog (tabOf tbC)
theorem reC_ok : RecOk Tryz.prog reC := recT_ok tbC_ok
def vecB (x y z : Int) : Blk := ⟨false, 26, .flat [ci x, ci y, ci z]⟩
section
variable (nm : ByteArray) (n : Nat) (g0 g1 g2 g3 : Nat → Int) (t : Int)
def atB : St := baseB 52 [skyA nm n, int t] (skH n g0 g1 g2 g3)
def atH (i : Int) : St := skN 52 n g0 g1 g2 g3 [(1, int t), (2, pt 1), (4, pt 2), (5, pt 3), (11, slT 0 4 n), (12, int n), (13, int i)] [skyB 38 nm n, vecB 0 0 0, vecB 0 0 0]
def atX (x y z : Int) : St := skN 52 n g0 g1 g2 g3 [(4, pt 1), (5, pt 2)] [vecB 0 0 0, vecB x y z]
noncomputable def atT (k : Nat) : Tree (X × St) := (reC (loopF Tryz.f34) (atH nm n g0 g1 g2 g3 t (k : Int))).bind (canonT [1, 2, 4, 5, 11, 12, 13] [4, 5] (atB nm n g0 g1 g2 g3 t))
noncomputable def atO : Tree ((X × St) ⊕ (List Bool × St)) := evO reC (bodyOf Tryz.f34) [1, 2, 4, 5, 11, 12, 13] [4] (atB nm n g0 g1 g2 g3 t)
noncomputable def atPo (q : X × St) : Tree ((X × St) ⊕ (List Bool × St)) := evO2 reC true (bodyOf Tryz.f34) (pathF Tryz.f34) [] [4] (atB nm n g0 g1 g2 g3 t) q
end
end Go.Ev
namespace Go.Ev
open Go Go.Proofs
set_option maxRecDepth 100000
def atV (n : Nat) (g0 ga : Nat → Int) (t : Int) : Int := atP g0 ga t (atI g0 t n 0)
def svR (n : Nat) (g0 g1 g2 g3 ga : Nat → Int) (t : Int) : Int := redA (atV n g0 g1 t) (atV n g0 g2 t) (atV n g0 g3 t) (atV n g0 ga t)
def atW (g0 ga : Nat → Int) (t : Int) (i p : Nat) : Int := match g0 i == t with
 | true => ga i
 | false => suW (IntKind.i64.wrap (g0 i - t)) (ga p) (IntKind.i64.wrap (t - g0 p)) (ga i)
def w1B (n k : Nat) : Bool := decide (0 ≤ IntKind.i64.wrap ((k : Int) - 1)) && decide (IntKind.i64.wrap ((k : Int) - 1) < (n : Int))
def w1N (k : Nat) : Nat := 0 + Int.toNat (IntKind.i64.wrap ((k : Int) - 1))
section
variable (nm : ByteArray) (n : Nat) (g0 g1 g2 g3 : Nat → Int) (t : Int)
def atZ (i p : Nat) : St := atX n g0 g1 g2 g3 (suW (IntKind.i64.wrap (g0 i - t)) (g1 p) (IntKind.i64.wrap (t - g0 p)) (g1 i)) (suW (IntKind.i64.wrap (g0 i - t)) (g2 p) (IntKind.i64.wrap (t - g0 p)) (g2 i)) (suW (IntKind.i64.wrap (g0 i - t)) (g3 p) (IntKind.i64.wrap (t - g0 p)) (g3 i))
def atS (k : Nat) : SkX := .node (decide ((k : Int) < (n : Int))) (.need (kB n k) (.need (Nat.blt (ixN k) n) (need3 (Nat.blt (ixN k) n) (.node (g0 (ixN k) == t) (.leaf (.exit 0, atX n g0 g1 g2 g3 (g1 (ixN k)) (g2 (ixN k)) (g3 (ixN k))))
 (.node (decide (g0 (ixN k) > t)) (.need (w1B n k) (.need (Nat.blt (w1N k) n) (need3 (Nat.blt (w1N k) n) (.leaf (.exit 0, atZ n g0 g1 g2 g3 t (ixN k) (w1N k))))))
 (.leaf (.normal, atH nm n g0 g1 g2 g3 t (IntKind.i64.wrap ((k : Int) + 1)))))))))
 (.leaf (.exit 0, atX n g0 g1 g2 g3 0 0 0))
theorem at_into (k : Nat) : atT nm n g0 g1 g2 g3 t k = into (atT nm n g0 g1 g2 g3 t k) (atS nm n g0 g1 g2 g3 t k) := by kernel_rfl
theorem at_fits (k : Nat) : fits (atT nm n g0 g1 g2 g3 t k) (atS nm n g0 g1 g2 g3 t k) = true := by kernel_rfl
def atFin (k : Nat) : X × St := match Nat.blt (atI g0 t (n - k) k) n with
 | true => (.exit 0, atX n g0 g1 g2 g3 (atW g0 g1 t (atI g0 t (n - k) k) (atI g0 t (n - k) k - 1)) (atW g0 g2 t (atI g0 t (n - k) k) (atI g0 t (n - k) k - 1)) (atW g0 g3 t (atI g0 t (n - k) k) (atI g0 t (n - k) k - 1)))
 | false => (.exit 0, atX n g0 g1 g2 g3 0 0 0)
theorem at_step (hn : n ≤ 1000000) (h0 : g0 0 ≤ t) (k : Nat) (hk : k < n) : SkLeads (Rnd (fun k : Nat => atH nm n g0 g1 g2 g3 t (k : Int)) (atFin n g0 g1 g2 g3 t) k) (atS nm n g0 g1 g2 g3 t k) := by
 obtain ⟨e1, e2, e3⟩ := rnd_lt hk
 have ei : ixN k = k := idx_nat k
 have hi : Nat.blt (ixN k) n = true := e3
 have hat : atI g0 t (n - k) k = match decide (t ≤ g0 k) with | true => k | false => atI g0 t (n - (k + 1)) (k + 1) := by
  rw [show n - k = (n - (k + 1)) + 1 by omega]; rfl
 have hkn : Nat.blt k n = true := by rw [Nat.blt_eq]; exact hk
 have fin : ∀ q, t ≤ g0 k → q = (X.exit 0, atX n g0 g1 g2 g3 (atW g0 g1 t k (k - 1)) (atW g0 g2 t k (k - 1)) (atW g0 g3 t k (k - 1))) → SkLeads (Rnd (fun k : Nat => atH nm n g0 g1 g2 g3 t (k : Int)) (atFin n g0 g1 g2 g3 t) k) (.leaf q) := fun q hle hq => by
  subst hq
  refine sk_leaf (show _ = atFin n g0 g1 g2 g3 t k from ?_)
  unfold atFin
  rw [decide_eq_true hle] at hat
  simp only [] at hat
  rw [hat, hkn]
 unfold atS
 refine sk_yes e1 (sk_need e2 (sk_need hi (need3_ok hi (sk_either (fun h => fin _ ?_ ?_) fun h => sk_either (fun h1 => ?_) fun h1 => sk_leaf (rnd_next ?_ ?_)))))
 ·rw [ei] at h; have h : g0 k = t := by simpa using h
  omega
 ·rw [ei] at h ⊢
  unfold atW
  rw [h]
 ·rw [ei] at h h1 ⊢
  have hne : ¬ g0 k = t := by simpa using h
  simp only [decide_eq_true_eq] at h1
  have hk0 : 0 < k := by
   rcases Nat.eq_zero_or_pos k with e | e
   ·subst e; omega
   ·exact e
  have ew : IntKind.i64.wrap ((k : Int) - 1) = ((k - 1 : Nat) : Int) := by rw [wrap_id (by omega) (by omega)]; omega
  have ewn : w1N k = k - 1 := by unfold w1N; rw [ew, idx_nat]
  have hb : Nat.blt (w1N k) n = true := by rw [ewn, Nat.blt_eq]; omega
  refine sk_need (by unfold w1B; rw [ew]; simp only [Bool.and_eq_true, decide_eq_true_eq]; omega) (sk_need hb (need3_ok hb (fin _ (by omega) ?_)))
  rw [ewn]
  unfold atZ atW
  rw [h]
 ·rw [wrap_succ (by omega)]; exact St.Le.refl _
 ·rw [ei] at h h1
  have hne : ¬ g0 k = t := by simpa using h
  simp only [decide_eq_false_iff_not] at h1
  unfold atFin
  rw [decide_eq_false (show ¬ t ≤ g0 k by omega)] at hat
  simp only [] at hat
  rw [hat]
theorem at_last : SkLeads (RndEnd (atFin n g0 g1 g2 g3 t n)) (atS nm n g0 g1 g2 g3 t n) := by
 unfold atS
 refine sk_no (rnd_end n) (sk_leaf (show _ = atFin n g0 g1 g2 g3 t n from ?_))
 unfold atFin
 rw [Nat.sub_self]
 show _ = match Nat.blt n n with | true => _ | false => _
 have : Nat.blt n n = false := by rw [← Bool.not_eq_true, Nat.blt_eq]; omega
 rw [this]
theorem at_loop (hn : n ≤ 1000000) (h0 : g0 0 ≤ t) : ComesF Tryz.prog (.loop (loopF Tryz.f34)) (atB nm n g0 g1 g2 g3 t) (atH nm n g0 g1 g2 g3 t ((0 : Nat) : Int)) fun q => q = atFin n g0 g1 g2 g3 t 0 :=
 loop_count reC_ok rfl [1, 2, 4, 5, 11, 12, 13] [4, 5] (fun k => atH nm n g0 g1 g2 g3 t (k : Int)) (atFin n g0 g1 g2 g3 t) n (atT nm n g0 g1 g2 g3 t) (atS nm n g0 g1 g2 g3 t) (fun k => by delta atT; rfl) (at_into nm n g0 g1 g2 g3 t) (at_fits nm n g0 g1 g2 g3 t) (fun k hk => at_step nm n g0 g1 g2 g3 t hn h0 k hk) (at_last nm n g0 g1 g2 g3 t)
def atY (x y z : Int) : St := skN 52 n g0 g1 g2 g3 [(4, pt 1)] [vecB (redA x y z x) (redA x y z y) (redA x y z z)]
theorem atO_is : atO nm n g0 g1 g2 g3 t = .leaf (.inr (pathF Tryz.f34, atH nm n g0 g1 g2 g3 t ((0 : Nat) : Int))) := by kernel_rfl
theorem atP_is (x y z : Int) : atPo nm n g0 g1 g2 g3 t (.exit 0, atX n g0 g1 g2 g3 x y z) = .need (in3 x y z) (.leaf (.inl (.ret, atY n g0 g1 g2 g3 x y z))) := by kernel_rfl
theorem at_left (x y z : Int) : Left2 Tryz.prog Tryz.f34 (skH n g0 g1 g2 g3) (vec (redA x y z x) (redA x y z y) (redA x y z z)) (skH n g0 g1 g2 g3) (.ret, atY n g0 g1 g2 g3 x y z) := left_of (b := true) (by kernel_rfl)
end
section
variable {n : Nat} {g0 g1 g2 g3 : Nat → Int} (hs : SkyOk n g0 g1 g2 g3) {t : Int} (h0 : g0 0 ≤ t) (h1 : t ≤ g0 (n - 1))
include hs h0 h1
theorem atW_eq {M : Nat} (hM : M ≤ 4096) {ga : Nat → Int} (ha : ∀ i, i < n → (ga i).natAbs ≤ M) : atW g0 ga t (atI g0 t n 0) (atI g0 t n 0 - 1) = atV n g0 ga t ∧ (atV n g0 ga t).natAbs ≤ 1638400 := by
 obtain ⟨b1, b2⟩ := at_bd hs h0 h1 ha
 obtain ⟨w1, _⟩ := at_where hs h0 h1
 unfold atV
 generalize atI g0 t n 0 = i at *
 refine ⟨?_, by omega⟩
 unfold atW atP
 cases h : g0 i == t with
 | true => rfl
 | false =>
  simp only []
  obtain ⟨c1, c2⟩ := b2 (by simpa using h)
  rw [wrap_id (by omega) (by omega), wrap_id (by omega) (by omega)]
  have a1 := ha i w1
  have a2 := ha (i - 1) (by omega)
  exact (su_bd c1 a2 c2 a1 (by omega)).1
theorem at_call (nm : ByteArray) : CallAt Tryz.prog 34 [skyA nm n, int t] (skH n g0 g1 g2 g3) (vec (svR n g0 g1 g2 g3 g1 t) (svR n g0 g1 g2 g3 g2 t) (svR n g0 g1 g2 g3 g3 t)) (skH n g0 g1 g2 g3) := by
 have hn := hs.few
 obtain ⟨x1, x2⟩ := atW_eq hs h0 h1 (Nat.le_refl _) fun i hi => (hs.ray i hi).1.1
 obtain ⟨y1, y2⟩ := atW_eq hs h0 h1 (Nat.le_refl _) fun i hi => (hs.ray i hi).1.2.1
 obtain ⟨z1, z2⟩ := atW_eq hs h0 h1 (Nat.le_refl _) fun i hi => (hs.ray i hi).1.2.2
 refine call_base reC_ok (c := bodyOf Tryz.f34) (fn := Tryz.f34) Tryz.func34 (by kernel_rfl) (by kernel_rfl) (false, false) 1 [1, 2, 4, 5, 11, 12, 13] [4] (sB := atB nm n g0 g1 g2 g3 t) (by kernel_rfl) (atO_is nm n g0 g1 g2 g3 t) ?_
 refine (sk_stop _ true [] [4] (at_loop nm n g0 g1 g2 g3 t (by omega) h0) fun q hq => ?_).all
 subst hq
 have hf : atFin n g0 g1 g2 g3 t 0 = (.exit 0, atX n g0 g1 g2 g3 (atV n g0 g1 t) (atV n g0 g2 t) (atV n g0 g3 t)) := by
  unfold atFin
  rw [Nat.sub_zero, show Nat.blt (atI g0 t n 0) n = true by rw [Nat.blt_eq]; exact (at_where hs h0 h1).1, x1, y1, z1]
 rw [hf]
 refine leads_in (S := .need (in3 (atV n g0 g1 t) (atV n g0 g2 t) (atV n g0 g3 t)) (.leaf _)) (show _ = atPo nm n g0 g1 g2 g3 t (.exit 0, atX n g0 g1 g2 g3 (atV n g0 g1 t) (atV n g0 g2 t) (atV n g0 g3 t)) by delta atPo; rfl) (by rw [atP_is]; rfl) (by rw [atP_is]; rfl) (sk_need (Bd.in3 ⟨x2, y2, z2⟩ (by decide)) (sk_done (at_left n g0 g1 g2 g3 _ _ _)))
end
end Go.Ev
