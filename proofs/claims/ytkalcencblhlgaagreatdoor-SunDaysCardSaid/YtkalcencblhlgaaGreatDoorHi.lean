/- States for the highest sun. Conditions: none. The highest sun: the greatest number of a list, its first place. Conditions: as the entries say. -/
import Derived.Test.YtkalcencblhlgaaGreatDoorRis
namespace Go.Ev
open Go Go.Proofs
set_option maxRecDepth 100000

def fnA (f : FuncId) : A := .one (.fn f [])
section
variable (n : Nat) (g0 g1 g2 g3 : Nat → Int)
def mhB : St := baseB 22 [slT 0 4 n, fnA 58] (skH n g0 g1 g2 g3)
def mhE (o : A) (i : Int) : List (Nat × A) := [(1, fnA 58), (5, o), (8, slT 0 4 n), (9, int n), (10, int i)]
def intT (n : Nat) (z : Nat → Int) : Blk := ⟨false, 3, .rows n [.int .i64 z]⟩
def mhH : Nat → St
  | 0 => skN 22 n g0 g1 g2 g3 (mhE n nilA ((0 : Nat) : Int)) []
  | k + 1 => skN 22 n g0 g1 g2 g3 (mhE n (slO 1 1 (k + 1)) ((k + 1 : Nat) : Int)) [intT (k + 1) g3]
def mhX : Nat → St
  | 0 => skN 22 n g0 g1 g2 g3 [(5, nilA)] []
  | k + 1 => skN 22 n g0 g1 g2 g3 [(5, slO 1 1 (k + 1))] [intT (k + 1) g3]
noncomputable def mhT (k : Nat) : Tree (X × St) := (reK (loopF Tryz.f57) (mhH n g0 g1 g2 g3 k)).bind (canonT [1, 5, 8, 9, 10] [5] (mhB n g0 g1 g2 g3))
noncomputable def mhO : Tree ((X × St) ⊕ (List Bool × St)) := evO reK (bodyOf Tryz.f57) [1, 5, 8, 9, 10] [4] (mhB n g0 g1 g2 g3)
noncomputable def mhP (q : X × St) : Tree ((X × St) ⊕ (List Bool × St)) := evO2 reK true (bodyOf Tryz.f57) (pathF Tryz.f57) [] [4] (mhB n g0 g1 g2 g3) q
end
section
variable (n : Nat) (z : Nat → Int)
def inH : Hp := hpT [⟨some 0, n, [.int .i64 z]⟩] [] []
def inN (size : Nat) (env : List (Nat × A)) : St := stN size (envL env) (bsS [⟨some 0, n, [.int .i64 z]⟩] []) [] []
def maB : St := baseB 25 [slT 0 1 n] (inH n z)
def maH (a i : Int) : St := inN n z 25 [(0, slT 0 1 n), (3, int a), (4, int i)]
noncomputable def maT (a : Int) (k : Nat) : Tree (X × St) := (reK (loopF Tryz.f60) (maH n z a (k : Int))).bind (canonT [0, 3, 4] [3] (maB n z))
noncomputable def maO : Tree ((X × St) ⊕ (List Bool × St)) := evO reK (bodyOf Tryz.f60) [0, 3, 4] [2] (maB n z)
noncomputable def maP (q : X × St) : Tree ((X × St) ⊕ (List Bool × St)) := evO2 reK true (bodyOf Tryz.f60) (pathF Tryz.f60) [] [2] (maB n z) q
def idB (v : Int) : St := baseB 19 [slT 0 1 n, int v] (inH n z)
def idH (v i : Int) : St := inN n z 19 [(0, slT 0 1 n), (1, int v), (4, int 0), (7, int n), (8, int i)]
noncomputable def idT (v : Int) (k : Nat) : Tree (X × St) := (reK (loopF Tryz.f59) (idH n z v (k : Int))).bind (canonT [0, 1, 4, 7, 8] [4] (idB n z v))
noncomputable def idO (v : Int) : Tree ((X × St) ⊕ (List Bool × St)) := evO reK (bodyOf Tryz.f59) [0, 1, 4, 7, 8] [4] (idB n z v)
noncomputable def idP (v : Int) (q : X × St) : Tree ((X × St) ⊕ (List Bool × St)) := evO2 reK true (bodyOf Tryz.f59) (pathF Tryz.f59) [] [4] (idB n z v) q
end
end Go.Ev

namespace Go.Ev
open Go Go.Proofs
set_option maxRecDepth 100000

/-! ### mapped: the heights of suns -/
section
variable (n : Nat) (g0 g1 g2 g3 : Nat → Int)
noncomputable def mhS : Nat → SkX
  | 0 => .node (decide (((0 : Nat) : Int) < (n : Int))) (.need (kB n 0) (.need (Nat.blt (ixN 0) n) (need3 (Nat.blt (ixN 0) n) (.leaf (.normal, skN 22 n g0 g1 g2 g3 (mhE n (slO 1 1 1) (IntKind.i64.wrap (((0 : Nat) : Int) + 1))) [⟨false, 3, .flat [ci (g3 (ixN 0))]⟩])))))
    (.leaf (.exit 0, mhX n g0 g1 g2 g3 0))
  | k + 1 => .node (decide (((k + 1 : Nat) : Int) < (n : Int))) (.need (kB n (k + 1)) (.need (Nat.blt (ixN (k + 1)) n) (need3 (Nat.blt (ixN (k + 1)) n) (.need (apN 3 k) (.leaf (.normal, skN 22 n g0 g1 g2 g3 (mhE n (slO 1 1 (k + 1 + 1)) (IntKind.i64.wrap (((k + 1 : Nat) : Int) + 1))) [intT (k + 1 + 1) (putK g3 k)]))))))
    (.leaf (.exit 0, mhX n g0 g1 g2 g3 (k + 1)))
theorem mh_into : ∀ k, mhT n g0 g1 g2 g3 k = into (mhT n g0 g1 g2 g3 k) (mhS n g0 g1 g2 g3 k)
  | 0 => by kernel_rfl
  | k + 1 => by kernel_rfl
theorem mh_fits : ∀ k, fits (mhT n g0 g1 g2 g3 k) (mhS n g0 g1 g2 g3 k) = true
  | 0 => by kernel_rfl
  | k + 1 => by kernel_rfl
theorem one_rows {x0 : Int} {z : Nat → Int} (h0 : x0 = z 0) {e : TypeId} : ∀ (E : Env) (w : World) (p : Nat × Nat × Nat), blkIs E w p ⟨false, e, .flat [ci x0]⟩ → blkIs E w p ⟨false, e, .rows 1 [.int .i64 z]⟩ := by
  subst h0
  refine blk_body rfl (fun cs e => by cases e) fun E arr hh => rows_one rfl (fun j c col h1 h2 => ?_) hh
  match j, h1, h2 with
  | 0, h1, h2 => injection h1 with h1; injection h2 with h2; subst h1; subst h2; rfl
theorem mh_step (hn : n ≤ 1000000) (k : Nat) (hk : k < n) : SkLeads (Rnd (mhH n g0 g1 g2 g3) (fun _ => (.exit 0, mhX n g0 g1 g2 g3 n)) k) (mhS n g0 g1 g2 g3 k) := by
  obtain ⟨e1, e2, e3⟩ := rnd_lt hk
  cases k with
  | zero =>
    unfold mhS
    refine sk_yes e1 (sk_need e2 (sk_need e3 (need3_ok e3 (sk_leaf (rnd_next ?_ rfl)))))
    rw [wrap_succ (by omega)]
    exact le_news (show 1 + 1 ≤ lim by decide) ⟨⟨rfl, one_rows (by rw [show ixN 0 = 0 from idx_nat 0])⟩, trivial⟩
  | succ k =>
    unfold mhS
    have d0 : ((Tryz.prog.info? 3).map (·.bytes)).getD 0 = 8 := by kernel_rfl
    refine sk_yes e1 (sk_need e2 (sk_need e3 (need3_ok e3 (sk_need (apN_ok (by rw [d0]; decide) (by omega)) (sk_leaf (rnd_next ?_ rfl))))))
    rw [wrap_succ (by omega), putK_eq]
    exact St.Le.refl _
theorem mh_last : SkLeads (RndEnd (.exit 0, mhX n g0 g1 g2 g3 n)) (mhS n g0 g1 g2 g3 n) := by
  cases n with
  | zero => unfold mhS; exact sk_no (rnd_end 0) (sk_leaf rfl)
  | succ k => unfold mhS; exact sk_no (rnd_end (k + 1)) (sk_leaf rfl)
theorem mh_loop (hn : n ≤ 1000000) : ComesF Tryz.prog (.loop (loopF Tryz.f57)) (mhB n g0 g1 g2 g3) (mhH n g0 g1 g2 g3 0) fun q => q = (.exit 0, mhX n g0 g1 g2 g3 n) :=
  loop_count reK_ok rfl [1, 5, 8, 9, 10] [5] (mhH n g0 g1 g2 g3) (fun _ => (.exit 0, mhX n g0 g1 g2 g3 n)) n (mhT n g0 g1 g2 g3) (mhS n g0 g1 g2 g3) (fun k => by delta mhT; rfl) (mh_into n g0 g1 g2 g3) (mh_fits n g0 g1 g2 g3) (mh_step n g0 g1 g2 g3 hn) (mh_last n g0 g1 g2 g3)
theorem mhO_is : mhO n g0 g1 g2 g3 = .leaf (.inr (pathF Tryz.f57, mhH n g0 g1 g2 g3 0)) := by kernel_rfl
def mhR (k : Nat) : St := skN 22 n g0 g1 g2 g3 [(4, slO 1 1 (k + 1))] [intT (k + 1) g3]
theorem mhP_is (k : Nat) : mhP n g0 g1 g2 g3 (.exit 0, mhX n g0 g1 g2 g3 (k + 1)) = .leaf (.inl (.ret, mhR n g0 g1 g2 g3 k)) := by kernel_rfl
end
theorem mh_left (g0 g1 g2 g3 : Nat → Int) (k : Nat) : Left2 Tryz.prog Tryz.f57 (skH (k + 1) g0 g1 g2 g3) (slO 1 1 (k + 1)) (hpT [⟨some 0, k + 1, skC g0 g1 g2 g3⟩] [] [intT (k + 1) g3]) (.ret, mhR (k + 1) g0 g1 g2 g3 k) := left_of (b := false) (by kernel_rfl)
theorem mh_call (k : Nat) (g0 g1 g2 g3 : Nat → Int) (hn : k + 1 ≤ 1000000) : CallAt Tryz.prog 57 [slT 0 4 (k + 1), fnA 58] (skH (k + 1) g0 g1 g2 g3) (slO 1 1 (k + 1)) (hpT [⟨some 0, k + 1, skC g0 g1 g2 g3⟩] [] [intT (k + 1) g3]) := by
  refine call_base reK_ok (c := bodyOf Tryz.f57) (fn := Tryz.f57) Tryz.func57 (by kernel_rfl) (by kernel_rfl) (false, false) 1 [1, 5, 8, 9, 10] [4] (sB := mhB (k + 1) g0 g1 g2 g3) (by kernel_rfl) (mhO_is (k + 1) g0 g1 g2 g3) ?_
  refine (sk_stop _ true [] [4] (mh_loop (k + 1) g0 g1 g2 g3 hn) fun q hq => ?_).all
  subst hq
  exact leads_leaf (show _ = mhP (k + 1) g0 g1 g2 g3 (.exit 0, mhX (k + 1) g0 g1 g2 g3 (k + 1)) by delta mhP; rfl) (mhP_is (k + 1) g0 g1 g2 g3 k) (cutF_dn (mh_left g0 g1 g2 g3 k))
def mhF : FT
  | [], [], [], [⟨some _, k + 1, [.int .i64 _, .int .i64 _, .int .i64 _, .int .i64 g3]⟩] => .need (Nat.ble (k + 1) 1000000) (.leaf (slO 1 1 (k + 1), [intT (k + 1) g3]))
  | _, _, _, _ => .fail 704
def mhSp : Spec := fun args h => specT [(false, [.t skyD]), (false, [.fn 58])] [] mhF args h
theorem mh_ok : SpecOk Tryz.prog 57 mhSp := by
  refine specT_ok rfl (by decide) fun l m n ts v news hl hm hn ht hnil hF => ?_
  unfold mhF at hF
  split at hF
  · rename_i id k g0 g1 g2 g3
    obtain ⟨hok, hF⟩ := Tree.need_some hF
    simp only [Tree.run, Option.some.injEq, Prod.mk.injEq] at hF
    obtain ⟨rfl, rfl⟩ := hF
    exact mh_call k g0 g1 g2 g3 (Nat.le_of_ble_eq_true hok)
  · cases hF

/-! ### slices.Max -/
def mxU (z : Nat → Int) : Nat → Int
  | 0 => z 0
  | r + 1 => max2 (mxU z r) (z (r + 1))
theorem mxU_ge (z : Nat → Int) : ∀ r k, k ≤ r → z k ≤ mxU z r
  | 0, k, h => by rw [Nat.le_zero.1 h]; exact Int.le_refl _
  | r + 1, k, h => by
    unfold mxU max2
    rcases Nat.lt_or_eq_of_le h with h1 | h1
    · have := mxU_ge z r k (by omega)
      split <;> omega
    · subst h1
      split <;> omega
theorem mxU_in (z : Nat → Int) : ∀ r, ∃ k, k ≤ r ∧ mxU z r = z k
  | 0 => ⟨0, Nat.le_refl _, rfl⟩
  | r + 1 => by
    obtain ⟨k, h1, h2⟩ := mxU_in z r
    unfold mxU max2
    split
    · exact ⟨r + 1, Nat.le_refl _, rfl⟩
    · exact ⟨k, by omega, h2⟩
section
variable (n : Nat) (z : Nat → Int)
def maX (a : Int) : St := inN n z 25 [(3, int a)]
def maS (a : Int) (k : Nat) : SkX := .node (decide ((k : Int) < (n : Int))) (.need (kB n k) (.need (Nat.blt (ixN k) n) (.leaf (.normal, maH n z (max2 a (z (ixN k))) (IntKind.i64.wrap ((k : Int) + 1)))))) (.leaf (.exit 0, maX n z a))
theorem ma_into (a : Int) (k : Nat) : maT n z a k = into (maT n z a k) (maS n z a k) := by kernel_rfl
theorem ma_fits (a : Int) (k : Nat) : fits (maT n z a k) (maS n z a k) = true := by kernel_rfl
end
theorem ma_loop (m : Nat) (z : Nat → Int) (hn : m ≤ 1000000) : ComesF Tryz.prog (.loop (loopF Tryz.f60)) (maB (m + 1) z) (maH (m + 1) z (mxU z 0) ((0 + 1 : Nat) : Int)) fun q => q = (.exit 0, maX (m + 1) z (mxU z m)) := by
  refine loop_count reK_ok rfl [0, 3, 4] [3] (fun r => maH (m + 1) z (mxU z r) ((r + 1 : Nat) : Int)) (fun _ => (.exit 0, maX (m + 1) z (mxU z m))) m (fun r => maT (m + 1) z (mxU z r) (r + 1)) (fun r => maS (m + 1) z (mxU z r) (r + 1)) (fun r => by delta maT; rfl) (fun r => ma_into _ _ _ _) (fun r => ma_fits _ _ _ _) (fun r hr => ?_) ?_
  · obtain ⟨e1, e2, e3⟩ := rnd_lt (show r + 1 < m + 1 by omega)
    unfold maS
    refine sk_yes e1 (sk_need e2 (sk_need e3 (sk_leaf (rnd_next ?_ rfl))))
    rw [wrap_succ (by omega), show ixN (r + 1) = r + 1 from idx_nat _]
    exact St.Le.refl _
  · unfold maS
    exact sk_no (rnd_end (m + 1)) (sk_leaf rfl)
theorem maO_into (m : Nat) (z : Nat → Int) : maO (m + 1) z = into (maO (m + 1) z) (.ff (.need (zB (m + 1)) (.need (Nat.blt z0N (m + 1)) (.leaf (.inr (pathF Tryz.f60, maH (m + 1) z (z z0N) 1)))))) := by kernel_rfl
theorem maO_fits (m : Nat) (z : Nat → Int) : fits (maO (m + 1) z) (.ff (.need (zB (m + 1)) (.need (Nat.blt z0N (m + 1)) (.leaf (.inr (pathF Tryz.f60, maH (m + 1) z (z z0N) 1)))))) = true := by kernel_rfl
theorem maP_is (n : Nat) (z : Nat → Int) (a : Int) : maP n z (.exit 0, maX n z a) = .leaf (.inl (.ret, inN n z 25 [(2, int a)])) := by kernel_rfl
theorem ma_left (n : Nat) (z : Nat → Int) (a : Int) : Left2 Tryz.prog Tryz.f60 (inH n z) (int a) (inH n z) (.ret, inN n z 25 [(2, int a)]) := left_of (b := true) (by kernel_rfl)
theorem ma_call (m : Nat) (z : Nat → Int) (hn : m + 1 ≤ 1000000) : CallAt Tryz.prog 60 [slT 0 1 (m + 1)] (inH (m + 1) z) (int (mxU z m)) (inH (m + 1) z) := by
  refine call_baseS reK_ok (c := bodyOf Tryz.f60) (fn := Tryz.f60) Tryz.func60 (by kernel_rfl) (by kernel_rfl) (false, false) 1 [0, 3, 4] [2] (sB := maB (m + 1) z) (by kernel_rfl) (t := maO (m + 1) z) (by delta maO; rfl) (maO_into m z) (maO_fits m z) ?_
  obtain ⟨_, _, _, _, l5, l6⟩ := lN_eq (n := m + 1) (by omega) (by omega)
  refine sk_ff (sk_need l5 (sk_need l6 (sk_stop _ true [] [2] (ma_loop m z (by omega)) fun q hq => ?_)))
  subst hq
  exact leads_leaf (show _ = maP (m + 1) z (.exit 0, maX (m + 1) z (mxU z m)) by delta maP; rfl) (maP_is (m + 1) z (mxU z m)) (cutF_dn (ma_left (m + 1) z (mxU z m)))
def intD : List Col := [.int .i64 fun _ => 0]
def maF : FT
  | [], [], [], [⟨some _, m + 1, [.int .i64 z]⟩] => .need (Nat.ble (m + 1) 1000000) (.leaf (int (mxU z m), []))
  | _, _, _, _ => .fail 705
def maSp : Spec := fun args h => specT [(false, [.t intD])] [] maF args h
theorem ma_ok : SpecOk Tryz.prog 60 maSp := by
  refine specT_ok rfl (by decide) fun l m n ts v news hl hm hn ht hnil hF => ?_
  unfold maF at hF
  split at hF
  · rename_i id m z
    obtain ⟨hok, hF⟩ := Tree.need_some hF
    simp only [Tree.run, Option.some.injEq, Prod.mk.injEq] at hF
    obtain ⟨rfl, rfl⟩ := hF
    exact ma_call m z (Nat.le_of_ble_eq_true hok)
  · cases hF

/-! ### slices.Index -/
def idI (z : Nat → Int) (v : Int) : Nat → Nat → Nat
  | 0, k => k
  | m + 1, k => match v == z k with
    | true => k
    | false => idI z v m (k + 1)
theorem idI_spec (z : Nat → Int) (v : Int) : ∀ (m k : Nat), k ≤ idI z v m k ∧ (idI z v m k < k + m → z (idI z v m k) = v) ∧ ((∃ j, k ≤ j ∧ j < k + m ∧ z j = v) → idI z v m k < k + m)
  | 0, k => ⟨Nat.le_refl _, fun h => by have h : k < k + 0 := h; omega, fun ⟨j, h1, h2, _⟩ => by omega⟩
  | m + 1, k => by
    obtain ⟨a1, a2, a3⟩ := idI_spec z v m (k + 1)
    unfold idI
    cases h : v == z k with
    | true => exact ⟨Nat.le_refl _, fun _ => (by simpa using h : v = z k).symm, fun _ => show k < k + (m + 1) by omega⟩
    | false =>
      have hne : ¬ v = z k := by simpa using h
      simp only []
      refine ⟨by omega, fun h1 => a2 (by omega), fun ⟨j, h1, h2, h3⟩ => ?_⟩
      have : j ≠ k := fun e => by subst e; exact hne h3.symm
      have := a3 ⟨j, by omega, by omega, h3⟩
      omega
section
variable (n : Nat) (z : Nat → Int) (v : Int)
def idX (a : Int) : St := inN n z 19 [(4, int a)]
def idS (k : Nat) : SkX := .node (decide ((k : Int) < (n : Int))) (.need (kB n k) (.need (Nat.blt (ixN k) n) (.node (v == z (ixN k)) (.leaf (.ret, idX n z (k : Int))) (.leaf (.normal, idH n z v (IntKind.i64.wrap ((k : Int) + 1))))))) (.leaf (.exit 0, idX n z 0))
theorem id_into (k : Nat) : idT n z v k = into (idT n z v k) (idS n z v k) := by kernel_rfl
theorem id_fits (k : Nat) : fits (idT n z v k) (idS n z v k) = true := by kernel_rfl
def idFin (k : Nat) : X × St := match Nat.blt (idI z v (n - k) k) n with
  | true => (.ret, idX n z ((idI z v (n - k) k : Nat) : Int))
  | false => (.exit 0, idX n z 0)
theorem id_loop (hn : n ≤ 1000000) : ComesF Tryz.prog (.loop (loopF Tryz.f59)) (idB n z v) (idH n z v ((0 : Nat) : Int)) fun q => q = idFin n z v 0 := by
  refine loop_count reK_ok rfl [0, 1, 4, 7, 8] [4] (fun k => idH n z v (k : Int)) (idFin n z v) n (idT n z v) (idS n z v) (fun k => by delta idT; rfl) (id_into n z v) (id_fits n z v) (fun k hk => ?_) ?_
  · obtain ⟨e1, e2, e3⟩ := rnd_lt hk
    have hat : idI z v (n - k) k = match v == z k with | true => k | false => idI z v (n - (k + 1)) (k + 1) := by
      rw [show n - k = (n - (k + 1)) + 1 by omega]; rfl
    unfold idS
    rw [show ixN k = k from idx_nat _]
    refine sk_yes e1 (sk_need e2 (sk_need (by rw [Nat.blt_eq]; exact hk) (sk_either (fun h => sk_leaf (rnd_ret ?_)) fun h => sk_leaf (rnd_next ?_ ?_))))
    · unfold idFin
      rw [h] at hat
      simp only [] at hat
      rw [hat, show Nat.blt k n = true by rw [Nat.blt_eq]; exact hk]
    · rw [wrap_succ (by omega)]; exact St.Le.refl _
    · unfold idFin
      rw [h] at hat
      simp only [] at hat
      rw [hat]
  · unfold idS
    refine sk_no (rnd_end n) (sk_leaf (show _ = idFin n z v n from ?_))
    unfold idFin
    rw [Nat.sub_self]
    show _ = match Nat.blt n n with | true => _ | false => _
    rw [show Nat.blt n n = false by rw [← Bool.not_eq_true, Nat.blt_eq]; omega]
theorem idO_is : idO n z v = .leaf (.inr (pathF Tryz.f59, idH n z v ((0 : Nat) : Int))) := by kernel_rfl
theorem idP_is (a : Int) : idP n z v (.ret, idX n z a) = .leaf (.inl (.ret, idX n z a)) := by kernel_rfl
theorem id_left (a : Int) : Left2 Tryz.prog Tryz.f59 (inH n z) (int a) (inH n z) (.ret, idX n z a) := left_of (b := true) (by kernel_rfl)
theorem id_call (hn : n ≤ 1000000) (h : idI z v n 0 < n) : CallAt Tryz.prog 59 [slT 0 1 n, int v] (inH n z) (int ((idI z v n 0 : Nat) : Int)) (inH n z) := by
  refine call_base reK_ok (c := bodyOf Tryz.f59) (fn := Tryz.f59) Tryz.func59 (by kernel_rfl) (by kernel_rfl) (false, false) 1 [0, 1, 4, 7, 8] [4] (sB := idB n z v) (by kernel_rfl) (idO_is n z v) ?_
  refine (sk_stop _ true [] [4] (id_loop n z v hn) fun q hq => ?_).all
  subst hq
  have hf : idFin n z v 0 = (.ret, idX n z ((idI z v n 0 : Nat) : Int)) := by
    unfold idFin
    rw [Nat.sub_zero, show Nat.blt (idI z v n 0) n = true by rw [Nat.blt_eq]; exact h]
  rw [hf]
  exact leads_leaf (show _ = idP n z v (.ret, idX n z ((idI z v n 0 : Nat) : Int)) by delta idP; rfl) (idP_is n z v _) (cutF_dn (id_left n z _))
end
def idF : FT
  | [v], [], [], [⟨some _, n, [.int .i64 z]⟩] => .need (Nat.ble n 1000000 && Nat.blt (idI z v n 0) n) (.leaf (int ((idI z v n 0 : Nat) : Int), []))
  | _, _, _, _ => .fail 706
def idSp : Spec := fun args h => specT [(false, [.t intD]), (false, [.i])] [] idF args h
theorem id_ok : SpecOk Tryz.prog 59 idSp := by
  refine specT_ok rfl (by decide) fun l m n ts v news hl hm hn ht hnil hF => ?_
  unfold idF at hF
  split at hF
  · rename_i v id n z
    obtain ⟨hok, hF⟩ := Tree.need_some hF
    rw [Bool.and_eq_true, Nat.blt_eq] at hok
    simp only [Tree.run, Option.some.injEq, Prod.mk.injEq] at hF
    obtain ⟨rfl, rfl⟩ := hF
    exact id_call n z v (Nat.le_of_ble_eq_true hok.1) hok.2
  · cases hF
/-! ### Highest -/
def hiN (n : Nat) (z : Nat → Int) : Int := ((idI z (mxU z (n - 1)) n 0 : Nat) : Int)
theorem hi_spec {n : Nat} (hn : 1 ≤ n) (z : Nat → Int) : idI z (mxU z (n - 1)) n 0 < n ∧ ∀ k, k < n → z k ≤ z (idI z (mxU z (n - 1)) n 0) := by
  obtain ⟨_, a2, a3⟩ := idI_spec z (mxU z (n - 1)) n 0
  obtain ⟨j, j1, j2⟩ := mxU_in z (n - 1)
  have h1 := a3 ⟨j, Nat.zero_le _, by omega, j2.symm⟩
  refine ⟨by omega, fun k hk => ?_⟩
  rw [a2 h1]
  exact mxU_ge z (n - 1) k (by omega)
def tbH (E : FE) : List (FuncId × Spec) := (59, idSp) :: (60, maSp) :: (57, mhSp) :: (54, ckSp E) :: tbK
theorem tbH_ok : TabOk Tryz.prog (tabOf (tbH skyE)) := tab_cons (tab_cons (tab_cons (tab_cons tbK_ok pk_ok) mh_ok) ma_ok) id_ok
noncomputable def hiT (E : FE) (nm : ByteArray) (m : Nat) (g0 g1 g2 g3 : Nat → Int) : Tree ((Bool × A × Hp) ⊕ (List Bool × St)) := preA Tryz.prog (tabOf (tbH E)) Tryz.f12 [skyA nm (m + 1)] (skH (m + 1) g0 g1 g2 g3) (false, false)
def hiR (a e : Int) : A := .tup [(false, [ci a]), (false, [ci e])]
def hiS (E : FE) (nm : ByteArray) (m : Nat) (g0 g1 g2 g3 : Nat → Int) : SkL := .need (okN (m + 1)) (.node (E nm (m + 1) g0 g1 g2 g3 != 0) (.leaf (.inl (true, hiR 0 (E nm (m + 1) g0 g1 g2 g3), skH (m + 1) g0 g1 g2 g3)))
  (.need (okN (m + 1)) (.need (Nat.ble (m + 1) 1000000) (.need (okN (m + 1)) (.need (Nat.ble (m + 1) 1000000) (.need (okN (m + 1)) (.need (Nat.ble (m + 1) 1000000 && Nat.blt (idI g3 (mxU g3 m) (m + 1) 0) (m + 1)) (.leaf (.inl (true, hiR (hiN (m + 1) g3) 0, skH (m + 1) g0 g1 g2 g3))))))))))
theorem hi_into (E : FE) (nm : ByteArray) (m : Nat) (g0 g1 g2 g3 : Nat → Int) : hiT E nm m g0 g1 g2 g3 = into (hiT E nm m g0 g1 g2 g3) (hiS E nm m g0 g1 g2 g3) := by kernel_rfl
theorem hi_fits (E : FE) (nm : ByteArray) (m : Nat) (g0 g1 g2 g3 : Nat → Int) : fits (hiT E nm m g0 g1 g2 g3) (hiS E nm m g0 g1 g2 g3) = true := by kernel_rfl
theorem hi_call (nm : ByteArray) (m : Nat) (g0 g1 g2 g3 : Nat → Int) (hE : skyE nm (m + 1) g0 g1 g2 g3 = 0) : CallAt Tryz.prog 12 [skyA nm (m + 1)] (skH (m + 1) g0 g1 g2 g3) (hiR (hiN (m + 1) g3) 0) (skH (m + 1) g0 g1 g2 g3) := by
  have hn := (sky_ok hE).1.few
  obtain ⟨h1, _⟩ := hi_spec (n := m + 1) (by omega) g3
  refine call_sk tbH_ok Tryz.func12 (by kernel_rfl) (false, false) (by kernel_rfl) (S := hiS skyE nm m g0 g1 g2 g3) (hi_into skyE nm m g0 g1 g2 g3) (hi_fits skyE nm m g0 g1 g2 g3) (SkLeads.all ?_)
  have hb : Nat.ble (m + 1) 1000000 = true := by rw [Nat.ble_eq]; omega
  have h1 : idI g3 (mxU g3 m) (m + 1) 0 < m + 1 := h1
  refine sk_need (okN_ok _) (sk_no (by rw [hE]; rfl) (sk_need (okN_ok _) (sk_need hb (sk_need (okN_ok _) (sk_need hb (sk_need (okN_ok _) (sk_need ?_ (sk_leaf rfl))))))))
  rw [hb, Bool.true_and, Nat.blt_eq]
  exact h1
def hiF (E : FE) (vh : Nat → (Nat → Int) → Int) : FT
  | [], [], [nm], [⟨some _, m + 1, [.int .i64 g0, .int .i64 g1, .int .i64 g2, .int .i64 g3]⟩] => .need (E nm (m + 1) g0 g1 g2 g3 == 0) (.leaf (hiR (vh (m + 1) g3) 0, []))
  | _, _, _, _ => .fail 707
def hiSp (E : FE) (vh : Nat → (Nat → Int) → Int) : Spec := fun args h => specT [(true, [.s, .t skyD])] [] (hiF E vh) args h
theorem hi_ok : SpecOk Tryz.prog 12 (hiSp skyE hiN) := by
  refine specT_ok rfl (by decide) fun l m n ts v news hl hm hn ht hnil hF => ?_
  unfold hiF at hF
  split at hF
  · rename_i nm id m g0 g1 g2 g3
    obtain ⟨hok, hF⟩ := Tree.need_some hF
    simp only [Tree.run, Option.some.injEq, Prod.mk.injEq] at hF
    obtain ⟨rfl, rfl⟩ := hF
    exact hi_call nm m g0 g1 g2 g3 (by simpa using hok)
  · cases hF
end Go.Ev
