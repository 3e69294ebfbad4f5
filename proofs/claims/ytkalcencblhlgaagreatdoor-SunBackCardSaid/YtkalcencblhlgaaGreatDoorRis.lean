/- Risen; a sky's copy. Conditions: as the entries say. -/
import Derived.Test.YtkalcencblhlgaaGreatDoorAtE
namespace Go.Ev
open Go Go.Proofs
set_option maxRecDepth 100000
section
variable (E : FE) (vx vy vz : FV) (nm : ByteArray) (n : Nat) (g0 g1 g2 g3 : Nat → Int) (t : Int)
end
section
variable (E : FE) (vx vy vz : FV) (nm : ByteArray) (n : Nat) (g0 g1 g2 g3 : Nat → Int) (t : Int)
end
noncomputable def apN (et : TypeId) (k : Nat) : Bool := Nat.ble (k + 1) (k + 1) && Nat.blt ((k + 1 + 1) * ((Tryz.prog.info? et).map (·.bytes)).getD 0) 140737488355328 && Nat.ble (k + 1 + 1) 9223372036854775807
theorem apN_ok {et : TypeId} {k : Nat} (he : ((Tryz.prog.info? et).map (·.bytes)).getD 0 ≤ 64) (hk : k ≤ 1000000) : apN et k = true := by
 unfold apN
 rw [ble_self]
 generalize ((Tryz.prog.info? et).map (·.bytes)).getD 0 = b at he
 have h1 : Nat.blt ((k + 1 + 1) * b) 140737488355328 = true := by
  rw [Nat.blt_eq]
  have : (k + 1 + 1) * b ≤ 2000000 * 64 := Nat.mul_le_mul (by omega) he
  omega
 have h2 : Nat.ble (k + 1 + 1) 9223372036854775807 = true := by rw [Nat.ble_eq]; omega
 rw [h1, h2]; rfl
def putK (g : Nat → Int) (k : Nat) : Nat → Int := putF g (k + 1) (g (ixN (k + 1)))
theorem putK_eq (g : Nat → Int) (k : Nat) : putK g k = g := by
 unfold putK
 rw [show ixN (k + 1) = k + 1 from idx_nat _]
 exact putF_self _ _
theorem four_rows {x0 x1 x2 x3 : Int} {g0 g1 g2 g3 : Nat → Int} (h0 : x0 = g0 0) (h1 : x1 = g1 0) (h2 : x2 = g2 0) (h3 : x3 = g3 0) {e : TypeId} : ∀ (E : Env) (w : World) (p : Nat × Nat × Nat), blkIs E w p ⟨false, e, .flat [ci x0, ci x1, ci x2, ci x3]⟩ → blkIs E w p ⟨false, e, .rows 1 (skC g0 g1 g2 g3)⟩ := by
 subst h0; subst h1; subst h2; subst h3
 refine blk_body rfl (fun cs e => by cases e) fun E arr hh => rows_one rfl (fun j c col h1 h2 => ?_) hh
 match j, h1, h2 with
 | 0, h1, h2 => injection h1 with h1; injection h2 with h2; subst h1; subst h2; rfl
 | 1, h1, h2 => injection h1 with h1; injection h2 with h2; subst h1; subst h2; rfl
 | 2, h1, h2 => injection h1 with h1; injection h2 with h2; subst h1; subst h2; rfl
 | 3, h1, h2 => injection h1 with h1; injection h2 with h2; subst h1; subst h2; rfl
section
variable (nm : ByteArray) (n : Nat) (g0 g1 g2 g3 : Nat → Int)
def gvB : St := baseB 24 [skyA nm n] (skH n g0 g1 g2 g3)
def gvN (env : List (Nat × A)) (news : List Blk) : St := skN 24 n g0 g1 g2 g3 env news
def gvW (c : C) (tb : List Blk) : List Blk := [⟨false, 40, .flat [cs ⟨#[]⟩, nilC]⟩, ⟨false, 40, .flat [cs nm, c]⟩] ++ tb
def gvH : Nat → St
 | 0 => gvN n g0 g1 g2 g3 [(2, pt 1), (3, pt 2), (10, slT 0 4 n), (11, int n), (12, int ((0 : Nat) : Int))] (gvW nm nilC [])
 | k + 1 => gvN n g0 g1 g2 g3 [(2, pt 1), (3, pt 2), (10, slT 0 4 n), (11, int n), (12, int ((k + 1 : Nat) : Int))] (gvW nm (slC true 3 4 (k + 1)) [⟨false, 113, .rows (k + 1) (skC g0 g1 g2 g3)⟩])
noncomputable def gvT (k : Nat) : Tree (X × St) := (reK (loopF Tryz.f11) (gvH nm n g0 g1 g2 g3 k)).bind (canonT [2, 3, 10, 11, 12] [2, 3] (gvB nm n g0 g1 g2 g3))
noncomputable def gvO : Tree ((X × St) ⊕ (List Bool × St)) := evO reK (bodyOf Tryz.f11) [2, 3, 10, 11, 12] [2] (gvB nm n g0 g1 g2 g3)
def gvX : Nat → St
 | 0 => gvN n g0 g1 g2 g3 [(2, pt 1), (3, pt 2)] (gvW nm nilC [])
 | k + 1 => gvN n g0 g1 g2 g3 [(2, pt 1), (3, pt 2)] (gvW nm (slC true 3 4 (k + 1)) [⟨false, 113, .rows (k + 1) (skC g0 g1 g2 g3)⟩])
noncomputable def gvP (q : X × St) : Tree ((X × St) ⊕ (List Bool × St)) := evO2 reK true (bodyOf Tryz.f11) (pathF Tryz.f11) [] [2] (gvB nm n g0 g1 g2 g3) q
def gvE (i : Int) : List (Nat × A) := [(2, pt 1), (3, pt 2), (10, slT 0 4 n), (11, int n), (12, int i)]
noncomputable def gvS : Nat → SkX
 | 0 => .node (decide (((0 : Nat) : Int) < (n : Int))) (.need (kB n 0) (.need (Nat.blt (ixN 0) n) (need3 (Nat.blt (ixN 0) n) (.leaf (.normal, gvN n g0 g1 g2 g3 (gvE n (IntKind.i64.wrap (((0 : Nat) : Int) + 1))) (gvW nm (slC true 3 4 1) [⟨false, 113, .flat [ci (g0 (ixN 0)), ci (g1 (ixN 0)), ci (g2 (ixN 0)), ci (g3 (ixN 0))]⟩]))))))
  (.leaf (.exit 0, gvX nm n g0 g1 g2 g3 0))
 | k + 1 => .node (decide (((k + 1 : Nat) : Int) < (n : Int))) (.need (kB n (k + 1)) (.need (Nat.blt (ixN (k + 1)) n) (need3 (Nat.blt (ixN (k + 1)) n) (.need (apN 113 k) (.leaf (.normal, gvN n g0 g1 g2 g3 (gvE n (IntKind.i64.wrap (((k + 1 : Nat) : Int) + 1))) (gvW nm (slC true 3 4 (k + 1 + 1)) [⟨false, 113, .rows (k + 1 + 1) (skC (putK g0 k) (putK g1 k) (putK g2 k) (putK g3 k))⟩])))))))
  (.leaf (.exit 0, gvX nm n g0 g1 g2 g3 (k + 1)))
theorem gv_into : ∀ k, gvT nm n g0 g1 g2 g3 k = into (gvT nm n g0 g1 g2 g3 k) (gvS nm n g0 g1 g2 g3 k)
 | 0 => by kernel_rfl
 | k + 1 => by kernel_rfl
theorem gv_fits : ∀ k, fits (gvT nm n g0 g1 g2 g3 k) (gvS nm n g0 g1 g2 g3 k) = true
 | 0 => by kernel_rfl
 | k + 1 => by kernel_rfl
theorem gv_step (hn : n ≤ 1000000) (k : Nat) (hk : k < n) : SkLeads (Rnd (gvH nm n g0 g1 g2 g3) (fun _ => (.exit 0, gvX nm n g0 g1 g2 g3 n)) k) (gvS nm n g0 g1 g2 g3 k) := by
 obtain ⟨e1, e2, e3⟩ := rnd_lt hk
 cases k with
 | zero =>
  unfold gvS
  refine sk_yes e1 (sk_need e2 (sk_need e3 (need3_ok e3 (sk_leaf (rnd_next ?_ rfl)))))
  rw [wrap_succ (by omega)]
  exact le_news (show 1 + 3 ≤ lim by decide) ⟨⟨rfl, fun _ _ _ h => h⟩, ⟨rfl, fun _ _ _ h => h⟩, ⟨rfl, four_rows (by rw [show ixN 0 = 0 from idx_nat 0]) (by rw [show ixN 0 = 0 from idx_nat 0]) (by rw [show ixN 0 = 0 from idx_nat 0]) (by rw [show ixN 0 = 0 from idx_nat 0])⟩, trivial⟩
 | succ k =>
  unfold gvS
  have d0 : ((Tryz.prog.info? 113).map (·.bytes)).getD 0 = 32 := by kernel_rfl
  refine sk_yes e1 (sk_need e2 (sk_need e3 (need3_ok e3 (sk_need (apN_ok (by rw [d0]; decide) (by omega)) (sk_leaf (rnd_next ?_ rfl))))))
  rw [wrap_succ (by omega), putK_eq, putK_eq, putK_eq, putK_eq]
  exact St.Le.refl _
theorem gv_last : SkLeads (RndEnd (.exit 0, gvX nm n g0 g1 g2 g3 n)) (gvS nm n g0 g1 g2 g3 n) := by
 cases n with
 | zero => unfold gvS; exact sk_no (rnd_end 0) (sk_leaf rfl)
 | succ k => unfold gvS; exact sk_no (rnd_end (k + 1)) (sk_leaf rfl)
theorem gv_loop (hn : n ≤ 1000000) : ComesF Tryz.prog (.loop (loopF Tryz.f11)) (gvB nm n g0 g1 g2 g3) (gvH nm n g0 g1 g2 g3 0) fun q => q = (.exit 0, gvX nm n g0 g1 g2 g3 n) :=
 loop_count reK_ok rfl [2, 3, 10, 11, 12] [2, 3] (gvH nm n g0 g1 g2 g3) (fun _ => (.exit 0, gvX nm n g0 g1 g2 g3 n)) n (gvT nm n g0 g1 g2 g3) (gvS nm n g0 g1 g2 g3) (fun k => by delta gvT; rfl) (gv_into nm n g0 g1 g2 g3) (gv_fits nm n g0 g1 g2 g3) (gv_step nm n g0 g1 g2 g3 hn) (gv_last nm n g0 g1 g2 g3)
def gvR : Nat → St
 | 0 => gvN n g0 g1 g2 g3 [(2, pt 1)] [⟨false, 40, .flat [cs nm, nilC]⟩]
 | k + 1 => gvN n g0 g1 g2 g3 [(2, pt 1)] [⟨false, 40, .flat [cs nm, slC true 2 4 (k + 1)]⟩, ⟨false, 113, .rows (k + 1) (skC g0 g1 g2 g3)⟩]
theorem gvO_is : gvO nm n g0 g1 g2 g3 = .leaf (.inr (pathF Tryz.f11, gvH nm n g0 g1 g2 g3 0)) := by kernel_rfl
theorem gvP_is : ∀ k, gvP nm n g0 g1 g2 g3 (.exit 0, gvX nm n g0 g1 g2 g3 k) = .leaf (.inl (.ret, gvR nm n g0 g1 g2 g3 k))
 | 0 => by kernel_rfl
 | k + 1 => by kernel_rfl
end
def resS : Nat → C
 | 0 => nilC
 | k + 1 => slC true 2 4 (k + 1)
def resT (es e : TypeId) (nm : ByteArray) (cols : List Col) : Nat → List Blk
 | 0 => []
 | k + 1 => [⟨false, es, .flat [cs nm, slC true 2 4 (k + 1)]⟩, ⟨false, e, .rows (k + 1) cols⟩]
theorem gv_left (nm : ByteArray) (g0 g1 g2 g3 : Nat → Int) : ∀ n, Left2 Tryz.prog Tryz.f11 (skH n g0 g1 g2 g3) (.agg [cs nm, resS n]) (hpT [⟨some 0, n, skC g0 g1 g2 g3⟩] [] (resT 40 113 nm (skC g0 g1 g2 g3) n)) (.ret, gvR nm n g0 g1 g2 g3 n)
 | 0 => left_of (b := true) (by kernel_rfl)
 | k + 1 => left_of (b := false) (by kernel_rfl)
theorem gv_call (nm : ByteArray) (n : Nat) (g0 g1 g2 g3 : Nat → Int) (hn : n ≤ 1000000) : CallAt Tryz.prog 11 [skyA nm n] (skH n g0 g1 g2 g3) (.agg [cs nm, resS n]) (hpT [⟨some 0, n, skC g0 g1 g2 g3⟩] [] (resT 40 113 nm (skC g0 g1 g2 g3) n)) := by
 refine call_base reK_ok (c := bodyOf Tryz.f11) (fn := Tryz.f11) Tryz.func11 (by kernel_rfl) (by kernel_rfl) (false, false) 1 [2, 3, 10, 11, 12] [2] (sB := gvB nm n g0 g1 g2 g3) (by kernel_rfl) (gvO_is nm n g0 g1 g2 g3) ?_
 refine (sk_stop _ true [] [2] (gv_loop nm n g0 g1 g2 g3 hn) fun q hq => ?_).all
 subst hq
 exact leads_leaf (show _ = gvP nm n g0 g1 g2 g3 (.exit 0, gvX nm n g0 g1 g2 g3 n) by delta gvP; rfl) (gvP_is nm n g0 g1 g2 g3 n) (cutF_dn (gv_left nm g0 g1 g2 g3 n))
theorem gv_none (nm : ByteArray) (g0 g1 g2 g3 : Nat → Int) : CallAt Tryz.prog 11 [.agg [cs nm, nilC]] (hpT [⟨none, 0, skC g0 g1 g2 g3⟩] [] []) (.agg [cs nm, nilC]) (hpT [⟨none, 0, skC g0 g1 g2 g3⟩] [] []) := call_ev tbK_ok (by kernel_rfl)
def gvF : FT
 | [], [], [nm], [⟨_, n, [.int .i64 g0, .int .i64 g1, .int .i64 g2, .int .i64 g3]⟩] => .need (Nat.ble n 1000000) (.node (Nat.beq n 0) (.leaf (.agg [cs nm, nilC], [])) (.leaf (.agg [cs nm, slC true 2 4 n], [⟨false, 40, .flat [cs nm, slC true 2 4 n]⟩, ⟨false, 113, .rows n (skC g0 g1 g2 g3)⟩])))
 | _, _, _, _ => .fail 703
def gvSp : Spec := fun args h => specT [(true, [.s, .t skyD])] [] gvF args h
theorem gv_ok : SpecOk Tryz.prog 11 gvSp := by
 refine specT_ok rfl (by decide) fun l m n ts v news hl hm hn ht hnil hF => ?_
 unfold gvF at hF
 split at hF
 ·rename_i nm id n g0 g1 g2 g3
  obtain ⟨hok, hF⟩ := Tree.need_some hF
  have hok := Nat.le_of_ble_eq_true hok
  have hv : v = .agg [cs nm, resS n] ∧ news = resT 40 113 nm (skC g0 g1 g2 g3) n := by
   cases n <;> (simp only [Tree.run, Nat.beq, Option.some.injEq, Prod.mk.injEq] at hF; obtain ⟨rfl, rfl⟩ := hF; exact ⟨rfl, rfl⟩)
  obtain ⟨rfl, rfl⟩ := hv
  cases id with
  | none =>
   have h0 : n = 0 := hnil _ (List.mem_singleton.2 rfl) rfl
   subst h0
   exact gv_none nm g0 g1 g2 g3
  | some id => exact gv_call nm n g0 g1 g2 g3 hok
 ·cases hF
end Go.Ev
