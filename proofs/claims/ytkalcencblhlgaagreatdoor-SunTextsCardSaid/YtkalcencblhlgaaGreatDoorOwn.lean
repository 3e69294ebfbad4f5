/- own: a sky of the program, copied as one of the reference. Conditions: none. (Printed by gen_own.py from XRis.) -/
import Derived.Test.YtkalcencblhlgaaGreatDoorRis
namespace Go.Ev
open Go Go.Proofs
set_option maxRecDepth 100000
section
variable (nm : ByteArray) (n : Nat) (g0 g1 g2 g3 : Nat → Int)
def owB : St := baseB 24 [skyA nm n] (skH n g0 g1 g2 g3)
def owN (env : List (Nat × A)) (news : List Blk) : St := skN 24 n g0 g1 g2 g3 env news
def owW (c : C) (tb : List Blk) : List Blk := [⟨false, 24, .flat [cs ⟨#[]⟩, nilC]⟩, ⟨false, 24, .flat [cs nm, c]⟩] ++ tb
def owH : Nat → St
 | 0 => owN n g0 g1 g2 g3 [(2, pt 1), (3, pt 2), (10, slT 0 4 n), (11, int n), (12, int ((0 : Nat) : Int))] (owW nm nilC [])
 | k + 1 => owN n g0 g1 g2 g3 [(2, pt 1), (3, pt 2), (10, slT 0 4 n), (11, int n), (12, int ((k + 1 : Nat) : Int))] (owW nm (slC true 3 4 (k + 1)) [⟨false, 31, .rows (k + 1) (skC g0 g1 g2 g3)⟩])
noncomputable def owT (k : Nat) : Tree (X × St) := (reK (loopF Tryz.f26) (owH nm n g0 g1 g2 g3 k)).bind (canonT [2, 3, 10, 11, 12] [2, 3] (owB nm n g0 g1 g2 g3))
noncomputable def owO : Tree ((X × St) ⊕ (List Bool × St)) := evO reK (bodyOf Tryz.f26) [2, 3, 10, 11, 12] [2] (owB nm n g0 g1 g2 g3)
def owX : Nat → St
 | 0 => owN n g0 g1 g2 g3 [(2, pt 1), (3, pt 2)] (owW nm nilC [])
 | k + 1 => owN n g0 g1 g2 g3 [(2, pt 1), (3, pt 2)] (owW nm (slC true 3 4 (k + 1)) [⟨false, 31, .rows (k + 1) (skC g0 g1 g2 g3)⟩])
noncomputable def owP (q : X × St) : Tree ((X × St) ⊕ (List Bool × St)) := evO2 reK true (bodyOf Tryz.f26) (pathF Tryz.f26) [] [2] (owB nm n g0 g1 g2 g3) q
def owE (i : Int) : List (Nat × A) := [(2, pt 1), (3, pt 2), (10, slT 0 4 n), (11, int n), (12, int i)]
noncomputable def owS : Nat → SkX
 | 0 => .node (decide (((0 : Nat) : Int) < (n : Int))) (.need (kB n 0) (.need (Nat.blt (ixN 0) n) (need3 (Nat.blt (ixN 0) n) (.leaf (.normal, owN n g0 g1 g2 g3 (owE n (IntKind.i64.wrap (((0 : Nat) : Int) + 1))) (owW nm (slC true 3 4 1) [⟨false, 31, .flat [ci (g0 (ixN 0)), ci (g1 (ixN 0)), ci (g2 (ixN 0)), ci (g3 (ixN 0))]⟩]))))))
  (.leaf (.exit 0, owX nm n g0 g1 g2 g3 0))
 | k + 1 => .node (decide (((k + 1 : Nat) : Int) < (n : Int))) (.need (kB n (k + 1)) (.need (Nat.blt (ixN (k + 1)) n) (need3 (Nat.blt (ixN (k + 1)) n) (.need (apN 31 k) (.leaf (.normal, owN n g0 g1 g2 g3 (owE n (IntKind.i64.wrap (((k + 1 : Nat) : Int) + 1))) (owW nm (slC true 3 4 (k + 1 + 1)) [⟨false, 31, .rows (k + 1 + 1) (skC (putK g0 k) (putK g1 k) (putK g2 k) (putK g3 k))⟩])))))))
  (.leaf (.exit 0, owX nm n g0 g1 g2 g3 (k + 1)))
theorem ow_into : ∀ k, owT nm n g0 g1 g2 g3 k = into (owT nm n g0 g1 g2 g3 k) (owS nm n g0 g1 g2 g3 k)
 | 0 => by kernel_rfl
 | k + 1 => by kernel_rfl
theorem ow_fits : ∀ k, fits (owT nm n g0 g1 g2 g3 k) (owS nm n g0 g1 g2 g3 k) = true
 | 0 => by kernel_rfl
 | k + 1 => by kernel_rfl
theorem ow_step (hn : n ≤ 1000000) (k : Nat) (hk : k < n) : SkLeads (Rnd (owH nm n g0 g1 g2 g3) (fun _ => (.exit 0, owX nm n g0 g1 g2 g3 n)) k) (owS nm n g0 g1 g2 g3 k) := by
 obtain ⟨e1, e2, e3⟩ := rnd_lt hk
 cases k with
 | zero =>
  unfold owS
  refine sk_yes e1 (sk_need e2 (sk_need e3 (need3_ok e3 (sk_leaf (rnd_next ?_ rfl)))))
  rw [wrap_succ (by omega)]
  exact le_news (show 1 + 3 ≤ lim by decide) ⟨⟨rfl, fun _ _ _ h => h⟩, ⟨rfl, fun _ _ _ h => h⟩, ⟨rfl, four_rows (by rw [show ixN 0 = 0 from idx_nat 0]) (by rw [show ixN 0 = 0 from idx_nat 0]) (by rw [show ixN 0 = 0 from idx_nat 0]) (by rw [show ixN 0 = 0 from idx_nat 0])⟩, trivial⟩
 | succ k =>
  unfold owS
  have d0 : ((Tryz.prog.info? 31).map (·.bytes)).getD 0 = 32 := by kernel_rfl
  refine sk_yes e1 (sk_need e2 (sk_need e3 (need3_ok e3 (sk_need (apN_ok (by rw [d0]; decide) (by omega)) (sk_leaf (rnd_next ?_ rfl))))))
  rw [wrap_succ (by omega), putK_eq, putK_eq, putK_eq, putK_eq]
  exact St.Le.refl _
theorem ow_last : SkLeads (RndEnd (.exit 0, owX nm n g0 g1 g2 g3 n)) (owS nm n g0 g1 g2 g3 n) := by
 cases n with
 | zero => unfold owS; exact sk_no (rnd_end 0) (sk_leaf rfl)
 | succ k => unfold owS; exact sk_no (rnd_end (k + 1)) (sk_leaf rfl)
theorem ow_loop (hn : n ≤ 1000000) : ComesF Tryz.prog (.loop (loopF Tryz.f26)) (owB nm n g0 g1 g2 g3) (owH nm n g0 g1 g2 g3 0) fun q => q = (.exit 0, owX nm n g0 g1 g2 g3 n) :=
 loop_count reK_ok rfl [2, 3, 10, 11, 12] [2, 3] (owH nm n g0 g1 g2 g3) (fun _ => (.exit 0, owX nm n g0 g1 g2 g3 n)) n (owT nm n g0 g1 g2 g3) (owS nm n g0 g1 g2 g3) (fun k => by delta owT; rfl) (ow_into nm n g0 g1 g2 g3) (ow_fits nm n g0 g1 g2 g3) (ow_step nm n g0 g1 g2 g3 hn) (ow_last nm n g0 g1 g2 g3)
def owR : Nat → St
 | 0 => owN n g0 g1 g2 g3 [(2, pt 1)] [⟨false, 24, .flat [cs nm, nilC]⟩]
 | k + 1 => owN n g0 g1 g2 g3 [(2, pt 1)] [⟨false, 24, .flat [cs nm, slC true 2 4 (k + 1)]⟩, ⟨false, 31, .rows (k + 1) (skC g0 g1 g2 g3)⟩]
theorem owO_is : owO nm n g0 g1 g2 g3 = .leaf (.inr (pathF Tryz.f26, owH nm n g0 g1 g2 g3 0)) := by kernel_rfl
theorem owP_is : ∀ k, owP nm n g0 g1 g2 g3 (.exit 0, owX nm n g0 g1 g2 g3 k) = .leaf (.inl (.ret, owR nm n g0 g1 g2 g3 k))
 | 0 => by kernel_rfl
 | k + 1 => by kernel_rfl
end
theorem ow_left (nm : ByteArray) (g0 g1 g2 g3 : Nat → Int) : ∀ n, Left2 Tryz.prog Tryz.f26 (skH n g0 g1 g2 g3) (.agg [cs nm, resS n]) (hpT [⟨some 0, n, skC g0 g1 g2 g3⟩] [] (resT 24 31 nm (skC g0 g1 g2 g3) n)) (.ret, owR nm n g0 g1 g2 g3 n)
 | 0 => left_of (b := true) (by kernel_rfl)
 | k + 1 => left_of (b := false) (by kernel_rfl)
theorem ow_call (nm : ByteArray) (n : Nat) (g0 g1 g2 g3 : Nat → Int) (hn : n ≤ 1000000) : CallAt Tryz.prog 26 [skyA nm n] (skH n g0 g1 g2 g3) (.agg [cs nm, resS n]) (hpT [⟨some 0, n, skC g0 g1 g2 g3⟩] [] (resT 24 31 nm (skC g0 g1 g2 g3) n)) := by
 refine call_base reK_ok (c := bodyOf Tryz.f26) (fn := Tryz.f26) Tryz.func26 (by kernel_rfl) (by kernel_rfl) (false, false) 1 [2, 3, 10, 11, 12] [2] (sB := owB nm n g0 g1 g2 g3) (by kernel_rfl) (owO_is nm n g0 g1 g2 g3) ?_
 refine (sk_stop _ true [] [2] (ow_loop nm n g0 g1 g2 g3 hn) fun q hq => ?_).all
 subst hq
 exact leads_leaf (show _ = owP nm n g0 g1 g2 g3 (.exit 0, owX nm n g0 g1 g2 g3 n) by delta owP; rfl) (owP_is nm n g0 g1 g2 g3 n) (cutF_dn (ow_left nm g0 g1 g2 g3 n))
theorem ow_none (nm : ByteArray) (g0 g1 g2 g3 : Nat → Int) : CallAt Tryz.prog 26 [.agg [cs nm, nilC]] (hpT [⟨none, 0, skC g0 g1 g2 g3⟩] [] []) (.agg [cs nm, nilC]) (hpT [⟨none, 0, skC g0 g1 g2 g3⟩] [] []) := call_ev tbK_ok (by kernel_rfl)
def owF : FT
 | [], [], [nm], [⟨_, n, [.int .i64 g0, .int .i64 g1, .int .i64 g2, .int .i64 g3]⟩] => .need (Nat.ble n 1000000) (.node (Nat.beq n 0) (.leaf (.agg [cs nm, nilC], [])) (.leaf (.agg [cs nm, slC true 2 4 n], [⟨false, 24, .flat [cs nm, slC true 2 4 n]⟩, ⟨false, 31, .rows n (skC g0 g1 g2 g3)⟩])))
 | _, _, _, _ => .fail 727
def owSp : Spec := fun args h => specT [(true, [.s, .t skyD])] [] owF args h
theorem ow_ok : SpecOk Tryz.prog 26 owSp := by
 refine specT_ok rfl (by decide) fun l m n ts v news hl hm hn ht hnil hF => ?_
 unfold owF at hF
 split at hF
 ·rename_i nm id n g0 g1 g2 g3
  obtain ⟨hok, hF⟩ := Tree.need_some hF
  have hok := Nat.le_of_ble_eq_true hok
  have hv : v = .agg [cs nm, resS n] ∧ news = resT 24 31 nm (skC g0 g1 g2 g3) n := by
   cases n <;> (simp only [Tree.run, Nat.beq, Option.some.injEq, Prod.mk.injEq] at hF; obtain ⟨rfl, rfl⟩ := hF; exact ⟨rfl, rfl⟩)
  obtain ⟨rfl, rfl⟩ := hv
  cases id with
  | none =>
   have h0 : n = 0 := hnil _ (List.mem_singleton.2 rfl) rfl
   subst h0
   exact ow_none nm g0 g1 g2 g3
  | some id => exact ow_call nm n g0 g1 g2 g3 hok
 ·cases hF
end Go.Ev
