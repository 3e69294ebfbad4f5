/- own: a sky of the program, copied as one of the reference. Conditions: none. (Printed by gen_own.py from XRis.) -/
import Derived.Test.YtkalcencblhlgaaGreatDoorRis
import Derived.Test.YtkalcencblhlgaaGreatDoorLn
namespace Go.Ev
open Go Go.Proofs
set_option maxRecDepth 100000
section
variable (nm : ByteArray) (n : Nat) (g0 g1 g2 g3 : Nat → Int)
def owB : St := baseB 24 [skyA nm n] (skH n g0 g1 g2 g3)
def owN (env : List (Nat × A)) (news : List Blk) : St := skN 24 n g0 g1 g2 g3 env news
def owW (c : C) (tb : List Blk) : List Blk := [⟨false, 24, .flat [cs ⟨#[]⟩, nilC]⟩, ⟨false, 24, .flat [cs nm, c]⟩] ++ tb
def owH : Nat → St
 | 0 => owN n g0 g1 g2 g3 [(2, pt 1), (3, pt 2), (10, slT 0 4 n), (11, int n), (12, int ((0 : Nat) : Int))] (owW nm nilC [])
 | k + 1 => owN n g0 g1 g2 g3 [(2, pt 1), (3, pt 2), (10, slT 0 4 n), (11, int n), (12, int ((k + 1 : Nat) : Int))] (owW nm (slC true 3 4 (k + 1)) [⟨false, 31, .rows (k + 1) (skC g0 g1 g2 g3)⟩])
noncomputable def owT (k : Nat) : Tree (X × St) := (reK (loopF Tryz.f26) (owH nm n g0 g1 g2 g3 k)).bind (canonT [2, 3, 10, 11, 12] [2, 3] (owB nm n g0 g1 g2 g3))
noncomputable def owO : Tree ((X × St) ⊕ (List Bool × St)) := evO reK (bodyOf Tryz.f26) [2, 3, 10, 11, 12] [2] (owB nm n g0 g1 g2 g3)
def owX : Nat → St
 | 0 => owN n g0 g1 g2 g3 [(2, pt 1), (3, pt 2)] (owW nm nilC [])
 | k + 1 => owN n g0 g1 g2 g3 [(2, pt 1), (3, pt 2)] (owW nm (slC true 3 4 (k + 1)) [⟨false, 31, .rows (k + 1) (skC g0 g1 g2 g3)⟩])
noncomputable def owP (q : X × St) : Tree ((X × St) ⊕ (List Bool × St)) := evO2 reK true (bodyOf Tryz.f26) (pathF Tryz.f26) [] [2] (owB nm n g0 g1 g2 g3) q
def owE (i : Int) : List (Nat × A) := [(2, pt 1), (3, pt 2), (10, slT 0 4 n), (11, int n), (12, int i)]
noncomputable def owS : Nat → SkX
 | 0 => .node (decide (((0 : Nat) : Int) < (n : Int))) (.need (kB n 0) (.need (Nat.blt (ixN 0) n) (need3 (Nat.blt (ixN 0) n) (.leaf (.normal, owN n g0 g1 g2 g3 (owE n (IntKind.i64.wrap (((0 : Nat) : Int) + 1))) (owW nm (slC true 3 4 1) [⟨false, 31, .flat [ci (g0 (ixN 0)), ci (g1 (ixN 0)), ci (g2 (ixN 0)), ci (g3 (ixN 0))]⟩]))))))
  (.leaf (.exit 0, owX nm n g0 g1 g2 g3 0))
 | k + 1 => .node (decide (((k + 1 : Nat) : Int) < (n : Int))) (.need (kB n (k + 1)) (.need (Nat.blt (ixN (k + 1)) n) (need3 (Nat.blt (ixN (k + 1)) n) (.need (apN 31 k) (.leaf (.normal, owN n g0 g1 g2 g3 (owE n (IntKind.i64.wrap (((k + 1 : Nat) : Int) + 1))) (owW nm (slC true 3 4 (k + 1 + 1)) [⟨false, 31, .rows (k + 1 + 1) (skC (putK g0 k) (putK g1 k) (putK g2 k) (putK g3 k))⟩])))))))
  (.leaf (.exit 0, owX nm n g0 g1 g2 g3 (k + 1)))
theorem ow_into : ∀ k, owT nm n g0 g1 g2 g3 k = into (owT nm n g0 g1 g2 g3 k) (owS nm n g0 g1 g2 g3 k)
 | 0 => by kernel_rfl
 | k + 1 => by kernel_rfl
theorem ow_fits : ∀ k, fits (owT nm n g0 g1 g2 g3 k) (owS nm n g0 g1 g2 g3 k) = true
 | 0 => by kernel_rfl
 | k + 1 => by kernel_rfl
theorem ow_step (hn : n ≤ 1000000) (k : Nat) (hk : k < n) : SkLeads (Rnd (owH nm n g0 g1 g2 g3) (fun _ => (.exit 0, owX nm n g0 g1 g2 g3 n)) k) (owS nm n g0 g1 g2 g3 k) := by
 obtain ⟨e1, e2, e3⟩ := rnd_lt hk
 cases k with
 | zero =>
  unfold owS
  refine sk_yes e1 (sk_need e2 (sk_need e3 (need3_ok e3 (sk_leaf (rnd_next ?_ rfl)))))
  rw [wrap_succ (by omega)]
  exact le_news (show 1 + 3 ≤ lim by decide) ⟨⟨rfl, fun _ _ _ h => h⟩, ⟨rfl, fun _ _ _ h => h⟩, ⟨rfl, four_rows (by rw [show ixN 0 = 0 from idx_nat 0]) (by rw [show ixN 0 = 0 from idx_nat 0]) (by rw [show ixN 0 = 0 from idx_nat 0]) (by rw [show ixN 0 = 0 from idx_nat 0])⟩, trivial⟩
 | succ k =>
  unfold owS
  have d0 : ((Tryz.prog.info? 31).map (·.bytes)).getD 0 = 32 := by kernel_rfl
  refine sk_yes e1 (sk_need e2 (sk_need e3 (need3_ok e3 (sk_need (apN_ok (by rw [d0]; decide) (by omega)) (sk_leaf (rnd_next ?_ rfl))))))
  rw [wrap_succ (by omega), putK_eq, putK_eq, putK_eq, putK_eq]
  exact St.Le.refl _
theorem ow_last : SkLeads (RndEnd (.exit 0, owX nm n g0 g1 g2 g3 n)) (owS nm n g0 g1 g2 g3 n) := by
 cases n with
 | zero => unfold owS; exact sk_no (rnd_end 0) (sk_leaf rfl)
 | succ k => unfold owS; exact sk_no (rnd_end (k + 1)) (sk_leaf rfl)
theorem ow_loop (hn : n ≤ 1000000) : ComesF Tryz.prog (.loop (loopF Tryz.f26)) (owB nm n g0 g1 g2 g3) (owH nm n g0 g1 g2 g3 0) fun q => q = (.exit 0, owX nm n g0 g1 g2 g3 n) :=
 loop_count reK_ok rfl [2, 3, 10, 11, 12] [2, 3] (owH nm n g0 g1 g2 g3) (fun _ => (.exit 0, owX nm n g0 g1 g2 g3 n)) n (owT nm n g0 g1 g2 g3) (owS nm n g0 g1 g2 g3) (fun k => by delta owT; rfl) (ow_into nm n g0 g1 g2 g3) (ow_fits nm n g0 g1 g2 g3) (ow_step nm n g0 g1 g2 g3 hn) (ow_last nm n g0 g1 g2 g3)
def owR : Nat → St
 | 0 => owN n g0 g1 g2 g3 [(2, pt 1)] [⟨false, 24, .flat [cs nm, nilC]⟩]
 | k + 1 => owN n g0 g1 g2 g3 [(2, pt 1)] [⟨false, 24, .flat [cs nm, slC true 2 4 (k + 1)]⟩, ⟨false, 31, .rows (k + 1) (skC g0 g1 g2 g3)⟩]
theorem owO_is : owO nm n g0 g1 g2 g3 = .leaf (.inr (pathF Tryz.f26, owH nm n g0 g1 g2 g3 0)) := by kernel_rfl
theorem owP_is : ∀ k, owP nm n g0 g1 g2 g3 (.exit 0, owX nm n g0 g1 g2 g3 k) = .leaf (.inl (.ret, owR nm n g0 g1 g2 g3 k))
 | 0 => by kernel_rfl
 | k + 1 => by kernel_rfl
end
theorem ow_left (nm : ByteArray) (g0 g1 g2 g3 : Nat → Int) : ∀ n, Left2 Tryz.prog Tryz.f26 (skH n g0 g1 g2 g3) (.agg [cs nm, resS n]) (hpT [⟨some 0, n, skC g0 g1 g2 g3⟩] [] (resT 24 31 nm (skC g0 g1 g2 g3) n)) (.ret, owR nm n g0 g1 g2 g3 n)
 | 0 => left_of (b := true) (by kernel_rfl)
 | k + 1 => left_of (b := false) (by kernel_rfl)
theorem ow_call (nm : ByteArray) (n : Nat) (g0 g1 g2 g3 : Nat → Int) (hn : n ≤ 1000000) : CallAt Tryz.prog 26 [skyA nm n] (skH n g0 g1 g2 g3) (.agg [cs nm, resS n]) (hpT [⟨some 0, n, skC g0 g1 g2 g3⟩] [] (resT 24 31 nm (skC g0 g1 g2 g3) n)) := by
 refine call_base reK_ok (c := bodyOf Tryz.f26) (fn := Tryz.f26) Tryz.func26 (by kernel_rfl) (by kernel_rfl) (false, false) 1 [2, 3, 10, 11, 12] [2] (sB := owB nm n g0 g1 g2 g3) (by kernel_rfl) (owO_is nm n g0 g1 g2 g3) ?_
 refine (sk_stop _ true [] [2] (ow_loop nm n g0 g1 g2 g3 hn) fun q hq => ?_).all
 subst hq
 exact leads_leaf (show _ = owP nm n g0 g1 g2 g3 (.exit 0, owX nm n g0 g1 g2 g3 n) by delta owP; rfl) (owP_is nm n g0 g1 g2 g3 n) (cutF_dn (ow_left nm g0 g1 g2 g3 n))
theorem ow_none (nm : ByteArray) (g0 g1 g2 g3 : Nat → Int) : CallAt Tryz.prog 26 [.agg [cs nm, nilC]] (hpT [⟨none, 0, skC g0 g1 g2 g3⟩] [] []) (.agg [cs nm, nilC]) (hpT [⟨none, 0, skC g0 g1 g2 g3⟩] [] []) := call_ev tbK_ok (by kernel_rfl)
def owF : FT
 | [], [], [nm], [⟨_, n, [.int .i64 g0, .int .i64 g1, .int .i64 g2, .int .i64 g3]⟩] => .need (Nat.ble n 1000000) (.node (Nat.beq n 0) (.leaf (.agg [cs nm, nilC], [])) (.leaf (.agg [cs nm, slC true 2 4 n], [⟨false, 24, .flat [cs nm, slC true 2 4 n]⟩, ⟨false, 31, .rows n (skC g0 g1 g2 g3)⟩])))
 | _, _, _, _ => .fail 727
def owSp : Spec := fun args h => specT [(true, [.s, .t skyD])] [] owF args h
theorem ow_ok : SpecOk Tryz.prog 26 owSp := by
 refine specT_ok rfl (by decide) fun l m n ts v news hl hm hn ht hnil hF => ?_
 unfold owF at hF
 split at hF
 ·rename_i nm id n g0 g1 g2 g3
  obtain ⟨hok, hF⟩ := Tree.need_some hF
  have hok := Nat.le_of_ble_eq_true hok
  have hv : v = .agg [cs nm, resS n] ∧ news = resT 24 31 nm (skC g0 g1 g2 g3) n := by
   cases n <;> (simp only [Tree.run, Nat.beq, Option.some.injEq, Prod.mk.injEq] at hF; obtain ⟨rfl, rfl⟩ := hF; exact ⟨rfl, rfl⟩)
  obtain ⟨rfl, rfl⟩ := hv
  cases id with
  | none =>
   have h0 : n = 0 := hnil _ (List.mem_singleton.2 rfl) rfl
   subst h0
   exact ow_none nm g0 g1 g2 g3
  | some id => exact ow_call nm n g0 g1 g2 g3 hok
 ·cases hF
end Go.Ev
namespace Go.Ev
open Go Go.RowKit Go.Proofs
set_option maxRecDepth 100000
section
variable (n1 n2 : ByteArray) (n : Nat) (g0 g1 g2 g3 f0 f1 f2 f3 : Nat → Int)
def ssTs : List TA := [⟨some 0, n, skC g0 g1 g2 g3⟩, ⟨some 1, n, skC f0 f1 f2 f3⟩]
def ssHp : Hp := hpT (ssTs n g0 g1 g2 g3 f0 f1 f2 f3) [] []
def ssA : List A := [.agg [cs n1, slC false 0 4 n], .agg [cs n2, slC false 1 4 n]]
def ssB : St := baseB 38 (ssA n1 n2 n) (ssHp n g0 g1 g2 g3 f0 f1 f2 f3)
def ssN (env : List (Nat × A)) (news : List Blk) : St := stN 38 (envL env) (bsS (ssTs n g0 g1 g2 g3 f0 f1 f2 f3) []) [] news
def ssH (i : Int) : St := ssN n g0 g1 g2 g3 f0 f1 f2 f3 [(2, pt 2), (3, pt 3), (5, int i)] [⟨false, 24, .flat [cs n1, slC false 0 4 n]⟩, ⟨false, 24, .flat [cs n2, slC false 1 4 n]⟩]
noncomputable def ssT (k : Nat) : Tree (X × St) := (reK (loopF Tryz.f25) (ssH n1 n2 n g0 g1 g2 g3 f0 f1 f2 f3 (k : Int))).bind (canonT [2, 3, 5] [4] (ssB n1 n2 n g0 g1 g2 g3 f0 f1 f2 f3))
noncomputable def ssO : Tree ((X × St) ⊕ (List Bool × St)) := evO reK (bodyOf Tryz.f25) [2, 3, 5] [4] (ssB n1 n2 n g0 g1 g2 g3 f0 f1 f2 f3)
noncomputable def ssP (q : X × St) : Tree ((X × St) ⊕ (List Bool × St)) := evO2 reK true (bodyOf Tryz.f25) (pathF Tryz.f25) [] [4] (ssB n1 n2 n g0 g1 g2 g3 f0 f1 f2 f3) q
def ssX : St := { ssN n g0 g1 g2 g3 f0 f1 f2 f3 [] [] with env := Tr.nil.set D 4 none }
def ssR (v : Bool) : St := ssN n g0 g1 g2 g3 f0 f1 f2 f3 [(4, boo v)] []
def eqR (k : Nat) : Bool := g0 k == f0 k && ((g1 k == f1 k && (g2 k == f2 k && (g3 k == f3 k && true))) && true)
def ssS (k : Nat) : SkX := .node (decide ((k : Int) < (n : Int))) (.need (kB n k) (.need (Nat.blt (ixN k) n) (need3 (Nat.blt (ixN k) n) (.need (kB n k) (.need (Nat.blt (ixN k) n) (need3 (Nat.blt (ixN k) n) (.node (!eqR g0 g1 g2 g3 f0 f1 f2 f3 (ixN k)) (.leaf (.ret, ssR n g0 g1 g2 g3 f0 f1 f2 f3 false)) (.leaf (.normal, ssH n1 n2 n g0 g1 g2 g3 f0 f1 f2 f3 (IntKind.i64.wrap ((k : Int) + 1)))))))))))
 (.leaf (.exit 0, ssX n g0 g1 g2 g3 f0 f1 f2 f3))
noncomputable def ssOS : SkO := .node (!(n1.toList == n2.toList)) (.tt (.leaf (.inl (.ret, ssR n g0 g1 g2 g3 f0 f1 f2 f3 false)))) (.node ((n : Int) != (n : Int)) (.leaf (.inl (.ret, ssR n g0 g1 g2 g3 f0 f1 f2 f3 false))) (.leaf (.inr (pathF Tryz.f25, ssH n1 n2 n g0 g1 g2 g3 f0 f1 f2 f3 ((0 : Nat) : Int)))))
theorem ssT_into (k : Nat) : ssT n1 n2 n g0 g1 g2 g3 f0 f1 f2 f3 k = into (ssT n1 n2 n g0 g1 g2 g3 f0 f1 f2 f3 k) (ssS n1 n2 n g0 g1 g2 g3 f0 f1 f2 f3 k) := by kernel_rfl
theorem ssT_fits (k : Nat) : fits (ssT n1 n2 n g0 g1 g2 g3 f0 f1 f2 f3 k) (ssS n1 n2 n g0 g1 g2 g3 f0 f1 f2 f3 k) = true := by kernel_rfl
theorem ssO_into : ssO n1 n2 n g0 g1 g2 g3 f0 f1 f2 f3 = into (ssO n1 n2 n g0 g1 g2 g3 f0 f1 f2 f3) (ssOS n1 n2 n g0 g1 g2 g3 f0 f1 f2 f3) := by kernel_rfl
theorem ssO_fits : fits (ssO n1 n2 n g0 g1 g2 g3 f0 f1 f2 f3) (ssOS n1 n2 n g0 g1 g2 g3 f0 f1 f2 f3) = true := by kernel_rfl
theorem ssP_is : ssP n1 n2 n g0 g1 g2 g3 f0 f1 f2 f3 (.exit 0, ssX n g0 g1 g2 g3 f0 f1 f2 f3) = .leaf (.inl (.ret, ssR n g0 g1 g2 g3 f0 f1 f2 f3 true)) := by kernel_rfl
theorem ss_left (v : Bool) : Left2 Tryz.prog Tryz.f25 (ssHp n g0 g1 g2 g3 f0 f1 f2 f3) (boo v) (ssHp n g0 g1 g2 g3 f0 f1 f2 f3) (.ret, ssR n g0 g1 g2 g3 f0 f1 f2 f3 v) := left_of (b := true) (by kernel_rfl)
end
section
variable {n1 n2 : ByteArray} {n : Nat} {g0 g1 g2 g3 f0 f1 f2 f3 : Nat → Int} (hn : n ≤ 1000000) (he : allK (eqR g0 g1 g2 g3 f0 f1 f2 f3) n = true)
include hn he
theorem ss_loop : ComesF Tryz.prog (.loop (loopF Tryz.f25)) (ssB n1 n2 n g0 g1 g2 g3 f0 f1 f2 f3) (ssH n1 n2 n g0 g1 g2 g3 f0 f1 f2 f3 ((0 : Nat) : Int)) fun q => q = (.exit 0, ssX n g0 g1 g2 g3 f0 f1 f2 f3) := by
 refine loop_count reK_ok rfl [2, 3, 5] [4] (fun k => ssH n1 n2 n g0 g1 g2 g3 f0 f1 f2 f3 (k : Int)) (fun _ => (.exit 0, ssX n g0 g1 g2 g3 f0 f1 f2 f3)) n (ssT n1 n2 n g0 g1 g2 g3 f0 f1 f2 f3) (ssS n1 n2 n g0 g1 g2 g3 f0 f1 f2 f3) (fun k => by delta ssT; rfl) (ssT_into n1 n2 n g0 g1 g2 g3 f0 f1 f2 f3) (ssT_fits n1 n2 n g0 g1 g2 g3 f0 f1 f2 f3) (fun k hk => ?_) ?_
 ·obtain ⟨e1, e2, e3⟩ := rnd_lt hk
  have hx : ixN k = k := idx_nat k
  unfold ssS
  refine sk_yes e1 (sk_need e2 (sk_need e3 (need3_ok e3 (sk_need e2 (sk_need e3 (need3_ok e3 (sk_no ?_ (sk_leaf (rnd_next ?_ rfl)))))))))
  ·rw [hx, allK_at he k hk]; rfl
  ·rw [wrap_succ (by omega)]; exact St.Le.refl _
 ·unfold ssS
  exact sk_no (rnd_end n) (sk_leaf rfl)
theorem ss_call (hnm : (n1.toList == n2.toList) = true) : CallAt Tryz.prog 25 (ssA n1 n2 n) (ssHp n g0 g1 g2 g3 f0 f1 f2 f3) (boo true) (ssHp n g0 g1 g2 g3 f0 f1 f2 f3) := by
 refine call_baseS reK_ok (c := bodyOf Tryz.f25) (fn := Tryz.f25) Tryz.func25 (by kernel_rfl) (by kernel_rfl) (false, false) 1 [2, 3, 5] [4] (sB := ssB n1 n2 n g0 g1 g2 g3 f0 f1 f2 f3) (by kernel_rfl) (t := ssO n1 n2 n g0 g1 g2 g3 f0 f1 f2 f3) (by delta ssO; rfl) (ssO_into n1 n2 n g0 g1 g2 g3 f0 f1 f2 f3) (ssO_fits n1 n2 n g0 g1 g2 g3 f0 f1 f2 f3) ?_
 unfold ssOS
 refine sk_no (by rw [hnm]; rfl) (sk_no (by simp) ?_)
 refine sk_stop _ true [] [4] (ss_loop hn he) fun q hq => ?_
 subst hq
 exact leads_leaf (show _ = ssP n1 n2 n g0 g1 g2 g3 f0 f1 f2 f3 (.exit 0, ssX n g0 g1 g2 g3 f0 f1 f2 f3) by delta ssP; rfl) (ssP_is n1 n2 n g0 g1 g2 g3 f0 f1 f2 f3) (cutF_dn (ss_left n g0 g1 g2 g3 f0 f1 f2 f3 true))
end
def ssH0 (g0 g1 g2 g3 f0 f1 f2 f3 : Nat → Int) : Hp := hpT [⟨none, 0, skC g0 g1 g2 g3⟩, ⟨none, 0, skC f0 f1 f2 f3⟩] [] []
def ssS0 (n1 n2 : ByteArray) (g0 g1 g2 g3 f0 f1 f2 f3 : Nat → Int) : SkL := .node (!(n1.toList == n2.toList)) (.tt (.leaf (.inl (true, boo false, ssH0 g0 g1 g2 g3 f0 f1 f2 f3)))) (.ff (.ff (.leaf (.inl (true, boo true, ssH0 g0 g1 g2 g3 f0 f1 f2 f3)))))
theorem ss_none (n1 n2 : ByteArray) (g0 g1 g2 g3 f0 f1 f2 f3 : Nat → Int) (hnm : (n1.toList == n2.toList) = true) : CallAt Tryz.prog 25 [.agg [cs n1, nilC], .agg [cs n2, nilC]] (ssH0 g0 g1 g2 g3 f0 f1 f2 f3) (boo true) (ssH0 g0 g1 g2 g3 f0 f1 f2 f3) :=
 call_sk tbK_ok Tryz.func25 (by kernel_rfl) (false, false) (by kernel_rfl) (S := ssS0 n1 n2 g0 g1 g2 g3 f0 f1 f2 f3) (by kernel_rfl) (by kernel_rfl) (SkLeads.all (sk_no (by rw [hnm]; rfl) (sk_ff (sk_ff (sk_leaf rfl)))))
def ssF : FT
 | [], [], [n1, n2], [⟨some _, n, [.int .i64 g0, .int .i64 g1, .int .i64 g2, .int .i64 g3]⟩, ⟨some _, n', [.int .i64 f0, .int .i64 f1, .int .i64 f2, .int .i64 f3]⟩] => .need ((n1.toList == n2.toList) && (Nat.beq n n' && (Nat.ble n 1000000 && allK (eqR g0 g1 g2 g3 f0 f1 f2 f3) n))) (.leaf (boo true, []))
 | [], [], [n1, n2], [⟨none, _, [.int .i64 _, .int .i64 _, .int .i64 _, .int .i64 _]⟩, ⟨none, _, [.int .i64 _, .int .i64 _, .int .i64 _, .int .i64 _]⟩] => .need (n1.toList == n2.toList) (.leaf (boo true, []))
 | _, _, _, _ => .fail 728
def ssSp : Spec := fun args h => specT [(true, [.s, .t skyD]), (true, [.s, .t skyD])] [] ssF args h
theorem ss_ok : SpecOk Tryz.prog 25 ssSp := by
 refine specT_ok rfl (by decide) fun l m n ts v news hl hm hn ht hnil hF => ?_
 unfold ssF at hF
 split at hF
 ·rename_i n1 n2 id n g0 g1 g2 g3 id' n' f0 f1 f2 f3
  obtain ⟨hok, hF2⟩ := Tree.need_some hF
  clear hF
  simp only [Bool.and_eq_true] at hok
  obtain ⟨h1, h2, h3, h4⟩ := hok
  have h2 := Nat.eq_of_beq_eq_true h2
  subst h2
  simp only [Tree.run, Option.some.injEq, Prod.mk.injEq] at hF2
  obtain ⟨rfl, rfl⟩ := hF2
  exact ss_call (Nat.le_of_ble_eq_true h3) h4 h1
 ·rename_i n1 n2 n g0 g1 g2 g3 n' f0 f1 f2 f3
  obtain ⟨hok, hF2⟩ := Tree.need_some hF
  clear hF
  simp only [Tree.run, Option.some.injEq, Prod.mk.injEq] at hF2
  obtain ⟨rfl, rfl⟩ := hF2
  have a1 : n = 0 := hnil _ List.mem_cons_self rfl
  have a2 : n' = 0 := hnil _ (List.mem_cons_of_mem _ List.mem_cons_self) rfl
  subst a1; subst a2
  exact ss_none n1 n2 g0 g1 g2 g3 f0 f1 f2 f3 hok
 ·cases hF
end Go.Ev
