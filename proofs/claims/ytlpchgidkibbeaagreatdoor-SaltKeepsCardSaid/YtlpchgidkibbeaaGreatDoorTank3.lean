/- Tanks: both checks of a tank. Conditions: few layers. -/
import Derived.Test.YtlpchgidkibbeaaGreatDoorTank2
import Derived.Test.YtlpchgidkibbeaaGreatDoorSkf
namespace Go.Ev
open Go Go.Proofs
set_option maxRecDepth 100000
section
variable (n : Nat) (room : Int) (z1 z2 : Nat → Int)
def ctN (env : List (Nat × A)) (news : List Blk) : St := { stN 68 (envL env) (bsS [⟨some 0, n, tkC z1 z2⟩] []) [] news with keep := true }
def ctB : St := { baseB 68 [tankA room n] (tankH n z1 z2) with keep := true }
def ctH (i : Int) : St := ctN n z1 z2 [(1, pt 1), (2, int 0), (22, slT 0 2 n), (23, int n), (24, int i)] [tbox 81 room (slC false 0 2 n)]
def ctX (e : Int) : St := ctN n z1 z2 [(1, pt 1), (2, int e)] [tbox 81 room (slC false 0 2 n)]
noncomputable def ctT (k : Nat) : Tree (X × St) := (recT Tryz.prog (tabOf tbT0) (loopF Tryz.f55) (ctH n room z1 z2 (k : Int))).bind (canonT [1, 2, 22, 23, 24] [1, 2] (ctB n room z1 z2))
noncomputable def ctO : Tree ((X × St) ⊕ (List Bool × St)) := evO (recT Tryz.prog (tabOf tbT0)) (bodyOf Tryz.f55) [1, 2, 22, 23, 24] [2] (ctB n room z1 z2)
noncomputable def ctP (e : Int) : Tree ((X × St) ⊕ (List Bool × St)) := evO2 (recT Tryz.prog (tabOf tbT0)) true (bodyOf Tryz.f55) (pathF Tryz.f55) [] [2] (ctB n room z1 z2) (.exit 0, ctX n room z1 z2 e)
noncomputable def ctQ (e : Int) : Tree ((X × St) ⊕ (List Bool × St)) := evO2 (recT Tryz.prog (tabOf tbT0)) true (bodyOf Tryz.f55) (pathF Tryz.f55) [] [2] (ctB n room z1 z2) (.ret, ctX n room z1 z2 e)
def qcN (env : List (Nat × A)) (news : List Blk) : St := { stN 70 (envL env) (bsS [⟨some 0, n, tkC z1 z2⟩] []) [] news with keep := true }
def qcB : St := { baseB 70 [tankA room n] (tankH n z1 z2) with keep := true }
def qcH (i : Int) : St := qcN n z1 z2 [(1, pt 1), (2, int 0), (4, int i)] [tbox 76 room (slC false 0 2 n)]
def qcX (e : Int) : St := qcN n z1 z2 [(1, pt 1), (2, int e)] [tbox 76 room (slC false 0 2 n)]
noncomputable def qcT (k : Nat) : Tree (X × St) := (recT Tryz.prog (tabOf tbT0) (loopF Tryz.f47) (qcH n room z1 z2 (k : Int))).bind (canonT [1, 2, 4] [1, 2] (qcB n room z1 z2))
noncomputable def qcO : Tree ((X × St) ⊕ (List Bool × St)) := evO (recT Tryz.prog (tabOf tbT0)) (bodyOf Tryz.f47) [1, 2, 4] [2] (qcB n room z1 z2)
noncomputable def qcP (e : Int) : Tree ((X × St) ⊕ (List Bool × St)) := evO2 (recT Tryz.prog (tabOf tbT0)) true (bodyOf Tryz.f47) (pathF Tryz.f47) [] [2] (qcB n room z1 z2) (.exit 0, qcX n room z1 z2 e)
noncomputable def qcQ (e : Int) : Tree ((X × St) ⊕ (List Bool × St)) := evO2 (recT Tryz.prog (tabOf tbT0)) true (bodyOf Tryz.f47) (pathF Tryz.f47) [] [2] (qcB n room z1 z2) (.ret, qcX n room z1 z2 e)
end
def cold (z1 z2 : Nat → Int) (i k : Nat) : Bool := decide (w64 (z2 i * z1 k) < w64 (z2 k * z1 i))
def rowE (z1 z2 : Nat → Int) (k : Nat) : Int := firstZ [wW (z1 k) 1 1000000, wW (z2 k) 0 1000000000]
def layE (z1 z2 : Nat → Int) (k : Nat) : Int := match rowE z1 z2 k != 0 with
 | true => rowE z1 z2 k
 | false => match decide ((k : Int) > 0) with
  | true => match cold z1 z2 (k - 1) k with
   | true => 0
   | false => 11
  | false => 0
def endE (n : Nat) (room : Int) (z1 z2 : Nat → Int) : Int := firstZ [errIf (decide (sumA z1 n > room)) 4, errIf (decide (sumA z2 n > 1000000000)) 23]
def headE (n : Nat) (room : Int) : Int := firstZ [wW room 1 1000000, errIf (decide ((n : Int) > 16)) 5]
def tankE (n : Nat) (room : Int) (z1 z2 : Nat → Int) : Int := match headE n room != 0 with
 | true => headE n room
 | false => match fnz (layE z1 z2) n 0 with
  | some e => e
  | none => endE n room z1 z2
section
variable (n : Nat) (room : Int) (z1 z2 : Nat → Int)
noncomputable def ctSk (k : Nat) : Sk (X × St) := .node (decide ((k : Int) < (n : Int))) (.need (decide (0 ≤ (k : Int)) && decide ((k : Int) < (n : Int))) (.need (Nat.blt (0 + Int.toNat (k : Int)) n) (.need (Nat.blt (0 + Int.toNat (k : Int)) n)
  (.node (rowE z1 z2 (0 + Int.toNat (k : Int)) != 0) (.leaf (.ret, ctX n room z1 z2 (rowE z1 z2 (0 + Int.toNat (k : Int)))))
   (.node (decide ((k : Int) > 0)) (.need (decide (0 ≤ IntKind.i64.wrap ((k : Int) - 1)) && decide (IntKind.i64.wrap ((k : Int) - 1) < (n : Int))) (.need (Nat.blt (0 + (IntKind.i64.wrap ((k : Int) - 1)).toNat) n) (.need (Nat.blt (0 + (IntKind.i64.wrap ((k : Int) - 1)).toNat) n)
    (.node (!(cold z1 z2 (0 + (IntKind.i64.wrap ((k : Int) - 1)).toNat) (0 + Int.toNat (k : Int)))) (.leaf (.ret, ctX n room z1 z2 11)) (.leaf (.normal, ctH n room z1 z2 (IntKind.i64.wrap ((k : Int) + 1))))))))
    (.ff (.leaf (.normal, ctH n room z1 z2 (IntKind.i64.wrap ((k : Int) + 1)))))))))) (.leaf (.exit 0, ctX n room z1 z2 0))
theorem ct_into (k : Nat) : ctT n room z1 z2 k = into (ctT n room z1 z2 k) (ctSk n room z1 z2 k) := by kernel_rfl
theorem ct_fits (k : Nat) : fits (ctT n room z1 z2 k) (ctSk n room z1 z2 k) = true := by kernel_rfl
theorem ct_loop (hn : n ≤ 17) : ComesF Tryz.prog (.loop (loopF Tryz.f55)) (ctB n room z1 z2) (ctH n room z1 z2 ((0 : Nat) : Int)) fun q => q = finT (ctX n room z1 z2) n (layE z1 z2) 0 := by
 refine loop_count (recT_ok tbT0_ok) rfl [1, 2, 22, 23, 24] [1, 2] (fun k => ctH n room z1 z2 (k : Int)) (finT (ctX n room z1 z2) n (layE z1 z2)) n (ctT n room z1 z2) (ctSk n room z1 z2) (fun _ => rfl) (ct_into n room z1 z2) (ct_fits n room z1 z2) (fun k hk => ?_) (sk_no (rnd_end n) (sk_leaf finT_end.symm))
 obtain ⟨a1, a2, a3⟩ := rnd_lt hk
 have hnx : layE z1 z2 k = 0 → SkLeads (Rnd (fun k => ctH n room z1 z2 (k : Int)) (finT (ctX n room z1 z2) n (layE z1 z2)) k) (.leaf (.normal, ctH n room z1 z2 (IntKind.i64.wrap ((k : Int) + 1)))) := fun h0 =>
  sk_leaf (rnd_next (by rw [wrap_succ (by omega)]; exact St.Le.refl _) (finT_next hk h0))
 refine sk_yes a1 (sk_need a2 (sk_need a3 (sk_need a3 ?_)))
 rw [idx_nat]
 refine sk_either (fun h1 => sk_leaf (rnd_ret ?_)) fun h1 => sk_either (fun h2 => ?_) fun h2 => sk_ff (hnx ?_)
 ·have e : layE z1 z2 k = rowE z1 z2 k := by unfold layE; rw [h1]
  rw [finT_ret hk (by rw [e]; simpa using h1), e]
 ·obtain ⟨e1, e2⟩ := prev_facts h2 hk (by omega)
  rw [e1, idx_nat]
  have b := rnd_lt (show k - 1 < n by omega)
  rw [idx_nat] at b
  refine sk_need b.2.1 (sk_need b.2.2 (sk_need b.2.2 (sk_either (fun h3 => sk_leaf (rnd_ret ?_)) fun h3 => hnx ?_)))
  ·have e : layE z1 z2 k = 11 := by unfold layE; rw [h1, h2, show cold z1 z2 (k - 1) k = false by simpa using h3]
   rw [finT_ret hk (by rw [e]; decide), e]
  ·unfold layE; rw [h1, h2, show cold z1 z2 (k - 1) k = true by simpa using h3]
 ·unfold layE; rw [h1, h2]
def ctR (e : Int) : St := ctN n z1 z2 [(2, int e)] []
noncomputable def ctOSk : Sk ((X × St) ⊕ (List Bool × St)) := .node (headE n room != 0) (.leaf (.inl (.ret, ctR n z1 z2 (headE n room)))) (.leaf (.inr (pathF Tryz.f55, ctH n room z1 z2 ((0 : Nat) : Int))))
noncomputable def ctPSk : Sk ((X × St) ⊕ (List Bool × St)) := .need (okN n) (.need (Nat.ble n 17) (.leaf (.inl (.ret, ctR n z1 z2 (endE n room z1 z2)))))
theorem ctO_into : ctO n room z1 z2 = into (ctO n room z1 z2) (ctOSk n room z1 z2) := by kernel_rfl
theorem ctO_fits : fits (ctO n room z1 z2) (ctOSk n room z1 z2) = true := by kernel_rfl
theorem ctP_into : ctP n room z1 z2 0 = into (ctP n room z1 z2 0) (ctPSk n room z1 z2) := by kernel_rfl
theorem ctP_fits : fits (ctP n room z1 z2 0) (ctPSk n room z1 z2) = true := by kernel_rfl
theorem ctQ_into (e : Int) : ctQ n room z1 z2 e = into (ctQ n room z1 z2 e) (.leaf (.inl (.ret, ctR n z1 z2 e))) := by kernel_rfl
theorem ctQ_fits (e : Int) : fits (ctQ n room z1 z2 e) (.leaf (.inl (.ret, ctR n z1 z2 e))) = true := by kernel_rfl
theorem ct_left (e : Int) : Left2 Tryz.prog Tryz.f55 (tankH n z1 z2) (int e) (tankH n z1 z2) (.ret, ctR n z1 z2 e) := left_of (b := true) (by kernel_rfl)
def qiI (k : Nat) : Int := if IntKind.i64.wrap ((k : Int) - 1) > 0 then IntKind.i64.wrap ((k : Int) - 1) else 0
def qw (z1 z2 : Nat → Int) (k : Nat) (b : Bool) : Int := firstZ [wW (z1 k) 1 1000000, wW (z2 k) 0 1000000000, errIf b 11]
noncomputable def qcLf (k : Nat) (e : Int) : Sk (X × St) := .node (e != 0) (.leaf (.ret, qcX n room z1 z2 e)) (.leaf (.normal, qcH n room z1 z2 (IntKind.i64.wrap ((k : Int) + 1))))
noncomputable def qcSk (k : Nat) : Sk (X × St) := .node (decide ((k : Int) < (n : Int))) (.need (decide (0 ≤ (k : Int)) && decide ((k : Int) < (n : Int))) (.need (Nat.blt (0 + Int.toNat (k : Int)) n) (.need (Nat.blt (0 + Int.toNat (k : Int)) n)
  (.node (decide ((k : Int) > 0)) (.need (decide (0 ≤ qiI k) && decide (qiI k < (n : Int))) (.need (Nat.blt (0 + (qiI k).toNat) n) (.need (Nat.blt (0 + (qiI k).toNat) n)
    (.node (decide (w64 (z2 (0 + (qiI k).toNat) * z1 (0 + Int.toNat (k : Int))) > w64 (z2 (0 + Int.toNat (k : Int)) * z1 (0 + (qiI k).toNat)))) (qcLf n room z1 z2 k (qw z1 z2 (0 + Int.toNat (k : Int)) true))
     (.node (decide (w64 (z2 (0 + (qiI k).toNat) * z1 (0 + Int.toNat (k : Int))) < w64 (z2 (0 + Int.toNat (k : Int)) * z1 (0 + (qiI k).toNat)))) (qcLf n room z1 z2 k (qw z1 z2 (0 + Int.toNat (k : Int)) false)) (qcLf n room z1 z2 k (qw z1 z2 (0 + Int.toNat (k : Int)) true)))))))
   (qcLf n room z1 z2 k (qw z1 z2 (0 + Int.toNat (k : Int)) false)))))) (.leaf (.exit 0, qcX n room z1 z2 0))
theorem qc_into (k : Nat) : qcT n room z1 z2 k = into (qcT n room z1 z2 k) (qcSk n room z1 z2 k) := by kernel_rfl
theorem qc_fits (k : Nat) : fits (qcT n room z1 z2 k) (qcSk n room z1 z2 k) = true := by kernel_rfl
theorem qw_true (k : Nat) : qw z1 z2 k true = (match rowE z1 z2 k != 0 with | true => rowE z1 z2 k | false => 11) := by
 unfold qw rowE firstZ firstZ firstZ
 cases h0 : wW (z1 k) 1 1000000 != 0 with
 | true => simp only [h0]
 | false => cases h : wW (z2 k) 0 1000000000 != 0 <;> simp [firstZ, errIf, h]
theorem qw_false (k : Nat) : qw z1 z2 k false = rowE z1 z2 k := by
 unfold qw rowE firstZ firstZ firstZ
 cases wW (z1 k) 1 1000000 != 0 <;> cases wW (z2 k) 0 1000000000 != 0 <;> simp [firstZ, errIf]
theorem qc_loop (hn : n ≤ 17) : ComesF Tryz.prog (.loop (loopF Tryz.f47)) (qcB n room z1 z2) (qcH n room z1 z2 ((0 : Nat) : Int)) fun q => q = finT (qcX n room z1 z2) n (layE z1 z2) 0 := by
 refine loop_count (recT_ok tbT0_ok) rfl [1, 2, 4] [1, 2] (fun k => qcH n room z1 z2 (k : Int)) (finT (qcX n room z1 z2) n (layE z1 z2)) n (qcT n room z1 z2) (qcSk n room z1 z2) (fun _ => rfl) (qc_into n room z1 z2) (qc_fits n room z1 z2) (fun k hk => ?_) (sk_no (rnd_end n) (sk_leaf finT_end.symm))
 obtain ⟨a1, a2, a3⟩ := rnd_lt hk
 have hlf : ∀ e, e = layE z1 z2 k → SkLeads (Rnd (fun k => qcH n room z1 z2 (k : Int)) (finT (qcX n room z1 z2) n (layE z1 z2)) k) (qcLf n room z1 z2 k e) := fun e he => by
  subst he
  refine sk_either (fun h => sk_leaf (rnd_ret ?_)) fun h => sk_leaf (rnd_next (by rw [wrap_succ (by omega)]; exact St.Le.refl _) (finT_next hk (by simpa using h)))
  rw [finT_ret hk (by simpa using h)]
 refine sk_yes a1 (sk_need a2 (sk_need a3 (sk_need a3 ?_)))
 rw [idx_nat]
 refine sk_either (fun h2 => ?_) fun h2 => hlf _ ?_
 ·obtain ⟨e1, e2⟩ := prev_facts h2 hk (by omega)
  have e3 : qiI k = ((k - 1 : Nat) : Int) := by
   unfold qiI
   rw [e1]
   split <;> omega
  rw [e3, idx_nat]
  have b := rnd_lt (show k - 1 < n by omega)
  rw [idx_nat] at b
  refine sk_need b.2.1 (sk_need b.2.2 (sk_need b.2.2 (sk_either (fun h3 => hlf _ ?_) fun h3 => sk_either (fun h4 => hlf _ ?_) fun h4 => hlf _ ?_)))
  ·have hc : cold z1 z2 (k - 1) k = false := by unfold cold; simp only [decide_eq_true_eq, decide_eq_false_iff_not] at h3 ⊢; omega
   rw [qw_true]; unfold layE; rw [h2, hc]
  ·have hc : cold z1 z2 (k - 1) k = true := h4
   rw [qw_false]; unfold layE; rw [h2, hc]
   cases h5 : rowE z1 z2 k != 0 with
   | true => rfl
   | false => exact ne0 h5
  ·have hc : cold z1 z2 (k - 1) k = false := h4
   rw [qw_true]; unfold layE; rw [h2, hc]
 ·rw [qw_false]; unfold layE; rw [h2]
  cases h5 : rowE z1 z2 k != 0 with
  | true => rfl
  | false => exact ne0 h5
def qcR (e : Int) : St := qcN n z1 z2 [(2, int e)] []
noncomputable def qcOSk : Sk ((X × St) ⊕ (List Bool × St)) := .node (headE n room != 0) (.leaf (.inl (.ret, qcR n z1 z2 (headE n room)))) (.leaf (.inr (pathF Tryz.f47, qcH n room z1 z2 ((0 : Nat) : Int))))
noncomputable def qcPSk : Sk ((X × St) ⊕ (List Bool × St)) := .need (okN n) (.need (Nat.ble n 1000000) (.nn (.need (okN n) (.need (Nat.ble n 1000000) (.leaf (.inl (.ret, qcR n z1 z2 (endE n room z1 z2))))))))
theorem qcO_into : qcO n room z1 z2 = into (qcO n room z1 z2) (qcOSk n room z1 z2) := by kernel_rfl
theorem qcO_fits : fits (qcO n room z1 z2) (qcOSk n room z1 z2) = true := by kernel_rfl
theorem qcP_into : qcP n room z1 z2 0 = into (qcP n room z1 z2 0) (qcPSk n room z1 z2) := by kernel_rfl
theorem qcP_fits : fits (qcP n room z1 z2 0) (qcPSk n room z1 z2) = true := by kernel_rfl
theorem qcQ_into (e : Int) : qcQ n room z1 z2 e = into (qcQ n room z1 z2 e) (.leaf (.inl (.ret, qcR n z1 z2 e))) := by kernel_rfl
theorem qcQ_fits (e : Int) : fits (qcQ n room z1 z2 e) (.leaf (.inl (.ret, qcR n z1 z2 e))) = true := by kernel_rfl
theorem qc_left (e : Int) : Left2 Tryz.prog Tryz.f47 (tankH n z1 z2) (int e) (tankH n z1 z2) (.ret, qcR n z1 z2 e) := left_of (b := true) (by kernel_rfl)
end
section
variable (n : Nat) (room : Int) (z1 z2 : Nat → Int)
theorem ct_call (hn : n ≤ 17) : CallAt Tryz.prog 55 [tankA room n] (tankH n z1 z2) (int (tankE n room z1 z2)) (tankH n z1 z2) := by
 refine call_base (recT_ok tbT0_ok) (c := bodyOf Tryz.f55) (fn := Tryz.f55) Tryz.func55 (by kernel_rfl) (by kernel_rfl) (false, true) 1 [1, 2, 22, 23, 24] [2] (sB := ctB n room z1 z2) (by kernel_rfl) (t := ctO n room z1 z2) (by delta ctO; rfl) (all_into (ctO_into n room z1 z2) (ctO_fits n room z1 z2) (SkLeads.all ?_))
 refine sk_either (fun h => sk_leaf (cutF_dn ?_)) fun h => sk_leaf ⟨_, true, [], [2], ct_loop n room z1 z2 hn, fun q hq => Leads.all ?_⟩
 ·unfold tankE; rw [h]; exact ct_left n z1 z2 _
 ·subst hq
  unfold finT tankE
  rw [h, Nat.sub_zero]
  cases fnz (layE z1 z2) n 0 with
  | some e => exact leads_in (show _ = ctQ n room z1 z2 e by delta ctQ; rfl) (ctQ_into n room z1 z2 e) (ctQ_fits n room z1 z2 e) (sk_leaf (cutF_dn (ct_left n z1 z2 e)))
  | none => exact leads_in (show _ = ctP n room z1 z2 0 by delta ctP; rfl) (ctP_into n room z1 z2) (ctP_fits n room z1 z2) (sk_need (okN_ok n) (sk_need (by rw [Nat.ble_eq]; exact hn) (sk_leaf (cutF_dn (ct_left n z1 z2 _)))))
def ctF : FT
 | [room], [], [], [⟨_, n, [.int .i64 z1, .int .i64 z2]⟩] => .need (Nat.ble n 17) (.leaf (int (tankE n room z1 z2), []))
 | _, _, _, _ => .fail 381
def ctSp : Spec := fun args h => specT [tkS] [] ctF args h
theorem ct_ok : SpecOk Tryz.prog 55 ctSp := tank_ok (fun n room z1 z2 => int (tankE n room z1 z2)) (fun l m n ts => by unfold ctF; split <;> first | rfl | (split <;> first | rfl | (rename_i hno; exact (hno _ _ _ _ _ rfl rfl rfl rfl).elim))) (fun room z1 z2 => by
 refine call_sk tbT0_ok Tryz.func55 (by kernel_rfl) (false, true) (by kernel_rfl) (S := .node (headE 0 room != 0) (.leaf (.inl (true, int (headE 0 room), hpT [] [] []))) (.ff (.leaf (.inl (true, int (endE 0 room z1 z2), hpT [] [] []))))) (by kernel_rfl) (by kernel_rfl) (SkLeads.all ?_)
 refine sk_either (fun h => sk_leaf ?_) fun h => ?_
 ·show (int (headE 0 room), hpT [] [] []) = _
  unfold tankE; rw [h]
 ·refine sk_ff (sk_leaf ?_)
  show (int (endE 0 room z1 z2), hpT [] [] []) = _
  unfold tankE; rw [h]; rfl) fun n room z1 z2 hn => ct_call n room z1 z2 hn
theorem qc_call (hn : n ≤ 17) : CallAt Tryz.prog 47 [tankA room n] (tankH n z1 z2) (int (tankE n room z1 z2)) (tankH n z1 z2) := by
 refine call_base (recT_ok tbT0_ok) (c := bodyOf Tryz.f47) (fn := Tryz.f47) Tryz.func47 (by kernel_rfl) (by kernel_rfl) (false, true) 1 [1, 2, 4] [2] (sB := qcB n room z1 z2) (by kernel_rfl) (t := qcO n room z1 z2) (by delta qcO; rfl) (all_into (qcO_into n room z1 z2) (qcO_fits n room z1 z2) (SkLeads.all ?_))
 refine sk_either (fun h => sk_leaf (cutF_dn ?_)) fun h => sk_leaf ⟨_, true, [], [2], qc_loop n room z1 z2 hn, fun q hq => Leads.all ?_⟩
 ·unfold tankE; rw [h]; exact qc_left n z1 z2 _
 ·subst hq
  unfold finT tankE
  rw [h, Nat.sub_zero]
  cases fnz (layE z1 z2) n 0 with
  | some e => exact leads_in (show _ = qcQ n room z1 z2 e by delta qcQ; rfl) (qcQ_into n room z1 z2 e) (qcQ_fits n room z1 z2 e) (sk_leaf (cutF_dn (qc_left n z1 z2 e)))
  | none => exact leads_in (show _ = qcP n room z1 z2 0 by delta qcP; rfl) (qcP_into n room z1 z2) (qcP_fits n room z1 z2) (sk_need (okN_ok n) (sk_need (by rw [Nat.ble_eq]; omega) (sk_nn (sk_need (okN_ok n) (sk_need (by rw [Nat.ble_eq]; omega) (sk_leaf (cutF_dn (qc_left n z1 z2 _))))))))
def qcF : FT
 | [room], [], [], [⟨_, n, [.int .i64 z1, .int .i64 z2]⟩] => .need (Nat.ble n 17) (.leaf (int (tankE n room z1 z2), []))
 | _, _, _, _ => .fail 381
def qcSp : Spec := fun args h => specT [tkS] [] qcF args h
theorem qc_ok : SpecOk Tryz.prog 47 qcSp := tank_ok (fun n room z1 z2 => int (tankE n room z1 z2)) (fun l m n ts => by unfold qcF; split <;> first | rfl | (split <;> first | rfl | (rename_i hno; exact (hno _ _ _ _ _ rfl rfl rfl rfl).elim))) (fun room z1 z2 => by
 refine call_sk tbT0_ok Tryz.func47 (by kernel_rfl) (false, true) (by kernel_rfl) (S := .node (headE 0 room != 0) (.leaf (.inl (true, int (headE 0 room), hpT [] [] []))) (.ff (.leaf (.inl (true, int (endE 0 room z1 z2), hpT [] [] []))))) (by kernel_rfl) (by kernel_rfl) (SkLeads.all ?_)
 refine sk_either (fun h => sk_leaf ?_) fun h => ?_
 ·show (int (headE 0 room), hpT [] [] []) = _
  unfold tankE; rw [h]
 ·refine sk_ff (sk_leaf ?_)
  show (int (endE 0 room z1 z2), hpT [] [] []) = _
  unfold tankE; rw [h]; rfl) fun n room z1 z2 hn => qc_call n room z1 z2 hn
end
def tbT1 : List (FuncId × Spec) := (55, ctSp) :: (47, qcSp) :: tbT0
theorem tbT1_ok : TabOk Tryz.prog (tabOf tbT1) := tab_cons (tab_cons tbT0_ok qc_ok) ct_ok
theorem tank_fnz {g : Nat → Int} : ∀ {m k : Nat}, (fnz g m k).getD 0 = 0 → ∀ j, k ≤ j → j < k + m → g j = 0
 | 0, k, _, j, h1, h2 => by omega
 | m + 1, k, h, j, h1, h2 => by
  unfold fnz at h
  split at h
  ·rename_i hz
   have : g k ≠ 0 := by simpa using hz
   exact absurd h this
  ·rename_i hz
   rcases Nat.eq_or_lt_of_le h1 with e | e
   ·subst e; simpa using hz
   ·exact tank_fnz h j e (by omega)
theorem tank_rows {n : Nat} {room : Int} {z1 z2 : Nat → Int} (h : tankE n room z1 z2 = 0) : ∀ k, k < n → (1 ≤ z1 k ∧ z1 k ≤ 1000000) ∧ 0 ≤ z2 k ∧ z2 k ≤ 1000000000 := fun k hk => by
 unfold tankE at h
 split at h
 ·rename_i h1
  rw [h] at h1
  cases h1
 ·have h2 : (fnz (layE z1 z2) n 0).getD 0 = 0 := by
   split at h
   ·rename_i e he; rw [he]; exact h
   ·rename_i he; rw [he]; rfl
  have h3 := tank_fnz h2 k (Nat.zero_le k) (by omega)
  have h4 : rowE z1 z2 k = 0 := by
   unfold layE at h3
   split at h3
   ·rename_i h1
    rw [h3] at h1
    cases h1
   ·rename_i h1
    exact ne0 h1
  obtain ⟨h5, h6⟩ := first0 h4
  obtain ⟨h6, _⟩ := first0 h6
  exact ⟨wW0 h5, wW0 h6⟩
end Go.Ev
