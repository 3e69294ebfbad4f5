/- Run of the reference as an entry. Conditions: the capacity is not 0, the list is short. -/
import Derived.Test.YtlpchgidkibbeaaGreatDoorQRun8
namespace Go.Ev
open Go Go.Proofs
set_option maxRecDepth 100000

section
variable (n : Nat) (z0 : Nat → ByteArray) (z1 z2 : Nat → Int) (r0 r1 r2 r3 r4 r5 : Int)
def qrGo : Nat → Nat → ByteArray → Int → Int → Int → ByteArray × Int × Int × Int × Option (Nat × Int)
  | 0, _, s, heat, t, l => (s, heat, t, l, none)
  | m + 1, k, s, heat, t, l => match qe z0 z1 z2 r0 r1 r2 r3 r4 r5 k s heat != 0 with
    | true => (s, heat, t, l, some (k, qe z0 z1 z2 r0 r1 r2 r3 r4 r5 k s heat))
    | false => qrGo m (k + 1) (qs1 z0 z1 z2 r0 r1 r2 r3 r4 r5 k s heat) (qh1 z0 z1 z2 r0 r1 r2 r3 r4 r5 k s heat) (w64 (t + qt1 z0 z1 z2 r0 r1 r2 r3 r4 r5 k s heat)) (w64 (l + ql1 z0 z1 z2 r0 r1 r2 r3 r4 r5 k s heat))
def qrOut (x : ByteArray × Int × Int × Int × Option (Nat × Int)) : X × St := match x with
  | (s, heat, t, l, none) => (.exit 0, qrX n z0 z1 z2 s heat t l 0 0)
  | (s, heat, t, l, some (k, e)) => (.ret, qrY n z0 z1 z2 s heat t l (k : Int) e)
theorem qr_round (s0 : ByteArray) (heat0 : Int) (hn : n ≤ 9223372036854775807) (hc : (!(r0 == 0)) = true) (k : Nat) (hk : k ≤ n) (s : ByteArray) (heat t l : Int) : ComesF Tryz.prog qL (qrB n z0 z1 z2 r0 r1 r2 r3 r4 r5 s0 heat0) (qrH n z0 z1 z2 r0 r1 r2 r3 r4 r5 (k : Int) s heat t l)
    fun p : X × St => match p.1 with | .normal => ∃ y : Nat × ByteArray × Int × Int × Int, p.2.Le (qrH n z0 z1 z2 r0 r1 r2 r3 r4 r5 (y.1 : Int) y.2.1 y.2.2.1 y.2.2.2.1 y.2.2.2.2) ∧ y.1 ≤ n ∧ n - y.1 < n - k ∧ qrOut n z0 z1 z2 (qrGo z0 z1 z2 r0 r1 r2 r3 r4 r5 (n - y.1) y.1 y.2.1 y.2.2.1 y.2.2.2.1 y.2.2.2.2) = qrOut n z0 z1 z2 (qrGo z0 z1 z2 r0 r1 r2 r3 r4 r5 (n - k) k s heat t l) | _ => p = qrOut n z0 z1 z2 (qrGo z0 z1 z2 r0 r1 r2 r3 r4 r5 (n - k) k s heat t l) := by
  refine comesF_eq qL_eq ?_
  refine comesF_seq (φ := fun p => (k < n ∧ p = (.normal, qrH n z0 z1 z2 r0 r1 r2 r3 r4 r5 (k : Int) s heat t l)) ∨ (¬ k < n ∧ p = (.exit 0, qrX n z0 z1 z2 s heat t l 0 0)))
    (comesF_piece (recT_ok tb_cp_ok) rfl qSl qSx (qp1_into n z0 z1 z2 r0 r1 r2 r3 r4 r5 s0 heat0 k s heat t l) (qp1_fits n z0 z1 z2 r0 r1 r2 r3 r4 r5 s0 heat0 k s heat t l) ?_) ?_
  · unfold qs1S
    by_cases h : k < n
    · rw [(idx_facts h).1]; exact .inl ⟨h, rfl⟩
    · rw [idx_end h]; exact .inr ⟨h, rfl⟩
  rintro q (⟨h, rfl⟩ | ⟨h, rfl⟩)
  rotate_left
  · simp only []
    rw [show n - k = 0 by omega]
    rfl
  obtain ⟨e1, e2, e3⟩ := idx_facts h
  have hg : qrGo z0 z1 z2 r0 r1 r2 r3 r4 r5 (n - k) k s heat t l = (match qe z0 z1 z2 r0 r1 r2 r3 r4 r5 k s heat != 0 with
      | true => (s, heat, t, l, some (k, qe z0 z1 z2 r0 r1 r2 r3 r4 r5 k s heat))
      | false => qrGo z0 z1 z2 r0 r1 r2 r3 r4 r5 (n - (k + 1)) (k + 1) (qs1 z0 z1 z2 r0 r1 r2 r3 r4 r5 k s heat) (qh1 z0 z1 z2 r0 r1 r2 r3 r4 r5 k s heat) (w64 (t + qt1 z0 z1 z2 r0 r1 r2 r3 r4 r5 k s heat)) (w64 (l + ql1 z0 z1 z2 r0 r1 r2 r3 r4 r5 k s heat))) := by
      rw [show n - k = (n - (k + 1)) + 1 by omega]; rfl
  rw [hg]
  refine comesF_seq (φ := fun p => (qe z0 z1 z2 r0 r1 r2 r3 r4 r5 k s heat != 0) = true ∧ p = (.ret, qrY n z0 z1 z2 s heat t l (k : Int) (qe z0 z1 z2 r0 r1 r2 r3 r4 r5 k s heat)) ∨ (qe z0 z1 z2 r0 r1 r2 r3 r4 r5 k s heat != 0) = false ∧ p = (.normal, qrH n z0 z1 z2 r0 r1 r2 r3 r4 r5 (k : Int) (qs1 z0 z1 z2 r0 r1 r2 r3 r4 r5 k s heat) (qh1 z0 z1 z2 r0 r1 r2 r3 r4 r5 k s heat) (w64 (t + qt1 z0 z1 z2 r0 r1 r2 r3 r4 r5 k s heat)) (w64 (l + ql1 z0 z1 z2 r0 r1 r2 r3 r4 r5 k s heat)))) (comesF_block ?_) ?_
  · refine comesF_seq (φ := fun p => p = (.normal, qrM n z0 z1 z2 r0 r1 r2 r3 r4 r5 (k : Int) s heat t l (qs1 z0 z1 z2 r0 r1 r2 r3 r4 r5 k s heat) (qh1 z0 z1 z2 r0 r1 r2 r3 r4 r5 k s heat) (qt1 z0 z1 z2 r0 r1 r2 r3 r4 r5 k s heat) (ql1 z0 z1 z2 r0 r1 r2 r3 r4 r5 k s heat) (qe z0 z1 z2 r0 r1 r2 r3 r4 r5 k s heat)))
      (comesF_piece (recT_ok tb_cp_ok) rfl qSl2 qSx (qp2_into n z0 z1 z2 r0 r1 r2 r3 r4 r5 s0 heat0 k s heat t l) (qp2_fits n z0 z1 z2 r0 r1 r2 r3 r4 r5 s0 heat0 k s heat t l) ?_) ?_
    · unfold qs2S
      simp only [e1, e2, Sk.All, Nat.zero_add, Int.toNat_natCast, e3]
      exact ⟨(by first | exact trivial | rfl), (by first | exact trivial | rfl), (by first | exact trivial | rfl), (by first | exact trivial | rfl), hc, (by first | exact trivial | rfl)⟩
    · rintro q rfl
      refine comesF_seq (comesF_piece (recT_ok tb_cp_ok) rfl qSl2 qSx (φ := fun p => (qe z0 z1 z2 r0 r1 r2 r3 r4 r5 k s heat != 0) = true ∧ p = (.ret, qrY n z0 z1 z2 s heat t l (k : Int) (qe z0 z1 z2 r0 r1 r2 r3 r4 r5 k s heat)) ∨ (qe z0 z1 z2 r0 r1 r2 r3 r4 r5 k s heat != 0) = false ∧ p = (.normal, qrM n z0 z1 z2 r0 r1 r2 r3 r4 r5 (k : Int) s heat t l (qs1 z0 z1 z2 r0 r1 r2 r3 r4 r5 k s heat) (qh1 z0 z1 z2 r0 r1 r2 r3 r4 r5 k s heat) (qt1 z0 z1 z2 r0 r1 r2 r3 r4 r5 k s heat) (ql1 z0 z1 z2 r0 r1 r2 r3 r4 r5 k s heat) (qe z0 z1 z2 r0 r1 r2 r3 r4 r5 k s heat)))
        (qp3_into n z0 z1 z2 r0 r1 r2 r3 r4 r5 s0 heat0 k s heat t l _ _ _ _ _) (qp3_fits n z0 z1 z2 r0 r1 r2 r3 r4 r5 s0 heat0 k s heat t l _ _ _ _ _) ?_) ?_
      · unfold qs3S
        cases hz : qe z0 z1 z2 r0 r1 r2 r3 r4 r5 k s heat != 0 with
        | true => exact .inl ⟨rfl, rfl⟩
        | false => exact .inr ⟨rfl, rfl⟩
      · rintro q (⟨hz, rfl⟩ | ⟨hz, rfl⟩)
        · exact .inl ⟨hz, rfl⟩
        · exact comesF_piece (recT_ok tb_cp_ok) rfl qSl qSx (qp4_into n z0 z1 z2 r0 r1 r2 r3 r4 r5 s0 heat0 (k : Int) s heat t l _ _ _ _ _) (qp4_fits n z0 z1 z2 r0 r1 r2 r3 r4 r5 s0 heat0 (k : Int) s heat t l _ _ _ _ _) (.inr ⟨hz, rfl⟩)
  · rintro q (⟨hz, rfl⟩ | ⟨hz, rfl⟩)
    · simp only []
      rw [hz]
      rfl
    · refine comesF_piece (recT_ok tb_cp_ok) rfl qSl qSx (qp5_into n z0 z1 z2 r0 r1 r2 r3 r4 r5 s0 heat0 k _ _ _ _) (qp5_fits n z0 z1 z2 r0 r1 r2 r3 r4 r5 s0 heat0 k _ _ _ _) ?_
      rw [hz]
      refine ⟨(k + 1, _, _, _, _), ?_, h, by simp only []; omega, rfl⟩
      rw [wrap_succ (by omega)]
      exact St.Le.refl _
theorem qr_loop (s0 : ByteArray) (heat0 : Int) (hn : n ≤ 9223372036854775807) (hc : (!(r0 == 0)) = true) (s : ByteArray) (heat : Int) : ComesF Tryz.prog (.loop (loopF Tryz.f66)) (qrB n z0 z1 z2 r0 r1 r2 r3 r4 r5 s0 heat0) (qrH n z0 z1 z2 r0 r1 r2 r3 r4 r5 ((0 : Nat) : Int) s heat 0 0) fun q => q = qrOut n z0 z1 z2 (qrGo z0 z1 z2 r0 r1 r2 r3 r4 r5 n 0 s heat 0 0) :=
  loop_pieces (ι := Nat × ByteArray × Int × Int × Int) (fun x => qrH n z0 z1 z2 r0 r1 r2 r3 r4 r5 (x.1 : Int) x.2.1 x.2.2.1 x.2.2.2.1 x.2.2.2.2) (fun x => n - x.1) (fun x => x.1 ≤ n)
    (fun x => qrOut n z0 z1 z2 (qrGo z0 z1 z2 r0 r1 r2 r3 r4 r5 (n - x.1) x.1 x.2.1 x.2.2.1 x.2.2.2.1 x.2.2.2.2)) (fun x hx => qr_round n z0 z1 z2 r0 r1 r2 r3 r4 r5 s0 heat0 hn hc x.1 hx x.2.1 x.2.2.1 x.2.2.2.1 x.2.2.2.2) (0, s, heat, 0, 0) (Nat.zero_le n)
def qrR (ns : ByteArray) (heat t l i e : Int) : St := qrN n z0 z1 z2 [(6, pt 1), (7, pt 2), (8, int i), (9, int e)] [rcv 25 ns heat, bal 126 t l]
/-- what a run hands back -/
def runQV (x : ByteArray × Int × Int × Int × Option (Nat × Int)) : A := runA6 (rvQ x)
noncomputable def qrP (s : ByteArray) (heat : Int) (q : X × St) : Tree ((X × St) ⊕ (List Bool × St)) := evO2 (recT Tryz.prog (tabOf tb_cp)) true (bodyOf Tryz.f66) (pathF Tryz.f66) [] [6, 7, 8, 9] (qrB n z0 z1 z2 r0 r1 r2 r3 r4 r5 s heat) q
theorem qr_pre (s : ByteArray) (heat : Int) : evO (recT Tryz.prog (tabOf tb_cp)) (bodyOf Tryz.f66) qSl [6, 7, 8, 9] (qrB n z0 z1 z2 r0 r1 r2 r3 r4 r5 s heat) = .leaf (.inr (pathF Tryz.f66, qrH n z0 z1 z2 r0 r1 r2 r3 r4 r5 ((0 : Nat) : Int) s heat 0 0)) := by kernel_rfl
theorem qr_exit (s0 : ByteArray) (heat0 : Int) (s : ByteArray) (heat t l : Int) : qrP n z0 z1 z2 r0 r1 r2 r3 r4 r5 s0 heat0 (.exit 0, qrX n z0 z1 z2 s heat t l 0 0) = into (qrP n z0 z1 z2 r0 r1 r2 r3 r4 r5 s0 heat0 (.exit 0, qrX n z0 z1 z2 s heat t l 0 0)) (.leaf (.inl (.ret, qrR n z0 z1 z2 s heat t l 0 0))) := by kernel_rfl
theorem qr_exit_fits (s0 : ByteArray) (heat0 : Int) (s : ByteArray) (heat t l : Int) : fits (qrP n z0 z1 z2 r0 r1 r2 r3 r4 r5 s0 heat0 (.exit 0, qrX n z0 z1 z2 s heat t l 0 0)) (.leaf (.inl (.ret, qrR n z0 z1 z2 s heat t l 0 0))) = true := by kernel_rfl
theorem qr_ret (s0 : ByteArray) (heat0 : Int) (s : ByteArray) (heat t l i e : Int) : qrP n z0 z1 z2 r0 r1 r2 r3 r4 r5 s0 heat0 (.ret, qrY n z0 z1 z2 s heat t l i e) = into (qrP n z0 z1 z2 r0 r1 r2 r3 r4 r5 s0 heat0 (.ret, qrY n z0 z1 z2 s heat t l i e)) (.leaf (.inl (.ret, qrR n z0 z1 z2 emptyB 0 0 0 i e))) := by kernel_rfl
theorem qr_ret_fits (s0 : ByteArray) (heat0 : Int) (s : ByteArray) (heat t l i e : Int) : fits (qrP n z0 z1 z2 r0 r1 r2 r3 r4 r5 s0 heat0 (.ret, qrY n z0 z1 z2 s heat t l i e)) (.leaf (.inl (.ret, qrR n z0 z1 z2 emptyB 0 0 0 i e))) = true := by kernel_rfl
theorem qr_left (ns : ByteArray) (heat t l i e : Int) : Left2 Tryz.prog Tryz.f66 (hpT [⟨some 0, n, st3 z0 z1 z2⟩] [] []) (runA ns heat t l i e) (hpT [⟨some 0, n, st3 z0 z1 z2⟩] [] []) (.ret, qrR n z0 z1 z2 ns heat t l i e) := left_of (b := true) (by kernel_rfl)
theorem qr_call (s : ByteArray) (heat : Int) (hn : n ≤ 9223372036854775807) (hc : (!(r0 == 0)) = true) : CallAt Tryz.prog 66 [.agg (rulesC r0 r1 r2 r3 r4 r5), .agg [cs s, ci heat], slT 0 3 n] (hpT [⟨some 0, n, st3 z0 z1 z2⟩] [] []) (runQV (qrGo z0 z1 z2 r0 r1 r2 r3 r4 r5 n 0 s heat 0 0)) (hpT [⟨some 0, n, st3 z0 z1 z2⟩] [] []) := by
  refine call_base (recT_ok tb_cp_ok) (c := bodyOf Tryz.f66) (fn := Tryz.f66) Tryz.func66 (by kernel_rfl) (by kernel_rfl) (false, true) 1 qSl [6, 7, 8, 9] (sB := qrB n z0 z1 z2 r0 r1 r2 r3 r4 r5 s heat) (by kernel_rfl) (qr_pre n z0 z1 z2 r0 r1 r2 r3 r4 r5 s heat) ?_
  refine cutF_stop _ true [] [6, 7, 8, 9] (qr_loop n z0 z1 z2 r0 r1 r2 r3 r4 r5 s heat hn hc s heat) fun q hq => ?_
  subst hq
  generalize qrGo z0 z1 z2 r0 r1 r2 r3 r4 r5 n 0 s heat 0 0 = x
  obtain ⟨s1, heat1, t1, l1, o⟩ := x
  cases o with
  | none => exact all_into (qr_exit n z0 z1 z2 r0 r1 r2 r3 r4 r5 s heat s1 heat1 t1 l1) (qr_exit_fits n z0 z1 z2 r0 r1 r2 r3 r4 r5 s heat s1 heat1 t1 l1) (qr_left n z0 z1 z2 _ _ _ _ _ _)
  | some ke =>
    obtain ⟨k, e⟩ := ke
    exact all_into (qr_ret n z0 z1 z2 r0 r1 r2 r3 r4 r5 s heat s1 heat1 t1 l1 _ e) (qr_ret_fits n z0 z1 z2 r0 r1 r2 r3 r4 r5 s heat s1 heat1 t1 l1 _ e) (qr_left n z0 z1 z2 _ _ _ _ _ _)
end
noncomputable def qrNil (s : ByteArray) (heat r0 r1 r2 r3 r4 r5 : Int) : Tree ((Bool × A × Hp) ⊕ (List Bool × St)) := preA Tryz.prog (tabOf tb_cp) Tryz.f66 [.agg (rulesC r0 r1 r2 r3 r4 r5), .agg [cs s, ci heat], nilA] (hpL [] []) (false, true)
theorem qr_nil_into (s : ByteArray) (heat r0 r1 r2 r3 r4 r5 : Int) : qrNil s heat r0 r1 r2 r3 r4 r5 = into (qrNil s heat r0 r1 r2 r3 r4 r5) (.ff (.leaf (.inl (true, runA s heat 0 0 0 0, hpL [] [])))) := by kernel_rfl
theorem qr_nil_fits (s : ByteArray) (heat r0 r1 r2 r3 r4 r5 : Int) : fits (qrNil s heat r0 r1 r2 r3 r4 r5) (.ff (.leaf (.inl (true, runA s heat 0 0 0 0, hpL [] [])))) = true := by kernel_rfl
theorem qr_nil (s : ByteArray) (heat r0 r1 r2 r3 r4 r5 : Int) : CallAt Tryz.prog 66 [.agg (rulesC r0 r1 r2 r3 r4 r5), .agg [cs s, ci heat], nilA] (hpL [] []) (runA s heat 0 0 0 0) (hpL [] []) :=
  call_sk tb_cp_ok Tryz.func66 (by kernel_rfl) (false, true) (by kernel_rfl) (qr_nil_into s heat r0 r1 r2 r3 r4 r5) (qr_nil_fits s heat r0 r1 r2 r3 r4 r5) rfl
def qrF : FT
  | [r0, r1, r2, r3, r4, r5, heat], [], [s], [⟨_, n, [.str z0, .int .i64 z1, .int .i64 z2]⟩] => .need (Nat.ble n 1000000 && !(r0 == 0)) (.leaf (runQV (qrGo z0 z1 z2 r0 r1 r2 r3 r4 r5 n 0 s heat 0 0), []))
  | _, _, _, _ => .fail 364
def qrSp : Spec := fun args h => specT runShp [] qrF args h
theorem qr_ok : SpecOk Tryz.prog 66 qrSp := by
  refine specT_ok rfl (by decide) fun l m n ts v news hl hm hn ht hnil hF => ?_
  unfold qrF at hF
  split at hF
  · rename_i r0 r1 r2 r3 r4 r5 heat s id n z0 z1 z2
    obtain ⟨hok, hF⟩ := Tree.need_some hF
    rw [Bool.and_eq_true] at hok
    have hle := Nat.le_of_ble_eq_true hok.1
    simp only [Tree.run, Option.some.injEq, Prod.mk.injEq] at hF
    obtain ⟨rfl, rfl⟩ := hF
    cases id with
    | none =>
      have h0 : n = 0 := hnil _ (List.mem_singleton.2 rfl) rfl
      subst h0
      exact qr_nil s heat r0 r1 r2 r3 r4 r5
    | some id => exact qr_call n z0 z1 z2 r0 r1 r2 r3 r4 r5 s heat (by omega) hok.2
  · cases hF
noncomputable def tb_run : List (FuncId × Spec) := (66, qrSp) :: (63, srSp) :: tb_cp
theorem tb_run_ok : TabOk Tryz.prog (tabOf tb_run) := tab_cons (tab_cons tb_cp_ok sr_ok) qr_ok
end Go.Ev
