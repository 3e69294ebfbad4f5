/- Run of the program. Conditions: the list is short. -/
import Derived.Test.YtlpchgidkibbeaaGreatDoorRun0
import Derived.Test.YtlpchgidkibbeaaGreatDoorLaw2
namespace Go.Ev
open Go Go.Proofs
set_option maxRecDepth 100000

/-! ### spillage/salt.Run -/
section
variable (n : Nat) (z0 : Nat → ByteArray) (z1 z2 : Nat → Int) (r0 r1 r2 r3 r4 r5 : Int)
/-- the rounds from one on: the receiver, the balance, and where a step fails -/
def srGo : Nat → Nat → ByteArray → Int → Int → Int → ByteArray × Int × Int × Int × Option (Nat × Int)
  | 0, _, s, heat, t, l => (s, heat, t, l, none)
  | m + 1, k, s, heat, t, l => match se z0 z1 z2 r0 r1 r2 r3 r4 r5 k s heat != 0 with
    | true => (s, heat, t, l, some (k, se z0 z1 z2 r0 r1 r2 r3 r4 r5 k s heat))
    | false => srGo m (k + 1) (ss1 z0 z1 z2 r0 r1 r2 r3 r4 r5 k s heat) (sh1 z0 z1 z2 r0 r1 r2 r3 r4 r5 k s heat) (w64 (t + st1 z0 z1 z2 r0 r1 r2 r3 r4 r5 k s heat)) (w64 (l + sl1 z0 z1 z2 r0 r1 r2 r3 r4 r5 k s heat))
def srOut (x : ByteArray × Int × Int × Int × Option (Nat × Int)) : X × St := match x with
  | (s, heat, t, l, none) => (.exit 0, srX n z0 z1 z2 s heat t l 0 0)
  | (s, heat, t, l, some (k, e)) => (.ret, srY n z0 z1 z2 s heat t l (k : Int) e)
def srSk (k : Nat) (s : ByteArray) (heat t l : Int) : Sk (X × St) :=
  .node (decide ((k : Int) < (n : Int))) (.need (decide (0 ≤ (k : Int)) && decide ((k : Int) < (n : Int))) (.need (Nat.blt (0 + Int.toNat (k : Int)) n) (.need (Nat.blt (0 + Int.toNat (k : Int)) n) (.need (Nat.blt (0 + Int.toNat (k : Int)) n)
    (.need (stepK ([r0, r1, r2, r3, r4, r5] ++ ([heat] ++ ([z1 (0 + Int.toNat (k : Int)), z2 (0 + Int.toNat (k : Int))] ++ []))) [] [s, z0 (0 + Int.toNat (k : Int))])
      (.node (eW (actNs s (z0 (0 + Int.toNat (k : Int)))) (actB1 s (z0 (0 + Int.toNat (k : Int)))) (actB2 (z0 (0 + Int.toNat (k : Int))) r0 r3 heat) r0 r1 r2 r4 r5 heat (z1 (0 + Int.toNat (k : Int))) (z2 (0 + Int.toNat (k : Int))) != 0) (.leaf (.ret, srY n z0 z1 z2 s heat t l (k : Int) (se z0 z1 z2 r0 r1 r2 r3 r4 r5 (0 + Int.toNat (k : Int)) s heat)))
        (.leaf (.normal, srH n z0 z1 z2 r0 r1 r2 r3 r4 r5 (IntKind.i64.wrap ((k : Int) + 1)) (ss1 z0 z1 z2 r0 r1 r2 r3 r4 r5 (0 + Int.toNat (k : Int)) s heat) (sh1 z0 z1 z2 r0 r1 r2 r3 r4 r5 (0 + Int.toNat (k : Int)) s heat) (w64 (t + st1 z0 z1 z2 r0 r1 r2 r3 r4 r5 (0 + Int.toNat (k : Int)) s heat)) (w64 (l + sl1 z0 z1 z2 r0 r1 r2 r3 r4 r5 (0 + Int.toNat (k : Int)) s heat))))))))))
    (.leaf (.exit 0, srX n z0 z1 z2 s heat t l 0 0))
theorem sr_round (s0 : ByteArray) (heat0 : Int) (k : Nat) (s : ByteArray) (heat t l : Int) : (recT Tryz.prog (tabOf tb_cp) (loopF Tryz.f63) (srH n z0 z1 z2 r0 r1 r2 r3 r4 r5 k s heat t l)).bind (canonT [3, 4, 6, 7, 8, 9, 11, 36, 37, 38] [4, 6, 7, 8, 9, 11] (srB n z0 z1 z2 r0 r1 r2 r3 r4 r5 s0 heat0)) =
    into ((recT Tryz.prog (tabOf tb_cp) (loopF Tryz.f63) (srH n z0 z1 z2 r0 r1 r2 r3 r4 r5 k s heat t l)).bind (canonT [3, 4, 6, 7, 8, 9, 11, 36, 37, 38] [4, 6, 7, 8, 9, 11] (srB n z0 z1 z2 r0 r1 r2 r3 r4 r5 s0 heat0))) (srSk n z0 z1 z2 r0 r1 r2 r3 r4 r5 k s heat t l) := by kernel_rfl
theorem sr_fits (s0 : ByteArray) (heat0 : Int) (k : Nat) (s : ByteArray) (heat t l : Int) : fits ((recT Tryz.prog (tabOf tb_cp) (loopF Tryz.f63) (srH n z0 z1 z2 r0 r1 r2 r3 r4 r5 k s heat t l)).bind (canonT [3, 4, 6, 7, 8, 9, 11, 36, 37, 38] [4, 6, 7, 8, 9, 11] (srB n z0 z1 z2 r0 r1 r2 r3 r4 r5 s0 heat0))) (srSk n z0 z1 z2 r0 r1 r2 r3 r4 r5 k s heat t l) = true := by kernel_rfl
/-! ### the call -/
def runA (ns : ByteArray) (heat t l i e : Int) : A := .tup [(true, [cs ns, ci heat]), (true, [ci t, ci l]), (false, [ci i]), (false, [ci e])]
def srR (ns : ByteArray) (heat t l i e : Int) : St := srN n z0 z1 z2 [(6, pt 2), (7, pt 3), (8, int i), (9, int e)] [rcv 35 ns heat, bal 120 t l]
def srunE (s : ByteArray) (heat : Int) : Int := firstZ [rulesErr r0 r1 r2 r3 r4 r5, recvErr s heat, errIf (decide ((n : Int) > 256)) 5, (fnz (mapSC0 z0 z1 z2 r0 r1 r2 r3 r4 r5) n 0).getD 0]
/-- what a run hands back -/
def rvQ (x : ByteArray × Int × Int × Int × Option (Nat × Int)) : ByteArray × Int × Int × Int × Int × Int := match x with
    | (s, heat, t, l, none) => (s, heat, t, l, 0, 0)
    | (_, _, _, _, some (k, e)) => (emptyB, 0, 0, 0, (k : Int), e)
def rvS (E : Int) (x : ByteArray × Int × Int × Int × Option (Nat × Int)) : ByteArray × Int × Int × Int × Int × Int := match E != 0 with
  | true => (emptyB, 0, 0, 0, 0, E)
  | false => rvQ x
def runA6 (r : ByteArray × Int × Int × Int × Int × Int) : A := runA r.1 r.2.1 r.2.2.1 r.2.2.2.1 r.2.2.2.2.1 r.2.2.2.2.2
def runV (E : Int) (x : ByteArray × Int × Int × Int × Option (Nat × Int)) : A := runA6 (rvS E x)
noncomputable def srPreA (s : ByteArray) (heat E : Int) : Sk ((X × St) ⊕ (List Bool × St)) := .node (E != 0) (.leaf (.inl (.ret, srR n z0 z1 z2 emptyB 0 0 0 0 E))) (.leaf (.inr (pathF Tryz.f63, srH n z0 z1 z2 r0 r1 r2 r3 r4 r5 ((0 : Nat) : Int) s heat 0 0)))
noncomputable def srPre (s : ByteArray) (heat : Int) : Sk ((X × St) ⊕ (List Bool × St)) :=
  .nn (.nn (.nn (.need ((Nat.ble n n && true) && ((true && true) && true)) (.need (Nat.ble n 1000000) (.node (Nat.beq n 0) (srPreA n z0 z1 z2 r0 r1 r2 r3 r4 r5 s heat (firstZ [rulesErr r0 r1 r2 r3 r4 r5, recvErr s heat, errIf (decide ((n : Int) > 256)) 5, 0]))
    (.need (Nat.ble n n) (srPreA n z0 z1 z2 r0 r1 r2 r3 r4 r5 s heat (srunE n z0 z1 z2 r0 r1 r2 r3 r4 r5 s heat))))))))
noncomputable def srO (s : ByteArray) (heat : Int) : Tree ((X × St) ⊕ (List Bool × St)) := evO (recT Tryz.prog (tabOf tb_cp)) (bodyOf Tryz.f63) [3, 4, 6, 7, 8, 9, 11, 36, 37, 38] [6, 7, 8, 9] (srB n z0 z1 z2 r0 r1 r2 r3 r4 r5 s heat)
noncomputable def srP (s : ByteArray) (heat : Int) (q : X × St) : Tree ((X × St) ⊕ (List Bool × St)) := evO2 (recT Tryz.prog (tabOf tb_cp)) true (bodyOf Tryz.f63) (pathF Tryz.f63) [] [6, 7, 8, 9] (srB n z0 z1 z2 r0 r1 r2 r3 r4 r5 s heat) q
theorem sr_pre (s : ByteArray) (heat : Int) : srO n z0 z1 z2 r0 r1 r2 r3 r4 r5 s heat = into (srO n z0 z1 z2 r0 r1 r2 r3 r4 r5 s heat) (srPre n z0 z1 z2 r0 r1 r2 r3 r4 r5 s heat) := by kernel_rfl
theorem sr_pre_fits (s : ByteArray) (heat : Int) : fits (srO n z0 z1 z2 r0 r1 r2 r3 r4 r5 s heat) (srPre n z0 z1 z2 r0 r1 r2 r3 r4 r5 s heat) = true := by kernel_rfl
theorem sr_exit (s0 : ByteArray) (heat0 : Int) (s : ByteArray) (heat t l : Int) : srP n z0 z1 z2 r0 r1 r2 r3 r4 r5 s0 heat0 (.exit 0, srX n z0 z1 z2 s heat t l 0 0) = into (srP n z0 z1 z2 r0 r1 r2 r3 r4 r5 s0 heat0 (.exit 0, srX n z0 z1 z2 s heat t l 0 0)) (.leaf (.inl (.ret, srR n z0 z1 z2 s heat t l 0 0))) := by kernel_rfl
theorem sr_exit_fits (s0 : ByteArray) (heat0 : Int) (s : ByteArray) (heat t l : Int) : fits (srP n z0 z1 z2 r0 r1 r2 r3 r4 r5 s0 heat0 (.exit 0, srX n z0 z1 z2 s heat t l 0 0)) (.leaf (.inl (.ret, srR n z0 z1 z2 s heat t l 0 0))) = true := by kernel_rfl
theorem sr_ret (s0 : ByteArray) (heat0 : Int) (s : ByteArray) (heat t l i e : Int) : srP n z0 z1 z2 r0 r1 r2 r3 r4 r5 s0 heat0 (.ret, srY n z0 z1 z2 s heat t l i e) = into (srP n z0 z1 z2 r0 r1 r2 r3 r4 r5 s0 heat0 (.ret, srY n z0 z1 z2 s heat t l i e)) (.leaf (.inl (.ret, srR n z0 z1 z2 emptyB 0 0 0 i e))) := by kernel_rfl
theorem sr_ret_fits (s0 : ByteArray) (heat0 : Int) (s : ByteArray) (heat t l i e : Int) : fits (srP n z0 z1 z2 r0 r1 r2 r3 r4 r5 s0 heat0 (.ret, srY n z0 z1 z2 s heat t l i e)) (.leaf (.inl (.ret, srR n z0 z1 z2 emptyB 0 0 0 i e))) = true := by kernel_rfl
theorem sr_left (ns : ByteArray) (heat t l i e : Int) : Left2 Tryz.prog Tryz.f63 (hpT [⟨some 0, n, st3 z0 z1 z2⟩] glA []) (runA ns heat t l i e) (hpT [⟨some 0, n, st3 z0 z1 z2⟩] glA []) (.ret, srR n z0 z1 z2 ns heat t l i e) := left_of (b := true) (by kernel_rfl)
theorem fnz_none {g : Nat → Int} : ∀ {m k : Nat}, (fnz g m k).getD 0 = 0 → ∀ j, k ≤ j → j < k + m → g j = 0
  | 0, k, _, j, h1, h2 => by omega
  | m + 1, k, h, j, h1, h2 => by
    unfold fnz at h
    split at h
    · rename_i hz
      have : g k ≠ 0 := by simpa using hz
      exact absurd h this
    · rename_i hz
      rcases Nat.eq_or_lt_of_le h1 with e | e
      · subst e; simpa using hz
      · exact fnz_none h j e (by omega)
theorem srun_facts {s : ByteArray} {heat : Int} (h : srunE n z0 z1 z2 r0 r1 r2 r3 r4 r5 s heat = 0) : rulesErr r0 r1 r2 r3 r4 r5 = 0 ∧ recvErr s heat = 0 ∧ n ≤ 256 ∧ ∀ k, k < n → stepErr r0 (z1 k) (z2 k) (z0 k) = 0 := by
  unfold srunE at h
  obtain ⟨h1, h⟩ := first0 h
  obtain ⟨h2, h⟩ := first0 h
  obtain ⟨h3, h⟩ := first0 h
  obtain ⟨h4, _⟩ := first0 h
  refine ⟨h1, h2, ?_, fun k hk => ?_⟩
  · have := errIf0 (by decide) h3
    simp only [decide_eq_false_iff_not] at this
    omega
  · exact fnz_none h4 k (Nat.zero_le k) (by omega)
theorem sr_loop (s0 : ByteArray) (heat0 : Int) (hn : n ≤ 1000000) (hc : (!(r0 == 0)) = true) (ha : ∀ k, k < n → isAct (z0 k) = true) (s : ByteArray) (heat : Int) : ComesF Tryz.prog (.loop (loopF Tryz.f63)) (srB n z0 z1 z2 r0 r1 r2 r3 r4 r5 s0 heat0) (srH n z0 z1 z2 r0 r1 r2 r3 r4 r5 ((0 : Nat) : Int) s heat 0 0) fun q => q = srOut n z0 z1 z2 (srGo z0 z1 z2 r0 r1 r2 r3 r4 r5 n 0 s heat 0 0) := by
  refine loop_all (ι := Nat × ByteArray × Int × Int × Int) (recT_ok tb_cp_ok) rfl [3, 4, 6, 7, 8, 9, 11, 36, 37, 38] [4, 6, 7, 8, 9, 11] (fun x => srH n z0 z1 z2 r0 r1 r2 r3 r4 r5 (x.1 : Int) x.2.1 x.2.2.1 x.2.2.2.1 x.2.2.2.2) (fun x => n - x.1) (fun x => x.1 ≤ n)
    (fun x => srOut n z0 z1 z2 (srGo z0 z1 z2 r0 r1 r2 r3 r4 r5 (n - x.1) x.1 x.2.1 x.2.2.1 x.2.2.2.1 x.2.2.2.2)) (fun x hx => ?_) (0, s, heat, 0, 0) (Nat.zero_le n)
  obtain ⟨k, s, heat, t, l⟩ := x
  refine all_into (sr_round n z0 z1 z2 r0 r1 r2 r3 r4 r5 s0 heat0 k s heat t l) (sr_fits n z0 z1 z2 r0 r1 r2 r3 r4 r5 s0 heat0 k s heat t l) ?_
  have hx : k ≤ n := hx
  show Sk.All (fun p : X × St => match p.1 with | .normal => ∃ y : Nat × ByteArray × Int × Int × Int, p.2.Le (srH n z0 z1 z2 r0 r1 r2 r3 r4 r5 (y.1 : Int) y.2.1 y.2.2.1 y.2.2.2.1 y.2.2.2.2) ∧ y.1 ≤ n ∧ n - y.1 < n - k ∧ srOut n z0 z1 z2 (srGo z0 z1 z2 r0 r1 r2 r3 r4 r5 (n - y.1) y.1 y.2.1 y.2.2.1 y.2.2.2.1 y.2.2.2.2) = srOut n z0 z1 z2 (srGo z0 z1 z2 r0 r1 r2 r3 r4 r5 (n - k) k s heat t l) | _ => p = srOut n z0 z1 z2 (srGo z0 z1 z2 r0 r1 r2 r3 r4 r5 (n - k) k s heat t l)) _
  unfold srSk
  by_cases h : k < n
  · obtain ⟨e1, e2, e3⟩ := idx_facts h
    have hg : srGo z0 z1 z2 r0 r1 r2 r3 r4 r5 (n - k) k s heat t l = (match se z0 z1 z2 r0 r1 r2 r3 r4 r5 k s heat != 0 with
      | true => (s, heat, t, l, some (k, se z0 z1 z2 r0 r1 r2 r3 r4 r5 k s heat))
      | false => srGo z0 z1 z2 r0 r1 r2 r3 r4 r5 (n - (k + 1)) (k + 1) (ss1 z0 z1 z2 r0 r1 r2 r3 r4 r5 k s heat) (sh1 z0 z1 z2 r0 r1 r2 r3 r4 r5 k s heat) (w64 (t + st1 z0 z1 z2 r0 r1 r2 r3 r4 r5 k s heat)) (w64 (l + sl1 z0 z1 z2 r0 r1 r2 r3 r4 r5 k s heat))) := by
      rw [show n - k = (n - (k + 1)) + 1 by omega]; rfl
    rw [hg]
    simp only [e1, e2, Sk.All, Nat.zero_add, Int.toNat_natCast, e3]
    refine ⟨(by first | exact trivial | rfl), (by first | exact trivial | rfl), (by first | exact trivial | rfl), (by first | exact trivial | rfl), ?_, ?_⟩
    · show (!(r0 == 0) && isAct (z0 k)) = true
      rw [hc, ha k h]; rfl
    · change (match se z0 z1 z2 r0 r1 r2 r3 r4 r5 k s heat != 0 with | true => _ | false => _)
      cases hz : se z0 z1 z2 r0 r1 r2 r3 r4 r5 k s heat != 0 with
      | true => rfl
      | false =>
        refine ⟨(k + 1, _, _, _, _), ?_, h, by simp only []; omega, rfl⟩
        rw [wrap_succ (by omega)]
        exact St.Le.refl _
  · rw [idx_end h, show n - k = 0 by omega]
    rfl
theorem sr_hpre (s : ByteArray) (heat : Int) : evO (recT Tryz.prog (tabOf tb_cp)) (bodyOf Tryz.f63) [3, 4, 6, 7, 8, 9, 11, 36, 37, 38] [6, 7, 8, 9] (srB n z0 z1 z2 r0 r1 r2 r3 r4 r5 s heat) = srO n z0 z1 z2 r0 r1 r2 r3 r4 r5 s heat := by delta srO; rfl
theorem sr_call (s : ByteArray) (heat : Int) (hn : n ≤ 1000000) : CallAt Tryz.prog 63 [.agg (rulesC r0 r1 r2 r3 r4 r5), .agg [cs s, ci heat], slT 0 3 n] (hpT [⟨some 0, n, st3 z0 z1 z2⟩] glA []) (runV (srunE n z0 z1 z2 r0 r1 r2 r3 r4 r5 s heat) (srGo z0 z1 z2 r0 r1 r2 r3 r4 r5 n 0 s heat 0 0)) (hpT [⟨some 0, n, st3 z0 z1 z2⟩] glA []) := by
  refine call_base (recT_ok tb_cp_ok) (c := bodyOf Tryz.f63) (fn := Tryz.f63) Tryz.func63 (by kernel_rfl) (by kernel_rfl) (false, true) 1 [3, 4, 6, 7, 8, 9, 11, 36, 37, 38] [6, 7, 8, 9] (sB := srB n z0 z1 z2 r0 r1 r2 r3 r4 r5 s heat) (by kernel_rfl) (sr_hpre n z0 z1 z2 r0 r1 r2 r3 r4 r5 s heat) ?_
  have main : ∀ E : Int, E = srunE n z0 z1 z2 r0 r1 r2 r3 r4 r5 s heat → (srPreA n z0 z1 z2 r0 r1 r2 r3 r4 r5 s heat E).All (CutF Tryz.prog (recT Tryz.prog (tabOf tb_cp)) (bodyOf Tryz.f63) (srB n z0 z1 z2 r0 r1 r2 r3 r4 r5 s heat) (Left2 Tryz.prog Tryz.f63 (hpT [⟨some 0, n, st3 z0 z1 z2⟩] glA []) (runV (srunE n z0 z1 z2 r0 r1 r2 r3 r4 r5 s heat) (srGo z0 z1 z2 r0 r1 r2 r3 r4 r5 n 0 s heat 0 0)) (hpT [⟨some 0, n, st3 z0 z1 z2⟩] glA [])) 1) := fun E hE => by
    unfold srPreA runV rvS
    rw [← hE]
    cases he : E != 0 with
    | true =>
      simp only [Sk.All]
      exact sr_left n z0 z1 z2 _ _ _ _ _ _
    | false =>
      have h0 : srunE n z0 z1 z2 r0 r1 r2 r3 r4 r5 s heat = 0 := by rw [← hE]; exact ne0 he
      obtain ⟨h1, h2, h3, h4⟩ := srun_facts n z0 z1 z2 r0 r1 r2 r3 r4 r5 h0
      simp only [Sk.All]
      refine ⟨_, true, [], [6, 7, 8, 9], sr_loop n z0 z1 z2 r0 r1 r2 r3 r4 r5 s heat hn (rules_c h1) (fun k hk => (step0 (h4 k hk)).1) s heat, fun q hq => ?_⟩
      subst hq
      generalize srGo z0 z1 z2 r0 r1 r2 r3 r4 r5 n 0 s heat 0 0 = x
      obtain ⟨s1, heat1, t1, l1, o⟩ := x
      cases o with
      | none => exact all_into (sr_exit n z0 z1 z2 r0 r1 r2 r3 r4 r5 s heat s1 heat1 t1 l1) (sr_exit_fits n z0 z1 z2 r0 r1 r2 r3 r4 r5 s heat s1 heat1 t1 l1) (sr_left n z0 z1 z2 _ _ _ _ _ _)
      | some ke =>
        obtain ⟨k, e⟩ := ke
        exact all_into (sr_ret n z0 z1 z2 r0 r1 r2 r3 r4 r5 s heat s1 heat1 t1 l1 _ e) (sr_ret_fits n z0 z1 z2 r0 r1 r2 r3 r4 r5 s heat s1 heat1 t1 l1 _ e) (sr_left n z0 z1 z2 _ _ _ _ _ _)
  refine all_into (sr_pre n z0 z1 z2 r0 r1 r2 r3 r4 r5 s heat) (sr_pre_fits n z0 z1 z2 r0 r1 r2 r3 r4 r5 s heat) ?_
  unfold srPre
  refine ⟨by rw [ble_self]; rfl, by rw [Nat.ble_eq]; exact hn, ?_⟩
  cases h0 : Nat.beq n 0 with
  | true =>
    refine main _ ?_
    obtain rfl := Nat.eq_of_beq_eq_true h0
    rfl
  | false => exact ⟨ble_self n, main _ rfl⟩
end
end Go.Ev
