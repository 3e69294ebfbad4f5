/- Sure of the program as an entry. Conditions: the list is short. -/
import Derived.Test.YtlpchgidkibbeaaGreatDoorSure
import Derived.Test.YtlpchgidkibbeaaGreatDoorSk1
namespace Go.Ev
open Go Go.Proofs
set_option maxRecDepth 100000

section
variable (n : Nat) (z0 : Nat → ByteArray) (z1 z2 z3 : Nat → Int) (r0 r1 r2 r3 r4 r5 : Int)
/-- a tree that leads to a property (a record: what it says is not unfolded) -/
structure Leads {α : Type} (p : α → Prop) (T : Tree α) : Prop where
  all : T.All p
theorem su_exitAll {p : (X × St) ⊕ (List Bool × St) → Prop} (s0 : ByteArray) (heat0 : Int) (s1 : ByteArray) (h1 : Int) (s2 : ByteArray) (h2 i e : Int) (h : (suEnd n z0 z1 z2 z3 s1 h1 s2 h2 i e).All p) : Leads p (evO2 (recT Tryz.prog (tabOf tb_tq)) true (bodyOf Tryz.f14) (pathF Tryz.f14) [] [6, 7, 8] (suB n z0 z1 z2 z3 r0 r1 r2 r3 r4 r5 s0 heat0) (.exit 0, suX n z0 z1 z2 z3 s1 h1 s2 h2 i e)) := by
  show Leads p (suPo n z0 z1 z2 z3 r0 r1 r2 r3 r4 r5 s0 heat0 (.exit 0, suX n z0 z1 z2 z3 s1 h1 s2 h2 i e))
  have g1 := su_exit n z0 z1 z2 z3 r0 r1 r2 r3 r4 r5 s0 heat0 s1 h1 s2 h2 i e
  have g2 := su_exit_fits n z0 z1 z2 z3 r0 r1 r2 r3 r4 r5 s0 heat0 s1 h1 s2 h2 i e
  generalize suPo n z0 z1 z2 z3 r0 r1 r2 r3 r4 r5 s0 heat0 (.exit 0, suX n z0 z1 z2 z3 s1 h1 s2 h2 i e) = T at g1 g2 ⊢
  generalize suEnd n z0 z1 z2 z3 s1 h1 s2 h2 i e = S at g1 g2 h
  exact ⟨all_into g1 g2 h⟩
theorem suEnd_no {p : (X × St) ⊕ (List Bool × St) → Prop} {s1 : ByteArray} {h1 : Int} {s2 : ByteArray} {h2 : Int} (h : p (.inl (.ret, suR n z0 z1 z2 z3 h1 h2 0 0))) : (suEnd n z0 z1 z2 z3 s1 h1 s2 h2 0 0).All p := by
  unfold suEnd
  rw [show ((0 : Int) != 0) = false from rfl]
  exact h
theorem suEnd_yes {p : (X × St) ⊕ (List Bool × St) → Prop} {s1 : ByteArray} {h1 : Int} {s2 : ByteArray} {h2 i e : Int} (he : (e != 0) = true) (h : p (.inl (.ret, suR n z0 z1 z2 z3 0 0 i e))) : (suEnd n z0 z1 z2 z3 s1 h1 s2 h2 i e).All p := by
  unfold suEnd
  rw [he]
  exact h
theorem su_left (lo hi i e : Int) : Left2 Tryz.prog Tryz.f14 (hpT [⟨some 0, n, st4 z0 z1 z2 z3⟩] glA []) (surA lo hi i e) (hpT [⟨some 0, n, st4 z0 z1 z2 z3⟩] glA []) (.ret, suR n z0 z1 z2 z3 lo hi i e) := left_of (b := true) (by kernel_rfl)
theorem fnz_zero {g : Nat → Int} : ∀ {m k : Nat}, (fnz g m k).getD 0 = 0 → ∀ j, k ≤ j → j < k + m → g j = 0
  | 0, k, _, j, h1, h2 => by omega
  | m + 1, k, h, j, h1, h2 => by
    unfold fnz at h
    split at h
    · rename_i hz
      have : g k ≠ 0 := by simpa using hz
      exact absurd h this
    · rename_i hz
      rcases Nat.eq_or_lt_of_le h1 with e | e
      · subst e; simpa using hz
      · exact fnz_zero h j e (by omega)
theorem sure_facts {s : ByteArray} {heat : Int} (h : sureE n z0 z1 z2 z3 r0 r1 r2 r3 r4 r5 s heat = 0) : rulesErr r0 r1 r2 r3 r4 r5 = 0 ∧ recvErr s heat = 0 ∧ n ≤ 256 ∧ ∀ k, k < n → toldErr r0 (z1 k) (z2 k) (z3 k) (z0 k) = 0 := by
  unfold sureE at h
  obtain ⟨h1, h⟩ := first0 h
  obtain ⟨h2, h⟩ := first0 h
  obtain ⟨h3, h⟩ := first0 h
  obtain ⟨h4, _⟩ := first0 h
  refine ⟨h1, h2, ?_, fun k hk => ?_⟩
  · have := errIf0 (by decide) h3
    simp only [decide_eq_false_iff_not] at this
    omega
  · exact fnz_zero h4 k (Nat.zero_le k) (by omega)
theorem toldAct {c lo hi flow : Int} {s : ByteArray} (h : toldErr c lo hi flow s = 0) : isAct s = true := by
  unfold toldErr at h
  have := errIf0 (by decide) (first0 h).1
  simpa using this
theorem su_loop (s0 : ByteArray) (heat0 : Int) (hn : n ≤ 1000000) (hc : (!(r0 == 0)) = true) (ha : ∀ k, k < n → isAct (z0 k) = true) (s1 : ByteArray) (h1 : Int) (s2 : ByteArray) (h2 : Int) : ComesF Tryz.prog (.loop (loopF Tryz.f14)) (suB n z0 z1 z2 z3 r0 r1 r2 r3 r4 r5 s0 heat0) (suH n z0 z1 z2 z3 r0 r1 r2 r3 r4 r5 ((0 : Nat) : Int) s1 h1 s2 h2) fun q => q = suOut n z0 z1 z2 z3 (suGo z0 z1 z2 z3 r0 r1 r2 r3 r4 r5 n 0 s1 h1 s2 h2) := by
  refine loop_all (ι := Nat × ByteArray × Int × ByteArray × Int) (recT_ok tb_tq_ok) rfl suSl suSx (fun x => suH n z0 z1 z2 z3 r0 r1 r2 r3 r4 r5 (x.1 : Int) x.2.1 x.2.2.1 x.2.2.2.1 x.2.2.2.2) (fun x => n - x.1) (fun x => x.1 ≤ n)
    (fun x => suOut n z0 z1 z2 z3 (suGo z0 z1 z2 z3 r0 r1 r2 r3 r4 r5 (n - x.1) x.1 x.2.1 x.2.2.1 x.2.2.2.1 x.2.2.2.2)) (fun x hx => ?_) (0, s1, h1, s2, h2) (Nat.zero_le n)
  obtain ⟨k, s1, h1, s2, h2⟩ := x
  refine all_into (su_round n z0 z1 z2 z3 r0 r1 r2 r3 r4 r5 s0 heat0 k s1 h1 s2 h2) (su_fits n z0 z1 z2 z3 r0 r1 r2 r3 r4 r5 s0 heat0 k s1 h1 s2 h2) ?_
  have hx : k ≤ n := hx
  show Sk.All (fun p : X × St => match p.1 with | .normal => ∃ y : Nat × ByteArray × Int × ByteArray × Int, p.2.Le (suH n z0 z1 z2 z3 r0 r1 r2 r3 r4 r5 (y.1 : Int) y.2.1 y.2.2.1 y.2.2.2.1 y.2.2.2.2) ∧ y.1 ≤ n ∧ n - y.1 < n - k ∧ suOut n z0 z1 z2 z3 (suGo z0 z1 z2 z3 r0 r1 r2 r3 r4 r5 (n - y.1) y.1 y.2.1 y.2.2.1 y.2.2.2.1 y.2.2.2.2) = suOut n z0 z1 z2 z3 (suGo z0 z1 z2 z3 r0 r1 r2 r3 r4 r5 (n - k) k s1 h1 s2 h2) | _ => p = suOut n z0 z1 z2 z3 (suGo z0 z1 z2 z3 r0 r1 r2 r3 r4 r5 (n - k) k s1 h1 s2 h2)) _
  unfold suSk suSk1 suSk2 suK
  by_cases h : k < n
  · obtain ⟨e1, e2, e3⟩ := idx_facts h
    have hg : suGo z0 z1 z2 z3 r0 r1 r2 r3 r4 r5 (n - k) k s1 h1 s2 h2 = (match se z0 z1 z3 r0 r1 r2 r3 r4 r5 k s1 h1 != 0 with
      | true => (s1, h1, s2, h2, some (k, se z0 z1 z3 r0 r1 r2 r3 r4 r5 k s1 h1))
      | false => match se z0 z2 z3 r0 r1 r2 r3 r4 r5 k s2 h2 != 0 with
        | true => (ss1 z0 z1 z3 r0 r1 r2 r3 r4 r5 k s1 h1, sh1 z0 z1 z3 r0 r1 r2 r3 r4 r5 k s1 h1, s2, h2, some (k, se z0 z2 z3 r0 r1 r2 r3 r4 r5 k s2 h2))
        | false => suGo z0 z1 z2 z3 r0 r1 r2 r3 r4 r5 (n - (k + 1)) (k + 1) (ss1 z0 z1 z3 r0 r1 r2 r3 r4 r5 k s1 h1) (sh1 z0 z1 z3 r0 r1 r2 r3 r4 r5 k s1 h1) (ss1 z0 z2 z3 r0 r1 r2 r3 r4 r5 k s2 h2) (sh1 z0 z2 z3 r0 r1 r2 r3 r4 r5 k s2 h2)) := by
      rw [show n - k = (n - (k + 1)) + 1 by omega]; rfl
    rw [hg]
    simp only [e1, e2, Sk.All, Nat.zero_add, Int.toNat_natCast, e3]
    have hK : (!(r0 == 0) && isAct (z0 k)) = true := by rw [hc, ha k h]; rfl
    refine ⟨(by first | exact trivial | rfl), (by first | exact trivial | rfl), (by first | exact trivial | rfl), (by first | exact trivial | rfl), (by first | exact trivial | rfl), hK, ?_⟩
    cases hz : se z0 z1 z3 r0 r1 r2 r3 r4 r5 k s1 h1 != 0 with
    | true => rfl
    | false =>
      refine ⟨hK, ?_⟩
      cases hz2 : se z0 z2 z3 r0 r1 r2 r3 r4 r5 k s2 h2 != 0 with
      | true => rfl
      | false =>
        refine ⟨(k + 1, _, _, _, _), ?_, h, by simp only []; omega, rfl⟩
        rw [wrap_succ (by omega)]
        exact St.Le.refl _
  · rw [idx_end h, show n - k = 0 by omega]
    rfl
def surV (E : Int) (x : R5) : A := surA4 (suP E x)
theorem su_hpre (s : ByteArray) (heat : Int) : evO (recT Tryz.prog (tabOf tb_tq)) (bodyOf Tryz.f14) suSl [6, 7, 8] (suB n z0 z1 z2 z3 r0 r1 r2 r3 r4 r5 s heat) = suO n z0 z1 z2 z3 r0 r1 r2 r3 r4 r5 s heat := by delta suO; rfl
theorem suGo_ne : ∀ (m k : Nat) (s1 : ByteArray) (h1 : Int) (s2 : ByteArray) (h2 : Int) {s s' : ByteArray} {h h' : Int} {j : Nat} {e : Int}, suGo z0 z1 z2 z3 r0 r1 r2 r3 r4 r5 m k s1 h1 s2 h2 = (s, h, s', h', some (j, e)) → (e != 0) = true
  | 0, _, _, _, _, _, _, _, _, _, _, _, he => by cases he
  | m + 1, k, s1, h1, s2, h2, s, s', h, h', j, e, he => by
    unfold suGo at he
    split at he
    · rename_i hz
      cases he
      exact hz
    · split at he
      · rename_i hz
        cases he
        exact hz
      · exact suGo_ne m (k + 1) _ _ _ _ he
theorem su_call (s : ByteArray) (heat : Int) (hn : n ≤ 1000000) : CallAt Tryz.prog 14 [.agg (rulesC r0 r1 r2 r3 r4 r5), .agg [cs s, ci heat], slT 0 4 n] (hpT [⟨some 0, n, st4 z0 z1 z2 z3⟩] glA []) (surV (sureE n z0 z1 z2 z3 r0 r1 r2 r3 r4 r5 s heat) (suGo z0 z1 z2 z3 r0 r1 r2 r3 r4 r5 n 0 s heat s heat)) (hpT [⟨some 0, n, st4 z0 z1 z2 z3⟩] glA []) := by
  refine call_base (recT_ok tb_tq_ok) (c := bodyOf Tryz.f14) (fn := Tryz.f14) Tryz.func14 (by kernel_rfl) (by kernel_rfl) (false, true) 1 suSl [6, 7, 8] (sB := suB n z0 z1 z2 z3 r0 r1 r2 r3 r4 r5 s heat) (by kernel_rfl) (su_hpre n z0 z1 z2 z3 r0 r1 r2 r3 r4 r5 s heat) ?_
  have main : ∀ E : Int, E = sureE n z0 z1 z2 z3 r0 r1 r2 r3 r4 r5 s heat → (suPreA n z0 z1 z2 z3 r0 r1 r2 r3 r4 r5 s heat E).All (CutF Tryz.prog (recT Tryz.prog (tabOf tb_tq)) (bodyOf Tryz.f14) (suB n z0 z1 z2 z3 r0 r1 r2 r3 r4 r5 s heat) (Left2 Tryz.prog Tryz.f14 (hpT [⟨some 0, n, st4 z0 z1 z2 z3⟩] glA []) (surV (sureE n z0 z1 z2 z3 r0 r1 r2 r3 r4 r5 s heat) (suGo z0 z1 z2 z3 r0 r1 r2 r3 r4 r5 n 0 s heat s heat)) (hpT [⟨some 0, n, st4 z0 z1 z2 z3⟩] glA [])) 1) := fun E hE => by
    unfold suPreA surV suP
    rw [← hE]
    cases he : E != 0 with
    | true =>
      simp only [Sk.All]
      exact su_left n z0 z1 z2 z3 _ _ _ _
    | false =>
      have h0 : sureE n z0 z1 z2 z3 r0 r1 r2 r3 r4 r5 s heat = 0 := by rw [← hE]; exact ne0 he
      obtain ⟨h1, h2, h3, h4⟩ := sure_facts n z0 z1 z2 z3 r0 r1 r2 r3 r4 r5 h0
      simp only [Sk.All]
      refine cutF_stop _ true [] [6, 7, 8] (su_loop n z0 z1 z2 z3 r0 r1 r2 r3 r4 r5 s heat hn (rules_c h1) (fun k hk => toldAct (h4 k hk)) s heat s heat) fun q hq => ?_
      subst hq
      have hne := fun {s1 s2 h1 h2 j e} => suGo_ne z0 z1 z2 z3 r0 r1 r2 r3 r4 r5 n 0 s heat s heat (s := s1) (s' := s2) (h := h1) (h' := h2) (j := j) (e := e)
      revert hne
      generalize suGo z0 z1 z2 z3 r0 r1 r2 r3 r4 r5 n 0 s heat s heat = x
      intro hne
      obtain ⟨s1, g1, s2, g2, o⟩ := x
      cases o with
      | none => refine Leads.all ?_; exact (su_exitAll n z0 z1 z2 z3 r0 r1 r2 r3 r4 r5 s heat s1 g1 s2 g2 0 0 (suEnd_no n z0 z1 z2 z3 (su_left n z0 z1 z2 z3 g1 g2 0 0)))
      | some ke =>
        obtain ⟨k, e⟩ := ke
        refine Leads.all ?_
        exact (su_exitAll n z0 z1 z2 z3 r0 r1 r2 r3 r4 r5 s heat s1 g1 s2 g2 (k : Int) e (suEnd_yes n z0 z1 z2 z3 (hne rfl) (su_left n z0 z1 z2 z3 0 0 (k : Int) e)))
  refine all_into (su_pre n z0 z1 z2 z3 r0 r1 r2 r3 r4 r5 s heat) (su_pre_fits n z0 z1 z2 z3 r0 r1 r2 r3 r4 r5 s heat) ?_
  unfold suPre
  refine ⟨by rw [ble_self]; rfl, by rw [Nat.ble_eq]; exact hn, ?_⟩
  cases h0 : Nat.beq n 0 with
  | true =>
    refine main _ ?_
    obtain rfl := Nat.eq_of_beq_eq_true h0
    rfl
  | false => exact ⟨ble_self n, main _ rfl⟩
end
noncomputable def suNil (s : ByteArray) (heat r0 r1 r2 r3 r4 r5 : Int) : Tree ((Bool × A × Hp) ⊕ (List Bool × St)) := preA Tryz.prog (tabOf tb_tq) Tryz.f14 [.agg (rulesC r0 r1 r2 r3 r4 r5), .agg [cs s, ci heat], nilA] hpK (false, true)
def suNilS (s : ByteArray) (heat r0 r1 r2 r3 r4 r5 : Int) : Sk ((Bool × A × Hp) ⊕ (List Bool × St)) :=
  .tt (.node (firstZ [rulesErr r0 r1 r2 r3 r4 r5, recvErr s heat, errIf (decide (((0 : Nat) : Int) > 256)) 5, 0] != 0) (.leaf (.inl (true, surA 0 0 0 (firstZ [rulesErr r0 r1 r2 r3 r4 r5, recvErr s heat, errIf (decide (((0 : Nat) : Int) > 256)) 5, 0]), hpK))) (.ff (.ff (.leaf (.inl (true, surA heat heat 0 0, hpK))))))
theorem su_nil_into (s : ByteArray) (heat r0 r1 r2 r3 r4 r5 : Int) : suNil s heat r0 r1 r2 r3 r4 r5 = into (suNil s heat r0 r1 r2 r3 r4 r5) (suNilS s heat r0 r1 r2 r3 r4 r5) := by kernel_rfl
theorem su_nil_fits (s : ByteArray) (heat r0 r1 r2 r3 r4 r5 : Int) : fits (suNil s heat r0 r1 r2 r3 r4 r5) (suNilS s heat r0 r1 r2 r3 r4 r5) = true := by kernel_rfl
theorem su_nil (s : ByteArray) (heat r0 r1 r2 r3 r4 r5 : Int) (z0 : Nat → ByteArray) (z1 z2 z3 : Nat → Int) : CallAt Tryz.prog 14 [.agg (rulesC r0 r1 r2 r3 r4 r5), .agg [cs s, ci heat], nilA] hpK (surV (sureE 0 z0 z1 z2 z3 r0 r1 r2 r3 r4 r5 s heat) (suGo z0 z1 z2 z3 r0 r1 r2 r3 r4 r5 0 0 s heat s heat)) hpK := by
  refine call_sk tb_tq_ok Tryz.func14 (by kernel_rfl) (false, true) (by kernel_rfl) (su_nil_into s heat r0 r1 r2 r3 r4 r5) (su_nil_fits s heat r0 r1 r2 r3 r4 r5) ?_
  unfold suNilS surV suP
  rw [show sureE 0 z0 z1 z2 z3 r0 r1 r2 r3 r4 r5 s heat = firstZ [rulesErr r0 r1 r2 r3 r4 r5, recvErr s heat, errIf (decide (((0 : Nat) : Int) > 256)) 5, 0] from rfl]
  cases firstZ [rulesErr r0 r1 r2 r3 r4 r5, recvErr s heat, errIf (decide (((0 : Nat) : Int) > 256)) 5, 0] != 0 <;> rfl
noncomputable def suF : FT
  | [r0, r1, r2, r3, r4, r5, heat], [], [s], [⟨_, n, [.str z0, .int .i64 z1, .int .i64 z2, .int .i64 z3]⟩] => .need (Nat.ble n 1000000) (.leaf (surV (sureE n z0 z1 z2 z3 r0 r1 r2 r3 r4 r5 s heat) (suGo z0 z1 z2 z3 r0 r1 r2 r3 r4 r5 n 0 s heat s heat), []))
  | _, _, _, _ => .fail 373
def surShp : Shp := [(true, i6), (true, [.s, .i]), (false, [.t toldD])]
noncomputable def suSp : Spec := fun args h => specT surShp glA suF args h
theorem su_ok : SpecOk Tryz.prog 14 suSp := by
  refine specT_ok glA_noId (by decide) fun l m n ts v news hl hm hn ht hnil hF => ?_
  unfold suF at hF
  split at hF
  · rename_i r0 r1 r2 r3 r4 r5 heat s id n z0 z1 z2 z3
    obtain ⟨hok, hF⟩ := Tree.need_some hF
    have hok := Nat.le_of_ble_eq_true hok
    simp only [Tree.run, Option.some.injEq, Prod.mk.injEq] at hF
    obtain ⟨rfl, rfl⟩ := hF
    cases id with
    | none =>
      have h0 : n = 0 := hnil _ (List.mem_singleton.2 rfl) rfl
      subst h0
      exact su_nil s heat r0 r1 r2 r3 r4 r5 z0 z1 z2 z3
    | some id => exact su_call n z0 z1 z2 z3 r0 r1 r2 r3 r4 r5 s heat hok
  · cases hF
end Go.Ev
