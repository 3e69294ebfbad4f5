/- Tanks: two tanks that are compared. Conditions: few layers. Tanks: the entries of the law, where the tank's error is known. Conditions: few layers. Tanks: the entries of the law, where the tank has no error and it is known what else is wrong. Conditions: few layers. Tanks: mixed tanks, and a tank that is compared with what is expected. Conditions: few layers. Tanks: a tank and an error that are compared with what is expected; the tables of the law. Conditions: few layers. -/
import Derived.Test.YtlpchgidkibbeaaGreatDoorTankX
import Derived.Test.YtlpchgidkibbeaaGreatDoorWarm
namespace Go.Ev
open Go Go.Proofs
set_option maxRecDepth 100000


section
variable (n m : Nat) (room room' : Int) (a h a' h' : Nat → Int)
def smTs : List TA := [⟨some 0, n, tkC a h⟩, ⟨some 1, m, tkC a' h'⟩]
def smA : List A := [tankA room n, .agg [ci room', slC false 1 2 m]]
def smB : St := { baseB 38 (smA n m room room') (hpT (smTs n m a h a' h') [] []) with keep := true }
def smN (env : List (Nat × A)) (news : List Blk) : St := { stN 38 (envL env) (bsS (smTs n m a h a' h') []) [] news with keep := true }
def smHS (i : Int) : St := smN n m a h a' h' [(2, pt 2), (3, pt 3), (4, boo false), (5, int i)] [tbox 76 room (slC false 0 2 n), tbox 76 room' (slC false 1 2 m)]
def smH (k : Nat) : St := smHS n m room room' a h a' h' (k : Int)
def smX (b : Bool) : St := smN n m a h a' h' [(4, boo b)] []
noncomputable def smT (k : Nat) : Tree (X × St) := (recT Tryz.prog noTab (loopF Tryz.f73) (smH n m room room' a h a' h' k)).bind (canonT [2, 3, 4, 5] [4] (smB n m room room' a h a' h'))
noncomputable def smO : Tree ((X × St) ⊕ (List Bool × St)) := evO (recT Tryz.prog noTab) (bodyOf Tryz.f73) [2, 3, 4, 5] [4] (smB n m room room' a h a' h')
noncomputable def smP (x : X) : Tree ((X × St) ⊕ (List Bool × St)) := evO2 (recT Tryz.prog noTab) true (bodyOf Tryz.f73) (pathF Tryz.f73) [] [4] (smB n m room room' a h a' h') (x, smX n m a h a' h' false)
def eqR (k : Nat) : Bool := a k == a' k && (h k == h' k && true)
def smG (k : Nat) : Int := match eqR a h a' h' k with | true => 0 | false => 1
/-- are two tanks alike -/
def sameT : Bool := match room != room' with
  | true => false
  | false => match (n : Int) != (m : Int) with
    | true => false
    | false => match fnz (smG a h a' h') n 0 with
      | some _ => false
      | none => true
noncomputable def smSk (k : Nat) : Sk (X × St) := .node (decide ((k : Int) < (n : Int))) (.need (decide (0 ≤ (k : Int)) && decide ((k : Int) < (n : Int))) (.need (Nat.blt (0 + Int.toNat (k : Int)) n) (.need (Nat.blt (0 + Int.toNat (k : Int)) n)
    (.need (decide (0 ≤ (k : Int)) && decide ((k : Int) < (m : Int))) (.need (Nat.blt (0 + Int.toNat (k : Int)) m) (.need (Nat.blt (0 + Int.toNat (k : Int)) m)
      (.node (!(eqR a h a' h' (0 + Int.toNat (k : Int)))) (.leaf (.ret, smX n m a h a' h' false)) (.leaf (.normal, smHS n m room room' a h a' h' (IntKind.i64.wrap ((k : Int) + 1)))))))))))
  (.leaf (.exit 0, smX n m a h a' h' false))
theorem sm_into (k : Nat) : smT n m room room' a h a' h' k = into (smT n m room room' a h a' h' k) (smSk n m room room' a h a' h' k) := by kernel_rfl
theorem sm_fits (k : Nat) : fits (smT n m room room' a h a' h' k) (smSk n m room room' a h a' h' k) = true := by kernel_rfl
theorem sm_loop (hn : n ≤ 1000000) (hnm : n = m) : ComesF Tryz.prog (.loop (loopF Tryz.f73)) (smB n m room room' a h a' h') (smH n m room room' a h a' h' 0) fun q => q = finT (fun _ => smX n m a h a' h' false) n (smG a h a' h') 0 := by
  refine loop_count (recT_ok noTab_ok) rfl [2, 3, 4, 5] [4] (smH n m room room' a h a' h') (finT (fun _ => smX n m a h a' h' false) n (smG a h a' h')) n (smT n m room room' a h a' h') (smSk n m room room' a h a' h') (fun _ => rfl) (sm_into n m room room' a h a' h') (sm_fits n m room room' a h a' h') (fun k hk => ?_) (sk_no (rnd_end n) (sk_leaf (finT_end (Y := fun _ => smX n m a h a' h' false) (n := n) (g := smG a h a' h')).symm))
  obtain ⟨a1, a2, a3⟩ := rnd_lt hk
  obtain ⟨b1, b2, b3⟩ := rnd_lt (show k < m by omega)
  refine sk_yes a1 (sk_need a2 (sk_need a3 (sk_need a3 (sk_need b2 (sk_need b3 (sk_need b3 ?_))))))
  rw [idx_nat]
  refine sk_either (fun h1 => sk_leaf (rnd_ret ?_)) fun h1 => sk_leaf (rnd_next (by rw [wrap_succ (by omega)]; exact St.Le.refl _) (finT_next hk ?_))
  · have e : smG a h a' h' k = 1 := by unfold smG; rw [show eqR a h a' h' k = false by simpa using h1]
    rw [finT_ret hk (by rw [e]; decide)]
  · unfold smG; rw [show eqR a h a' h' k = true by simpa using h1]
noncomputable def smOSk : Sk ((X × St) ⊕ (List Bool × St)) := .node (room != room') (.tt (.leaf (.inl (.ret, smX n m a h a' h' false)))) (.node ((n : Int) != (m : Int)) (.leaf (.inl (.ret, smX n m a h a' h' false))) (.leaf (.inr (pathF Tryz.f73, smH n m room room' a h a' h' 0))))
theorem smO_into : smO n m room room' a h a' h' = into (smO n m room room' a h a' h') (smOSk n m room room' a h a' h') := by kernel_rfl
theorem smO_fits : fits (smO n m room room' a h a' h') (smOSk n m room room' a h a' h') = true := by kernel_rfl
theorem smP_into : smP n m room room' a h a' h' (.exit 0) = into (smP n m room room' a h a' h' (.exit 0)) (.leaf (.inl (.ret, smX n m a h a' h' true))) := by kernel_rfl
theorem smP_fits : fits (smP n m room room' a h a' h' (.exit 0)) (.leaf (.inl (.ret, smX n m a h a' h' true))) = true := by kernel_rfl
theorem smQ_into : smP n m room room' a h a' h' .ret = into (smP n m room room' a h a' h' .ret) (.leaf (.inl (.ret, smX n m a h a' h' false))) := by kernel_rfl
theorem smQ_fits : fits (smP n m room room' a h a' h' .ret) (.leaf (.inl (.ret, smX n m a h a' h' false))) = true := by kernel_rfl
theorem sm_left (b : Bool) : Left2 Tryz.prog Tryz.f73 (hpT (smTs n m a h a' h') [] []) (boo b) (hpT (smTs n m a h a' h') [] []) (.ret, smX n m a h a' h' b) := left_of (b := true) (by kernel_rfl)
theorem sm_call (hn : n ≤ 1000000) : CallAt Tryz.prog 73 (smA n m room room') (hpT (smTs n m a h a' h') [] []) (boo (sameT n m room room' a h a' h')) (hpT (smTs n m a h a' h') [] []) := by
  refine call_base (recT_ok noTab_ok) (c := bodyOf Tryz.f73) (fn := Tryz.f73) Tryz.func73 (by kernel_rfl) (by kernel_rfl) (false, true) 1 [2, 3, 4, 5] [4] (sB := smB n m room room' a h a' h') (by kernel_rfl) (t := smO n m room room' a h a' h') (by delta smO; rfl) (all_into (smO_into n m room room' a h a' h') (smO_fits n m room room' a h a' h') (SkLeads.all ?_))
  unfold sameT
  refine sk_either (fun h1 => sk_tt (sk_leaf (cutF_dn ?_))) fun h1 => sk_either (fun h2 => sk_leaf (cutF_dn ?_)) fun h2 => ?_
  · rw [h1]; exact sm_left n m a h a' h' false
  · rw [h1, h2]; exact sm_left n m a h a' h' false
  · refine sk_leaf ⟨_, true, [], [4], sm_loop n m room room' a h a' h' hn (Int.ofNat.inj (by simpa using h2)), fun q hq => Leads.all ?_⟩
    subst hq
    rw [h1, h2]
    unfold finT
    rw [Nat.sub_zero]
    cases fnz (smG a h a' h') n 0 with
    | some e => exact leads_in (show _ = smP n m room room' a h a' h' .ret by delta smP; rfl) (smQ_into n m room room' a h a' h') (smQ_fits n m room room' a h a' h') (sk_leaf (cutF_dn (sm_left n m a h a' h' false)))
    | none => exact leads_in (show _ = smP n m room room' a h a' h' (.exit 0) by delta smP; rfl) (smP_into n m room room' a h a' h') (smP_fits n m room room' a h a' h') (sk_leaf (cutF_dn (sm_left n m a h a' h' true)))
end
end Go.Ev

namespace Go.Ev
open Go Go.Proofs
set_option maxRecDepth 100000

/-! ### SameTank as an entry -/
section
variable (room room' : Int) (a h a' h' : Nat → Int)
theorem sm_ns (m : Nat) : CallAt Tryz.prog 73 [.agg [ci room, nilC], .agg [ci room', slC false 0 2 m]] (hpT [⟨some 0, m, tkC a' h'⟩] [] []) (boo (sameT 0 m room room' a h a' h')) (hpT [⟨some 0, m, tkC a' h'⟩] [] []) := by
  refine call_sk noTab_ok Tryz.func73 (by kernel_rfl) (false, true) (by kernel_rfl) (S := .node (room != room') (.tt (.leaf (.inl (true, boo false, hpT [⟨some 0, m, tkC a' h'⟩] [] [])))) (.node (((0 : Nat) : Int) != (m : Int)) (.leaf (.inl (true, boo false, hpT [⟨some 0, m, tkC a' h'⟩] [] []))) (.ff (.leaf (.inl (true, boo true, hpT [⟨some 0, m, tkC a' h'⟩] [] [])))))) (by kernel_rfl) (by kernel_rfl) (SkLeads.all ?_)
  unfold sameT
  refine sk_either (fun g1 => ?_) fun g1 => sk_either (fun g2 => ?_) fun g2 => ?_
  · rw [g1]; exact sk_tt (sk_leaf rfl)
  · rw [g1]; simp only; rw [g2]; exact sk_leaf rfl
  · rw [g1]; simp only; rw [g2]; exact sk_ff (sk_leaf rfl)
theorem sm_sn (n : Nat) : CallAt Tryz.prog 73 [.agg [ci room, slC false 0 2 n], .agg [ci room', nilC]] (hpT [⟨some 0, n, tkC a h⟩] [] []) (boo (sameT n 0 room room' a h a' h')) (hpT [⟨some 0, n, tkC a h⟩] [] []) := by
  cases n with
  | zero =>
    refine call_sk noTab_ok Tryz.func73 (by kernel_rfl) (false, true) (by kernel_rfl) (S := .node (room != room') (.tt (.leaf (.inl (true, boo false, hpT [⟨some 0, 0, tkC a h⟩] [] [])))) (.ff (.ff (.leaf (.inl (true, boo true, hpT [⟨some 0, 0, tkC a h⟩] [] [])))))) (by kernel_rfl) (by kernel_rfl) (SkLeads.all ?_)
    unfold sameT
    refine sk_either (fun g1 => ?_) fun g1 => ?_
    · rw [g1]; exact sk_tt (sk_leaf rfl)
    · rw [g1]; exact sk_ff (sk_ff (sk_leaf rfl))
  | succ k =>
    refine call_sk noTab_ok Tryz.func73 (by kernel_rfl) (false, true) (by kernel_rfl) (S := .node (room != room') (.tt (.leaf (.inl (true, boo false, hpT [⟨some 0, k + 1, tkC a h⟩] [] [])))) (.tt (.leaf (.inl (true, boo false, hpT [⟨some 0, k + 1, tkC a h⟩] [] []))))) (by kernel_rfl) (by kernel_rfl) (SkLeads.all ?_)
    unfold sameT
    refine sk_either (fun g1 => ?_) fun g1 => ?_
    · rw [g1]; exact sk_tt (sk_leaf rfl)
    · rw [g1]; exact sk_tt (sk_leaf rfl)
theorem sm_nn : CallAt Tryz.prog 73 [.agg [ci room, nilC], .agg [ci room', nilC]] (hpT [] [] []) (boo (sameT 0 0 room room' a h a' h')) (hpT [] [] []) := by
  refine call_sk noTab_ok Tryz.func73 (by kernel_rfl) (false, true) (by kernel_rfl) (S := .node (room != room') (.tt (.leaf (.inl (true, boo false, hpT [] [] [])))) (.ff (.ff (.leaf (.inl (true, boo true, hpT [] [] [])))))) (by kernel_rfl) (by kernel_rfl) (SkLeads.all ?_)
  unfold sameT
  refine sk_either (fun g1 => ?_) fun g1 => ?_
  · rw [g1]; exact sk_tt (sk_leaf rfl)
  · rw [g1]; exact sk_ff (sk_ff (sk_leaf rfl))
end
def smF : FT
  | [room, room'], [], [], [⟨_, n, [.int .i64 a, .int .i64 h]⟩, ⟨_, m, [.int .i64 a', .int .i64 h']⟩] => .need (Nat.ble n 1000000) (.leaf (boo (sameT n m room room' a h a' h'), []))
  | _, _, _, _ => .fail 386
def smSp : Spec := fun args h => specT [tkS, tkS] [] smF args h
theorem sm_ok : SpecOk Tryz.prog 73 smSp := by
  refine specT_ok rfl (by decide) fun l m n ts v news hl hm hn ht hnil hF => ?_
  unfold smF at hF
  split at hF
  · rename_i room room' i n a h j m a' h'
    obtain ⟨hok, hF⟩ := Tree.need_some hF
    have hok := Nat.le_of_ble_eq_true hok
    simp only [Tree.run, Option.some.injEq, Prod.mk.injEq] at hF
    obtain ⟨rfl, rfl⟩ := hF
    cases i with
    | none =>
      have h0 : n = 0 := hnil _ List.mem_cons_self rfl
      subst h0
      cases j with
      | none =>
        have h0 : m = 0 := hnil _ (List.mem_cons_of_mem _ List.mem_cons_self) rfl
        subst h0
        exact sm_nn room room' a h a' h'
      | some j => exact sm_ns room room' a h a' h' m
    | some i =>
      cases j with
      | none =>
        have h0 : m = 0 := hnil _ (List.mem_cons_of_mem _ List.mem_cons_self) rfl
        subst h0
        exact sm_sn room room' a h a' h' n
      | some j => exact sm_call n m room room' a h a' h' hok
  · cases hF

/-! ### Entries that say less -/
theorem specT_sub {P : Program} {f : FuncId} {sh : Shp} {gl : List (Nat × List C)} {F F' : FT} (h : SpecOk P f fun args h => specT sh gl F args h) (hF : ∀ l m n ts r, (F' l m n ts).run = some r → (F l m n ts).run = some r) : SpecOk P f fun args h => specT sh gl F' args h := by
  intro args hp v h' hr
  refine h args hp v h' ?_
  simp only at hr ⊢
  unfold specT at hr ⊢
  split at hr
  · rename_i d gids hd hgi
    obtain ⟨hok, hr⟩ := Tree.need_some hr
    obtain ⟨r, hF', hr⟩ := Tree.bind_some hr
    simp only [Tree.run, hok, Tree.run_bind, hF _ _ _ _ _ hF', Option.bind_some]
    exact hr
  · cases hr
section
variable (e : Int)
def ctFE : FT
  | [room], [], [], [⟨_, n, [.int .i64 z1, .int .i64 z2]⟩] => .need (Nat.ble n 17) (.need (tankE n room z1 z2 == e) (.leaf (int e, [])))
  | _, _, _, _ => .fail 387
def waEe (e : Int) (b : Bool) : Int := firstZ [e, errIf b 10]
def waVe (e : Int) (n : Nat) (index : Int) (z1 z2 : Nat → Int) : A := match decide (index < 0) with
  | true => waU (z1 (0 + index.toNat)) (z2 (0 + index.toNat)) (waEe e true)
  | false => waU (z1 (0 + index.toNat)) (z2 (0 + index.toNat)) (waEe e (decide (index ≥ (n : Int))))
def waUT (a h e : Int) : Tree (A × List Blk) := .node (e != 0) (.leaf (.tup [(true, [ci 0, ci 0]), (false, [ci e])], [])) (.leaf (.tup [(true, [ci (w64 (h.tdiv (gcd1 h a))), ci (w64 (a.tdiv (gcd1 h a)))]), (false, [ci 0])], []))
theorem waUT_run (a h e : Int) : (waUT a h e).run = some (waU a h e, []) := by
  unfold waUT waU
  cases e != 0 <;> rfl
def waFE : FT
  | [room, index], [], [], [⟨_, n, [.int .i64 z1, .int .i64 z2]⟩] => .need (Nat.ble n 17) (.need (tankE n room z1 z2 == e) (match e != 0 with | true => .leaf (.tup [(true, [ci 0, ci 0]), (false, [ci e])], []) | false => .node (decide (index < 0)) (waUT (z1 (0 + index.toNat)) (z2 (0 + index.toNat)) (waEe e true)) (waUT (z1 (0 + index.toNat)) (z2 (0 + index.toNat)) (waEe e (decide (index ≥ (n : Int)))))))
  | _, _, _, _ => .fail 387
def cpEe (num den : Int) : Int := firstZ [e, wW den 1 1000, wW num 0 den]
def cpFE (g : (Nat → Int) → (Nat → Int) → Nat → T3) : FT
  | [room, num, den], [], [], [⟨_, n, [.int .i64 z1, .int .i64 z2]⟩] => .need (Nat.ble n 17) (.need (tankE n room z1 z2 == e) (.node (cpEe e num den != 0) (.leaf (.tup [(true, [ci 0, nilC]), (false, [ci 0]), (false, [ci (cpEe e num den)])], []))
      (.leaf (.tup [tkVal room (coolG g n z1 z2 num den) n, (false, [ci (sumA (coolN z2 num den) n)]), (false, [ci 0])], tkMem 81 152 room (coolG g n z1 z2 num den) n))))
  | _, _, _, _ => .fail 387
end
theorem run_need {α : Type} {b : Bool} {t : Tree α} (h : b = true) : (Tree.need b t).run = t.run := by subst h; rfl
theorem ctE_ok (e : Int) : SpecOk Tryz.prog 55 fun args h => specT [tkS] [] (ctFE e) args h := specT_sub (F := ctF) ct_ok fun l m n ts r hr => by
  unfold ctFE at hr
  split at hr
  · obtain ⟨h1, hr⟩ := Tree.need_some hr
    obtain ⟨h2, hr⟩ := Tree.need_some hr
    obtain rfl := eq_of_beq h2
    unfold ctF
    rw [run_need h1]
    exact hr
  · cases hr
theorem qcE_ok (e : Int) : SpecOk Tryz.prog 47 fun args h => specT [tkS] [] (ctFE e) args h := specT_sub (F := qcF) qc_ok fun l m n ts r hr => by
  unfold ctFE at hr
  split at hr
  · obtain ⟨h1, hr⟩ := Tree.need_some hr
    obtain ⟨h2, hr⟩ := Tree.need_some hr
    obtain rfl := eq_of_beq h2
    unfold qcF
    rw [run_need h1]
    exact hr
  · cases hr
theorem waE_ok (e : Int) : SpecOk Tryz.prog 44 fun args h => specT [tkS, (false, [.i])] [] (waFE e) args h := specT_sub (F := waF) wa_ok fun l m n ts r hr => by
  unfold waFE at hr
  split at hr
  · rename_i room index id n z1 z2
    obtain ⟨h1, hr⟩ := Tree.need_some hr
    obtain ⟨h2, hr⟩ := Tree.need_some hr
    obtain rfl := eq_of_beq h2
    unfold waF
    rw [run_need h1]
    rw [← hr]
    unfold waV
    cases he : tankE n room z1 z2 != 0 with
    | true =>
      have hx : ∀ b a h, waU a h (waE n room z1 z2 b) = .tup [(true, [ci 0, ci 0]), (false, [ci (tankE n room z1 z2)])] := fun b a h => by
        have e1 : waE n room z1 z2 b = tankE n room z1 z2 := by unfold waE firstZ; rw [he]
        unfold waU
        rw [e1, he]
      cases decide (index < 0) <;> simp only [hx]
    | false =>
      cases hd : decide (index < 0) with
      | true => exact (waUT_run _ _ _).symm
      | false => exact (waUT_run _ _ _).symm
  · cases hr
theorem cpE_ok (e : Int) : SpecOk Tryz.prog 46 fun args h => specT clSh [] (cpFE e togS) args h := specT_sub (F := cpFG togS) coolP_ok fun l m n ts r hr => by
  unfold cpFE at hr
  split at hr
  · obtain ⟨h1, hr⟩ := Tree.need_some hr
    obtain ⟨h2, hr⟩ := Tree.need_some hr
    obtain rfl := eq_of_beq h2
    unfold cpFG
    rw [run_need h1]
    exact hr
  · cases hr
def tbE (e : Int) (g : (Nat → Int) → (Nat → Int) → Nat → T3) : List (FuncId × Spec) := (13, specAwake) :: (55, fun args h => specT [tkS] [] (ctFE e) args h) :: (47, fun args h => specT [tkS] [] (ctFE e) args h) :: (44, fun args h => specT [tkS, (false, [.i])] [] (waFE e) args h) ::
  (46, fun args h => specT clSh [] (cpFE e g) args h) :: (109, specDivisor) :: (73, smSp) :: tbG3 g
theorem tbE_ok (e : Int) : TabOk Tryz.prog (tabOf (tbE e togS)) := tab_cons (tab_cons (tab_cons (tab_cons (tab_cons (tab_cons (tab_cons tbG3_ok sm_ok) specDivisor_ok) (cpE_ok e)) (waE_ok e)) (qcE_ok e)) (ctE_ok e)) specAwake_ok
end Go.Ev

namespace Go.Ev
open Go Go.Proofs
set_option maxRecDepth 100000

theorem spec_sub {P : Program} {f : FuncId} {s s' : Spec} (h : SpecOk P f s) (hs : ∀ args hp r, (s' args hp).run = some r → (s args hp).run = some r) : SpecOk P f s' := fun args hp v h' hr => h args hp v h' (hs _ _ _ hr)
def whB (B : Bool) : Spec := fun args h => match args with
  | [.one (.lit (.bool b)), .one (.lit (.int .i64 e))] => .need (b == B) (.leaf (int (errIf B e), h))
  | _ => .fail 388
theorem whB_ok (B : Bool) : SpecOk Tryz.prog 48 (whB B) := spec_sub whenQ_ok fun args hp r hr => by
  unfold whB at hr
  split at hr
  · rename_i b e
    obtain ⟨h1, hr⟩ := Tree.need_some hr
    obtain rfl := eq_of_beq h1
    rw [← hr]
    rfl
  · cases hr
def rgC (c1 : Int) (c2 : Option Int) : Spec := fun args h => match args with
  | [.one (.lit (.int .i64 n)), .one (.lit (.int .i64 lo)), .one (.lit (.int .i64 hi))] => match lo == 1 with
    | true => .need (wW n lo hi == c1) (.leaf (int c1, h))
    | false => match c2 with
      | some c => .need (wW n lo hi == c) (.leaf (int c, h))
      | none => .leaf (int (wW n lo hi), h)
  | _ => .fail 388
theorem rgC_ok (c1 : Int) (c2 : Option Int) : SpecOk Tryz.prog 49 (rgC c1 c2) := spec_sub rangeQ_ok fun args hp r hr => by
  unfold rgC at hr
  split at hr
  · rename_i n lo hi
    have key : r = (int (wW n lo hi), hp) := by
      split at hr
      · obtain ⟨h1, hr⟩ := Tree.need_some hr
        have h1 := eq_of_beq h1
        rw [h1]
        exact (Option.some.inj hr).symm
      · split at hr
        · obtain ⟨h1, hr⟩ := Tree.need_some hr
          have h1 := eq_of_beq h1
          rw [h1]
          exact (Option.some.inj hr).symm
        · exact (Option.some.inj hr).symm
    rw [key]
    rfl
  · cases hr
/-- is there such a layer -/
def inR (n : Nat) (index : Int) : Bool := decide (0 ≤ index) && decide (index < (n : Int))
def wsF (B : Bool) : FT
  | [room, index], [], [], [⟨_, n, [.int .i64 z1, .int .i64 z2]⟩] => .need (Nat.ble n 17) (.need (tankE n room z1 z2 == 0) (.need (inR n index == !B) (match B with
    | true => .leaf (.tup [(true, [ci 0, ci 0]), (false, [ci 10])], [])
    | false => .leaf (.tup [(true, [ci (w64 ((z2 (0 + index.toNat)).tdiv (gcd1 (z2 (0 + index.toNat)) (z1 (0 + index.toNat))))), ci (w64 ((z1 (0 + index.toNat)).tdiv (gcd1 (z2 (0 + index.toNat)) (z1 (0 + index.toNat)))))]), (false, [ci 0])], []))))
  | _, _, _, _ => .fail 388
theorem wsB_ok (B : Bool) : SpecOk Tryz.prog 44 fun args h => specT [tkS, (false, [.i])] [] (wsF B) args h := specT_sub (F := waF) wa_ok fun l m n ts r hr => by
  unfold wsF at hr
  split at hr
  · rename_i room index id n z1 z2
    obtain ⟨h1, hr⟩ := Tree.need_some hr
    obtain ⟨h2, hr⟩ := Tree.need_some hr
    obtain ⟨h3, hr⟩ := Tree.need_some hr
    have h2 := eq_of_beq h2
    have h3 := eq_of_beq h3
    unfold waF
    rw [run_need h1, ← hr]
    unfold waV waU waE
    rw [h2]
    cases B with
    | true =>
      cases g0 : decide (index < 0) with
      | true => rfl
      | false =>
        have g1 : decide (index ≥ (n : Int)) = true := by
          simp only [inR, Bool.not_true, Bool.and_eq_false_iff, decide_eq_false_iff_not] at h3
          simp only [decide_eq_false_iff_not] at g0
          simp only [decide_eq_true_eq]
          omega
        simp only
        rw [g1]
        rfl
    | false =>
      simp only [inR, Bool.not_false, Bool.and_eq_true, decide_eq_true_eq] at h3
      rw [show decide (index < 0) = false by simp only [decide_eq_false_iff_not]; omega]
      simp only
      rw [show decide (index ≥ (n : Int)) = false by simp only [decide_eq_false_iff_not]; omega]
      rfl
  · cases hr
def csF (c : Int) (g : (Nat → Int) → (Nat → Int) → Nat → T3) : FT
  | [room, num, den], [], [], [⟨_, n, [.int .i64 z1, .int .i64 z2]⟩] => .need (Nat.ble n 17) (.need (tankE n room z1 z2 == 0) (.need (cpEe 0 num den == c) (match c != 0 with
    | true => .leaf (.tup [(true, [ci 0, nilC]), (false, [ci 0]), (false, [ci c])], [])
    | false => .leaf (.tup [tkVal room (coolG g n z1 z2 num den) n, (false, [ci (sumA (coolN z2 num den) n)]), (false, [ci 0])], tkMem 81 152 room (coolG g n z1 z2 num den) n))))
  | _, _, _, _ => .fail 388
theorem csC_ok (c : Int) : SpecOk Tryz.prog 46 fun args h => specT clSh [] (csF c togS) args h := specT_sub (F := cpFE 0 togS) (cpE_ok 0) fun l m n ts r hr => by
  unfold csF at hr
  split at hr
  · rename_i room num den id n z1 z2
    obtain ⟨h1, hr⟩ := Tree.need_some hr
    obtain ⟨h2, hr⟩ := Tree.need_some hr
    obtain ⟨h3, hr⟩ := Tree.need_some hr
    obtain rfl := eq_of_beq h3
    unfold cpFE
    rw [run_need h1, run_need h2, ← hr]
    cases hc : cpEe 0 num den != 0 <;> rfl
  · cases hr
def tbS (B : Bool) (c c1 : Int) (c2 : Option Int) (g : (Nat → Int) → (Nat → Int) → Nat → T3) : List (FuncId × Spec) := (48, whB B) :: (49, rgC c1 c2) :: (44, fun args h => specT [tkS, (false, [.i])] [] (wsF B) args h) ::
  (46, fun args h => specT clSh [] (csF c g) args h) :: tbE 0 g
theorem tbS_ok (B : Bool) (c c1 : Int) (c2 : Option Int) : TabOk Tryz.prog (tabOf (tbS B c c1 c2 togS)) := tab_cons (tab_cons (tab_cons (tab_cons (tbE_ok 0) (csC_ok c)) (wsB_ok B)) (rgC_ok c1 c2)) (whB_ok B)
end Go.Ev

namespace Go.Ev
open Go Go.Proofs
set_option maxRecDepth 100000

/-! ### both Mixed -/
noncomputable def mxRe (g : (Nat → Int) → (Nat → Int) → Nat → T3) : Code → St → Tree (X × St) := recT Tryz.prog (tabOf (tbE 0 g))
section
variable (g : (Nat → Int) → (Nat → Int) → Nat → T3) (n : Nat) (room : Int) (z1 z2 : Nat → Int)
def mpB : St := { baseB 24 [tankA room n] (tankH n z1 z2) with keep := true }
def mqB : St := { baseB 18 [tankA room n] (tankH n z1 z2) with keep := true }
noncomputable def mpT : Tree (X × St) := (mxRe g (bodyOf Tryz.f45) (mpB n room z1 z2)).bind (canonT [] [2, 3] (mpB n room z1 z2))
noncomputable def mqT : Tree (X × St) := (mxRe g (bodyOf Tryz.f52) (mqB n room z1 z2)).bind (canonT [] [2, 3] (mqB n room z1 z2))
def mxW (e l : TypeId) (room : Int) (z1 z2 : Nat → Int) : Nat → List Blk
  | 0 => []
  | k + 1 => [tbox e room (slC true 2 2 1), ⟨false, l, .flat [ci (sumA z1 (k + 1)), ci (sumA z2 (k + 1))]⟩]
def mxV (room : Int) : Nat → A
  | 0 => .tup [(true, [ci 0, nilC]), (false, [ci 12])]
  | _ + 1 => .tup [(true, [ci room, slC true 2 2 1]), (false, [ci 0])]
def mxR (size : Nat) (e l : TypeId) : St := stN size (envL [(2, .one (.ptr 1 0 1 0)), (3, int 0)]) (bsS [⟨some 0, n + 1, tkC z1 z2⟩] []) [] (mxW e l room z1 z2 (n + 1)) true
def mpS : Sk (X × St) := .need (okN (n + 1)) (.need (Nat.ble (n + 1) 17) (.need (tankE (n + 1) room z1 z2 == 0) (.ff (.need (okN (n + 1)) (.need (Nat.ble (n + 1) 17) (.leaf (.ret, mxR n room z1 z2 24 81 152)))))))
def mqS : Sk (X × St) := .ff (.need (okN (n + 1)) (.need (Nat.ble (n + 1) 1000000) (.need (okN (n + 1)) (.need (Nat.ble (n + 1) 1000000) (.leaf (.ret, mxR n room z1 z2 18 76 98))))))
theorem mp_into : mpT g (n + 1) room z1 z2 = into (mpT g (n + 1) room z1 z2) (mpS n room z1 z2) := by kernel_rfl
theorem mp_fits : fits (mpT g (n + 1) room z1 z2) (mpS n room z1 z2) = true := by kernel_rfl
theorem mq_into : mqT g (n + 1) room z1 z2 = into (mqT g (n + 1) room z1 z2) (mqS n room z1 z2) := by kernel_rfl
theorem mq_fits : fits (mqT g (n + 1) room z1 z2) (mqS n room z1 z2) = true := by kernel_rfl
end
section
variable (n : Nat) (room : Int) (z1 z2 : Nat → Int)
theorem mp_call (hn : n ≤ 17) (h0 : tankE n room z1 z2 = 0) : CallAt Tryz.prog 45 [tankA room n] (tankH n z1 z2) (mxV room n) (hpT [⟨some 0, n, tkC z1 z2⟩] [] (mxW 81 152 room z1 z2 n)) := by
  cases n with
  | zero => exact call_sk (tbE_ok 0) Tryz.func45 (by kernel_rfl) (false, true) (by kernel_rfl) (S := .nn (.nn (.need (tankE 0 room z1 z2 == 0) (.tt (.leaf (.inl (true, mxV room 0, hpT [⟨some 0, 0, tkC z1 z2⟩] [] []))))))) (by kernel_rfl) (by kernel_rfl) (SkLeads.all (sk_nn (sk_nn (sk_need (by rw [h0]; rfl) (sk_tt (sk_leaf rfl))))))
  | succ k =>
    refine call_whole (rec := mxRe togS) (recT_ok (tbE_ok 0)) Tryz.func45 (by kernel_rfl) (by kernel_rfl) (false, true) [2, 3] (sB := mpB (k + 1) room z1 z2) (by kernel_rfl) (T := mpT togS (k + 1) room z1 z2) (by delta mpT; rfl) (mp_into togS k room z1 z2) (mp_fits togS k room z1 z2) ?_
    exact sk_need (okN_ok _) (sk_need (ble_lit hn) (sk_need (by rw [h0]; rfl) (sk_ff (sk_need (okN_ok _) (sk_need (ble_lit hn) (sk_leaf (left_of (b := false) (by kernel_rfl))))))))
theorem mq_call (hn : n ≤ 17) : CallAt Tryz.prog 52 [tankA room n] (tankH n z1 z2) (mxV room n) (hpT [⟨some 0, n, tkC z1 z2⟩] [] (mxW 76 98 room z1 z2 n)) := by
  cases n with
  | zero => exact call_sk (tbE_ok 0) Tryz.func52 (by kernel_rfl) (false, true) (by kernel_rfl) (S := .tt (.leaf (.inl (true, mxV room 0, hpT [⟨some 0, 0, tkC z1 z2⟩] [] [])))) (by kernel_rfl) (by kernel_rfl) (SkLeads.all (sk_tt (sk_leaf rfl)))
  | succ k =>
    refine call_whole (rec := mxRe togS) (recT_ok (tbE_ok 0)) Tryz.func52 (by kernel_rfl) (by kernel_rfl) (false, true) [2, 3] (sB := mqB (k + 1) room z1 z2) (by kernel_rfl) (T := mqT togS (k + 1) room z1 z2) (by delta mqT; rfl) (mq_into togS k room z1 z2) (mq_fits togS k room z1 z2) ?_
    exact sk_ff (sk_need (okN_ok _) (sk_need (ble_lit (by omega)) (sk_need (okN_ok _) (sk_need (ble_lit (by omega)) (sk_leaf (left_of (b := false) (by kernel_rfl)))))))
theorem mp_nil (h0 : tankE 0 room z1 z2 = 0) : CallAt Tryz.prog 45 [.agg [ci room, nilC]] (hpT [] [] []) (mxV room 0) (hpT [] [] []) :=
  call_sk (tbE_ok 0) Tryz.func45 (by kernel_rfl) (false, true) (by kernel_rfl) (S := .nn (.nn (.need (tankE 0 room z1 z2 == 0) (.tt (.leaf (.inl (true, mxV room 0, hpT [] [] []))))))) (by kernel_rfl) (by kernel_rfl) (SkLeads.all (sk_nn (sk_nn (sk_need (by rw [h0]; rfl) (sk_tt (sk_leaf rfl))))))
theorem mq_nil : CallAt Tryz.prog 52 [.agg [ci room, nilC]] (hpT [] [] []) (mxV room 0) (hpT [] [] []) :=
  call_sk (tbE_ok 0) Tryz.func52 (by kernel_rfl) (false, true) (by kernel_rfl) (S := .tt (.leaf (.inl (true, mxV room 0, hpT [] [] [])))) (by kernel_rfl) (by kernel_rfl) (SkLeads.all (sk_tt (sk_leaf rfl)))
end
def mxF (b : Bool) (e l : TypeId) : FT
  | [room], [], [], [⟨_, n, [.int .i64 z1, .int .i64 z2]⟩] => .need (Nat.ble n 17) (.need (b || tankE n room z1 z2 == 0) (.leaf (mxV room n, mxW e l room z1 z2 n)))
  | _, _, _, _ => .fail 389
theorem mpE_ok : SpecOk Tryz.prog 45 fun args h => specT [tkS] [] (mxF false 81 152) args h := by
  refine specT_ok rfl (by decide) fun l m n ts v news hl hm hn ht hnil hF => ?_
  unfold mxF at hF
  split at hF
  · rename_i room id n z1 z2
    obtain ⟨hok, hF⟩ := Tree.need_some hF
    obtain ⟨h0, hF⟩ := Tree.need_some hF
    have hok := Nat.le_of_ble_eq_true hok
    have h0 : tankE n room z1 z2 = 0 := eq_of_beq (by simpa using h0)
    simp only [Tree.run, Option.some.injEq, Prod.mk.injEq] at hF
    obtain ⟨rfl, rfl⟩ := hF
    cases id with
    | none =>
      have h00 : n = 0 := hnil _ (List.mem_singleton.2 rfl) rfl
      subst h00
      exact mp_nil room z1 z2 h0
    | some id => exact mp_call n room z1 z2 hok h0
  · cases hF
theorem mqE_ok : SpecOk Tryz.prog 52 fun args h => specT [tkS] [] (mxF true 76 98) args h := by
  refine specT_ok rfl (by decide) fun l m n ts v news hl hm hn ht hnil hF => ?_
  unfold mxF at hF
  split at hF
  · rename_i room id n z1 z2
    obtain ⟨hok, hF⟩ := Tree.need_some hF
    obtain ⟨h0, hF⟩ := Tree.need_some hF
    have hok := Nat.le_of_ble_eq_true hok
    simp only [Tree.run, Option.some.injEq, Prod.mk.injEq] at hF
    obtain ⟨rfl, rfl⟩ := hF
    cases id with
    | none =>
      have h00 : n = 0 := hnil _ (List.mem_singleton.2 rfl) rfl
      subst h00
      exact mq_nil room
    | some id => exact mq_call n room z1 z2 hok
  · cases hF
end Go.Ev

namespace Go.Ev
open Go Go.Proofs
set_option maxRecDepth 100000

def tbI : List (FuncId × Spec) := (73, smSp) :: tbT1
theorem tbI_ok : TabOk Tryz.prog (tabOf tbI) := tab_cons tbT1_ok sm_ok
def zzI : Nat → Int := fun _ => 0
def ok2 (n m : Nat) : Bool := (Nat.ble n n && true) && ((Nat.ble m m && true) && true)
theorem ok2_ok (n m : Nat) : ok2 n m = true := by unfold ok2; rw [ble_self, ble_self]; rfl
section
variable (n m : Nat) (room room' e bad : Int) (a h a' h' : Nat → Int)
def isH : Hp := hpT (smTs n m a h a' h') [] []
def isA : List A := [.agg [ci room, slC false 0 2 n], int e, int 0, .agg [ci room', slC false 1 2 m]]
noncomputable def isT : Tree ((Bool × A × Hp) ⊕ (List Bool × St)) := preA Tryz.prog (tabOf tbI) Tryz.f56 (isA n m room room' e) (isH n m a h a' h') (true, false)
def isS : SkL := .ff (.node (e == 0) (.tt (.tt (.need (okN n) (.need (Nat.ble n 1000000) (.node (Nat.beq n 0) (.tt (.need (okN m) (lfT (isH n m a h a' h') (sameT 0 m room room' zzI zzI a' h')))) (.tt (.need (ok2 n m) (.need (Nat.ble n 1000000) (lfT (isH n m a h a' h') (sameT n m room room' a h a' h')))))))))) (.ff (.ff (.ff (lfT (isH n m a h a' h') false)))))
theorem is_into : isT n m room room' e a h a' h' = into (isT n m room room' e a h a' h') (isS n m room room' e a h a' h') := by kernel_rfl
theorem is_fits : fits (isT n m room room' e a h a' h') (isS n m room room' e a h a' h') = true := by kernel_rfl
def isV : Bool := match e == 0 with
  | true => sameT n m room room' a h a' h'
  | false => false
theorem is_call (hn : n ≤ 1000000) : CallAt Tryz.prog 56 (isA n m room room' e) (isH n m a h a' h') (boo (isV n m room room' e a h a' h')) (isH n m a h a' h') := by
  refine call_sk tbI_ok Tryz.func56 (by kernel_rfl) (true, false) (by kernel_rfl) (S := isS n m room room' e a h a' h') (is_into n m room room' e a h a' h') (is_fits n m room room' e a h a' h') (SkLeads.all ?_)
  unfold isV
  refine sk_ff (sk_either (fun g1 => ?_) fun g1 => ?_)
  · rw [g1]
    refine sk_tt (sk_tt (sk_need (okN_ok n) (sk_need (ble_lit hn) (sk_either (fun g2 => ?_) fun g2 => ?_))))
    · have h0 := Nat.eq_of_beq_eq_true g2
      subst h0
      exact sk_tt (sk_need (okN_ok m) (sk_leaf rfl))
    · exact sk_tt (sk_need (ok2_ok n m) (sk_need (ble_lit hn) (sk_leaf rfl)))
  · rw [g1]; exact sk_ff (sk_ff (sk_ff (sk_leaf rfl)))
/-- two tanks without layers -/
def isN : Bool := match e == bad with
  | true => match bad != 0 with
    | true => sameT 0 0 room 0 zzI zzI zzI zzI
    | false => sameT 0 0 room room' zzI zzI zzI zzI
  | false => false
def isNS : SkL := .node (bad != 0) (.node (e == bad) (.tt (.tt (.tt (.tt (lfT (hpT [] [] []) (sameT 0 0 room 0 zzI zzI zzI zzI)))))) (.ff (.ff (.ff (lfT (hpT [] [] []) false))))) (.node (e == bad) (.tt (.tt (.tt (.tt (lfT (hpT [] [] []) (sameT 0 0 room room' zzI zzI zzI zzI)))))) (.ff (.ff (.ff (lfT (hpT [] [] []) false)))))
theorem is_nil : CallAt Tryz.prog 56 [.agg [ci room, nilC], int e, int bad, .agg [ci room', nilC]] (hpT [] [] []) (boo (isN room room' e bad)) (hpT [] [] []) := by
  refine call_sk tbI_ok Tryz.func56 (by kernel_rfl) (true, false) (by kernel_rfl) (S := isNS room room' e bad) (by kernel_rfl) (by kernel_rfl) (SkLeads.all ?_)
  unfold isN
  refine sk_either (fun g0 => sk_either (fun g1 => ?_) fun g1 => ?_) fun g0 => sk_either (fun g1 => ?_) fun g1 => ?_
  · rw [g1, g0]; exact sk_tt (sk_tt (sk_tt (sk_tt (sk_leaf rfl))))
  · rw [g1]; exact sk_ff (sk_ff (sk_ff (sk_leaf rfl)))
  · rw [g1, g0]; exact sk_tt (sk_tt (sk_tt (sk_tt (sk_leaf rfl))))
  · rw [g1]; exact sk_ff (sk_ff (sk_ff (sk_leaf rfl)))
end
def isF : FT
  | [room, e, bad, room'], [], [], [⟨none, _, _⟩, ⟨none, _, _⟩] => .leaf (boo (isN room room' e bad), [])
  | [room, e, bad, room'], [], [], [⟨some _, n, [.int .i64 a, .int .i64 h]⟩, ⟨some _, m, [.int .i64 a', .int .i64 h']⟩] => .need (Nat.ble n 1000000) (.need (bad == 0) (.leaf (boo (isV n m room room' e a h a' h'), [])))
  | _, _, _, _ => .fail 390
def isSh : Shp := [tkS, (false, [.i]), (false, [.i]), tkS]
def isSp : Spec := fun args h => specT isSh [] isF args h
theorem is_ok : SpecOk Tryz.prog 56 isSp := by
  refine specT_ok rfl (by decide) fun l m n ts v news hl hm hn ht hnil hF => ?_
  unfold isF at hF
  split at hF
  · simp only [Tree.run, Option.some.injEq, Prod.mk.injEq] at hF
    obtain ⟨rfl, rfl⟩ := hF
    rename_i room e bad room' n1 c1 n2 c2
    exact is_nil room room' e bad
  · rename_i room e bad room' i n a h j m a' h'
    obtain ⟨hok, hF⟩ := Tree.need_some hF
    obtain ⟨h0, hF⟩ := Tree.need_some hF
    have hok := Nat.le_of_ble_eq_true hok
    have h0 := eq_of_beq h0
    subst h0
    simp only [Tree.run, Option.some.injEq, Prod.mk.injEq] at hF
    obtain ⟨rfl, rfl⟩ := hF
    exact is_call n m room room' e a h a' h' hok
  · cases hF
def tbL (B : Bool) (c c1 : Int) (c2 : Option Int) (g : (Nat → Int) → (Nat → Int) → Nat → T3) : List (FuncId × Spec) := (56, isSp) :: (45, fun args h => specT [tkS] [] (mxF false 81 152) args h) :: (52, fun args h => specT [tkS] [] (mxF true 76 98) args h) :: tbS B c c1 c2 g
theorem tbL_ok (B : Bool) (c c1 : Int) (c2 : Option Int) : TabOk Tryz.prog (tabOf (tbL B c c1 c2 togS)) := tab_cons (tab_cons (tab_cons (tbS_ok B c c1 c2) mqE_ok) mpE_ok) is_ok
end Go.Ev
