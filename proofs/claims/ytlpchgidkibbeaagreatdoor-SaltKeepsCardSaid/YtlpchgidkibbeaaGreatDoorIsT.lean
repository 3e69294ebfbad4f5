/- Two tanks that are compared; entries that say less; errors of tanks are not below 0; a tank is the same as itself. Conditions: few layers. -/
import Derived.Test.YtlpchgidkibbeaaGreatDoorTank3
namespace Go.Ev
open Go Go.Proofs
set_option maxRecDepth 100000
section
variable (n m : Nat) (room room' : Int) (a h a' h' : Nat → Int)
def smTs : List TA := [⟨some 0, n, tkC a h⟩, ⟨some 1, m, tkC a' h'⟩]
def smA : List A := [tankA room n, .agg [ci room', slC false 1 2 m]]
def smB : St := { baseB 38 (smA n m room room') (hpT (smTs n m a h a' h') [] []) with keep := true }
def smN (env : List (Nat × A)) (news : List Blk) : St := { stN 38 (envL env) (bsS (smTs n m a h a' h') []) [] news with keep := true }
def smHS (i : Int) : St := smN n m a h a' h' [(2, pt 2), (3, pt 3), (4, boo false), (5, int i)] [tbox 76 room (slC false 0 2 n), tbox 76 room' (slC false 1 2 m)]
def smH (k : Nat) : St := smHS n m room room' a h a' h' (k : Int)
def smX (b : Bool) : St := smN n m a h a' h' [(4, boo b)] []
noncomputable def smT (k : Nat) : Tree (X × St) := (recT Tryz.prog noTab (loopF Tryz.f73) (smH n m room room' a h a' h' k)).bind (canonT [2, 3, 4, 5] [4] (smB n m room room' a h a' h'))
noncomputable def smO : Tree ((X × St) ⊕ (List Bool × St)) := evO (recT Tryz.prog noTab) (bodyOf Tryz.f73) [2, 3, 4, 5] [4] (smB n m room room' a h a' h')
noncomputable def smP (x : X) : Tree ((X × St) ⊕ (List Bool × St)) := evO2 (recT Tryz.prog noTab) true (bodyOf Tryz.f73) (pathF Tryz.f73) [] [4] (smB n m room room' a h a' h') (x, smX n m a h a' h' false)
def eqR (k : Nat) : Bool := a k == a' k && (h k == h' k && true)
def smG (k : Nat) : Int := match eqR a h a' h' k with | true => 0 | false => 1
def sameT : Bool := match room != room' with
 | true => false
 | false => match (n : Int) != (m : Int) with
  | true => false
  | false => match fnz (smG a h a' h') n 0 with
   | some _ => false
   | none => true
noncomputable def smSk (k : Nat) : Sk (X × St) := .node (decide ((k : Int) < (n : Int))) (.need (decide (0 ≤ (k : Int)) && decide ((k : Int) < (n : Int))) (.need (Nat.blt (0 + Int.toNat (k : Int)) n) (.need (Nat.blt (0 + Int.toNat (k : Int)) n)
  (.need (decide (0 ≤ (k : Int)) && decide ((k : Int) < (m : Int))) (.need (Nat.blt (0 + Int.toNat (k : Int)) m) (.need (Nat.blt (0 + Int.toNat (k : Int)) m)
   (.node (!(eqR a h a' h' (0 + Int.toNat (k : Int)))) (.leaf (.ret, smX n m a h a' h' false)) (.leaf (.normal, smHS n m room room' a h a' h' (IntKind.i64.wrap ((k : Int) + 1)))))))))))
 (.leaf (.exit 0, smX n m a h a' h' false))
theorem sm_into (k : Nat) : smT n m room room' a h a' h' k = into (smT n m room room' a h a' h' k) (smSk n m room room' a h a' h' k) := by kernel_rfl
theorem sm_fits (k : Nat) : fits (smT n m room room' a h a' h' k) (smSk n m room room' a h a' h' k) = true := by kernel_rfl
theorem sm_loop (hn : n ≤ 1000000) (hnm : n = m) : ComesF Tryz.prog (.loop (loopF Tryz.f73)) (smB n m room room' a h a' h') (smH n m room room' a h a' h' 0) fun q => q = finT (fun _ => smX n m a h a' h' false) n (smG a h a' h') 0 := by
 refine loop_count (recT_ok noTab_ok) rfl [2, 3, 4, 5] [4] (smH n m room room' a h a' h') (finT (fun _ => smX n m a h a' h' false) n (smG a h a' h')) n (smT n m room room' a h a' h') (smSk n m room room' a h a' h') (fun _ => rfl) (sm_into n m room room' a h a' h') (sm_fits n m room room' a h a' h') (fun k hk => ?_) (sk_no (rnd_end n) (sk_leaf (finT_end (Y := fun _ => smX n m a h a' h' false) (n := n) (g := smG a h a' h')).symm))
 obtain ⟨a1, a2, a3⟩ := rnd_lt hk
 obtain ⟨b1, b2, b3⟩ := rnd_lt (show k < m by omega)
 refine sk_yes a1 (sk_need a2 (sk_need a3 (sk_need a3 (sk_need b2 (sk_need b3 (sk_need b3 ?_))))))
 rw [idx_nat]
 refine sk_either (fun h1 => sk_leaf (rnd_ret ?_)) fun h1 => sk_leaf (rnd_next (by rw [wrap_succ (by omega)]; exact St.Le.refl _) (finT_next hk ?_))
 ·have e : smG a h a' h' k = 1 := by unfold smG; rw [show eqR a h a' h' k = false by simpa using h1]
  rw [finT_ret hk (by rw [e]; decide)]
 ·unfold smG; rw [show eqR a h a' h' k = true by simpa using h1]
noncomputable def smOSk : Sk ((X × St) ⊕ (List Bool × St)) := .node (room != room') (.tt (.leaf (.inl (.ret, smX n m a h a' h' false)))) (.node ((n : Int) != (m : Int)) (.leaf (.inl (.ret, smX n m a h a' h' false))) (.leaf (.inr (pathF Tryz.f73, smH n m room room' a h a' h' 0))))
theorem smO_into : smO n m room room' a h a' h' = into (smO n m room room' a h a' h') (smOSk n m room room' a h a' h') := by kernel_rfl
theorem smO_fits : fits (smO n m room room' a h a' h') (smOSk n m room room' a h a' h') = true := by kernel_rfl
theorem smP_into : smP n m room room' a h a' h' (.exit 0) = into (smP n m room room' a h a' h' (.exit 0)) (.leaf (.inl (.ret, smX n m a h a' h' true))) := by kernel_rfl
theorem smP_fits : fits (smP n m room room' a h a' h' (.exit 0)) (.leaf (.inl (.ret, smX n m a h a' h' true))) = true := by kernel_rfl
theorem smQ_into : smP n m room room' a h a' h' .ret = into (smP n m room room' a h a' h' .ret) (.leaf (.inl (.ret, smX n m a h a' h' false))) := by kernel_rfl
theorem smQ_fits : fits (smP n m room room' a h a' h' .ret) (.leaf (.inl (.ret, smX n m a h a' h' false))) = true := by kernel_rfl
theorem sm_left (b : Bool) : Left2 Tryz.prog Tryz.f73 (hpT (smTs n m a h a' h') [] []) (boo b) (hpT (smTs n m a h a' h') [] []) (.ret, smX n m a h a' h' b) := left_of (b := true) (by kernel_rfl)
theorem sm_call (hn : n ≤ 1000000) : CallAt Tryz.prog 73 (smA n m room room') (hpT (smTs n m a h a' h') [] []) (boo (sameT n m room room' a h a' h')) (hpT (smTs n m a h a' h') [] []) := by
 refine call_base (recT_ok noTab_ok) (c := bodyOf Tryz.f73) (fn := Tryz.f73) Tryz.func73 (by kernel_rfl) (by kernel_rfl) (false, true) 1 [2, 3, 4, 5] [4] (sB := smB n m room room' a h a' h') (by kernel_rfl) (t := smO n m room room' a h a' h') (by delta smO; rfl) (all_into (smO_into n m room room' a h a' h') (smO_fits n m room room' a h a' h') (SkLeads.all ?_))
 unfold sameT
 refine sk_either (fun h1 => sk_tt (sk_leaf (cutF_dn ?_))) fun h1 => sk_either (fun h2 => sk_leaf (cutF_dn ?_)) fun h2 => ?_
 ·rw [h1]; exact sm_left n m a h a' h' false
 ·rw [h1, h2]; exact sm_left n m a h a' h' false
 ·refine sk_leaf ⟨_, true, [], [4], sm_loop n m room room' a h a' h' hn (Int.ofNat.inj (by simpa using h2)), fun q hq => Leads.all ?_⟩
  subst hq
  rw [h1, h2]
  unfold finT
  rw [Nat.sub_zero]
  cases fnz (smG a h a' h') n 0 with
  | some e => exact leads_in (show _ = smP n m room room' a h a' h' .ret by delta smP; rfl) (smQ_into n m room room' a h a' h') (smQ_fits n m room room' a h a' h') (sk_leaf (cutF_dn (sm_left n m a h a' h' false)))
  | none => exact leads_in (show _ = smP n m room room' a h a' h' (.exit 0) by delta smP; rfl) (smP_into n m room room' a h a' h') (smP_fits n m room room' a h a' h') (sk_leaf (cutF_dn (sm_left n m a h a' h' true)))
end
end Go.Ev
namespace Go.Ev
open Go Go.Proofs
set_option maxRecDepth 100000
section
variable (room room' : Int) (a h a' h' : Nat → Int)
theorem sm_ns (m : Nat) : CallAt Tryz.prog 73 [.agg [ci room, nilC], .agg [ci room', slC false 0 2 m]] (hpT [⟨some 0, m, tkC a' h'⟩] [] []) (boo (sameT 0 m room room' a h a' h')) (hpT [⟨some 0, m, tkC a' h'⟩] [] []) := by
 refine call_sk noTab_ok Tryz.func73 (by kernel_rfl) (false, true) (by kernel_rfl) (S := .node (room != room') (.tt (.leaf (.inl (true, boo false, hpT [⟨some 0, m, tkC a' h'⟩] [] [])))) (.node (((0 : Nat) : Int) != (m : Int)) (.leaf (.inl (true, boo false, hpT [⟨some 0, m, tkC a' h'⟩] [] []))) (.ff (.leaf (.inl (true, boo true, hpT [⟨some 0, m, tkC a' h'⟩] [] [])))))) (by kernel_rfl) (by kernel_rfl) (SkLeads.all ?_)
 unfold sameT
 refine sk_either (fun g1 => ?_) fun g1 => sk_either (fun g2 => ?_) fun g2 => ?_
 ·rw [g1]; exact sk_tt (sk_leaf rfl)
 ·rw [g1]; simp only; rw [g2]; exact sk_leaf rfl
 ·rw [g1]; simp only; rw [g2]; exact sk_ff (sk_leaf rfl)
theorem sm_sn (n : Nat) : CallAt Tryz.prog 73 [.agg [ci room, slC false 0 2 n], .agg [ci room', nilC]] (hpT [⟨some 0, n, tkC a h⟩] [] []) (boo (sameT n 0 room room' a h a' h')) (hpT [⟨some 0, n, tkC a h⟩] [] []) := by
 cases n with
 | zero =>
  refine call_sk noTab_ok Tryz.func73 (by kernel_rfl) (false, true) (by kernel_rfl) (S := .node (room != room') (.tt (.leaf (.inl (true, boo false, hpT [⟨some 0, 0, tkC a h⟩] [] [])))) (.ff (.ff (.leaf (.inl (true, boo true, hpT [⟨some 0, 0, tkC a h⟩] [] [])))))) (by kernel_rfl) (by kernel_rfl) (SkLeads.all ?_)
  unfold sameT
  refine sk_either (fun g1 => ?_) fun g1 => ?_
  ·rw [g1]; exact sk_tt (sk_leaf rfl)
  ·rw [g1]; exact sk_ff (sk_ff (sk_leaf rfl))
 | succ k =>
  refine call_sk noTab_ok Tryz.func73 (by kernel_rfl) (false, true) (by kernel_rfl) (S := .node (room != room') (.tt (.leaf (.inl (true, boo false, hpT [⟨some 0, k + 1, tkC a h⟩] [] [])))) (.tt (.leaf (.inl (true, boo false, hpT [⟨some 0, k + 1, tkC a h⟩] [] []))))) (by kernel_rfl) (by kernel_rfl) (SkLeads.all ?_)
  unfold sameT
  refine sk_either (fun g1 => ?_) fun g1 => ?_
  ·rw [g1]; exact sk_tt (sk_leaf rfl)
  ·rw [g1]; exact sk_tt (sk_leaf rfl)
theorem sm_nn : CallAt Tryz.prog 73 [.agg [ci room, nilC], .agg [ci room', nilC]] (hpT [] [] []) (boo (sameT 0 0 room room' a h a' h')) (hpT [] [] []) := by
 refine call_sk noTab_ok Tryz.func73 (by kernel_rfl) (false, true) (by kernel_rfl) (S := .node (room != room') (.tt (.leaf (.inl (true, boo false, hpT [] [] [])))) (.ff (.ff (.leaf (.inl (true, boo true, hpT [] [] [])))))) (by kernel_rfl) (by kernel_rfl) (SkLeads.all ?_)
 unfold sameT
 refine sk_either (fun g1 => ?_) fun g1 => ?_
 ·rw [g1]; exact sk_tt (sk_leaf rfl)
 ·rw [g1]; exact sk_ff (sk_ff (sk_leaf rfl))
end
def smF : FT
 | [room, room'], [], [], [⟨_, n, [.int .i64 a, .int .i64 h]⟩, ⟨_, m, [.int .i64 a', .int .i64 h']⟩] => .need (Nat.ble n 1000000) (.leaf (boo (sameT n m room room' a h a' h'), []))
 | _, _, _, _ => .fail 386
def smSp : Spec := fun args h => specT [tkS, tkS] [] smF args h
theorem sm_ok : SpecOk Tryz.prog 73 smSp := by
 refine specT_ok rfl (by decide) fun l m n ts v news hl hm hn ht hnil hF => ?_
 unfold smF at hF
 split at hF
 ·rename_i room room' i n a h j m a' h'
  obtain ⟨hok, hF⟩ := Tree.need_some hF
  have hok := Nat.le_of_ble_eq_true hok
  simp only [Tree.run, Option.some.injEq, Prod.mk.injEq] at hF
  obtain ⟨rfl, rfl⟩ := hF
  cases i with
  | none =>
   have h0 : n = 0 := hnil _ List.mem_cons_self rfl
   subst h0
   cases j with
   | none =>
    have h0 : m = 0 := hnil _ (List.mem_cons_of_mem _ List.mem_cons_self) rfl
    subst h0
    exact sm_nn room room' a h a' h'
   | some j => exact sm_ns room room' a h a' h' m
  | some i =>
   cases j with
   | none =>
    have h0 : m = 0 := hnil _ (List.mem_cons_of_mem _ List.mem_cons_self) rfl
    subst h0
    exact sm_sn room room' a h a' h' n
   | some j => exact sm_call n m room room' a h a' h' hok
 ·cases hF
theorem specT_sub {P : Program} {f : FuncId} {sh : Shp} {gl : List (Nat × List C)} {F F' : FT} (h : SpecOk P f fun args h => specT sh gl F args h) (hF : ∀ l m n ts r, (F' l m n ts).run = some r → (F l m n ts).run = some r) : SpecOk P f fun args h => specT sh gl F' args h := by
 intro args hp v h' hr
 refine h args hp v h' ?_
 simp only at hr ⊢
 unfold specT at hr ⊢
 split at hr
 ·rename_i d gids hd hgi
  obtain ⟨hok, hr⟩ := Tree.need_some hr
  obtain ⟨r, hF', hr⟩ := Tree.bind_some hr
  simp only [Tree.run, hok, Tree.run_bind, hF _ _ _ _ _ hF', Option.bind_some]
  exact hr
 ·cases hr
section
variable (e : Int)
def ctFE : FT
 | [room], [], [], [⟨_, n, [.int .i64 z1, .int .i64 z2]⟩] => .need (Nat.ble n 17) (.need (tankE n room z1 z2 == e) (.leaf (int e, [])))
 | _, _, _, _ => .fail 387
end
theorem run_need {α : Type} {b : Bool} {t : Tree α} (h : b = true) : (Tree.need b t).run = t.run := by subst h; rfl
theorem ctE_ok (e : Int) : SpecOk Tryz.prog 55 fun args h => specT [tkS] [] (ctFE e) args h := specT_sub (F := ctF) ct_ok fun l m n ts r hr => by
 unfold ctFE at hr
 split at hr
 ·obtain ⟨h1, hr⟩ := Tree.need_some hr
  obtain ⟨h2, hr⟩ := Tree.need_some hr
  obtain rfl := eq_of_beq h2
  unfold ctF
  rw [run_need h1]
  exact hr
 ·cases hr
theorem qcE_ok (e : Int) : SpecOk Tryz.prog 47 fun args h => specT [tkS] [] (ctFE e) args h := specT_sub (F := qcF) qc_ok fun l m n ts r hr => by
 unfold ctFE at hr
 split at hr
 ·obtain ⟨h1, hr⟩ := Tree.need_some hr
  obtain ⟨h2, hr⟩ := Tree.need_some hr
  obtain rfl := eq_of_beq h2
  unfold qcF
  rw [run_need h1]
  exact hr
 ·cases hr
def ok2 (n m : Nat) : Bool := (Nat.ble n n && true) && ((Nat.ble m m && true) && true)
theorem ok2_ok (n m : Nat) : ok2 n m = true := by unfold ok2; rw [ble_self, ble_self]; rfl
section
variable (n m : Nat) (room room' e bad : Int) (a h a' h' : Nat → Int)
end
theorem fnz0 {g : Nat → Int} (h : ∀ j, g j = 0) : ∀ m k, fnz g m k = none
 | 0, _ => rfl
 | m + 1, k => by
  unfold fnz
  rw [h k]
  exact fnz0 h m (k + 1)
end Go.Ev
