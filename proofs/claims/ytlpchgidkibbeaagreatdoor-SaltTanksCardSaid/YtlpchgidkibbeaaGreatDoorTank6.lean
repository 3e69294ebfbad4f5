/- Tanks: two tanks that are compared. Conditions: few layers. -/
import Derived.Test.YtlpchgidkibbeaaGreatDoorTank5
namespace Go.Ev
open Go Go.Proofs
set_option maxRecDepth 100000


section
variable (n m : Nat) (room room' : Int) (a h a' h' : Nat → Int)
def smTs : List TA := [⟨some 0, n, tkC a h⟩, ⟨some 1, m, tkC a' h'⟩]
def smA : List A := [tankA room n, .agg [ci room', slC false 1 2 m]]
def smB : St := { baseB 38 (smA n m room room') (hpT (smTs n m a h a' h') [] []) with keep := true }
def smN (env : List (Nat × A)) (news : List Blk) : St := { stN 38 (envL env) (bsS (smTs n m a h a' h') []) [] news with keep := true }
def smHS (i : Int) : St := smN n m a h a' h' [(2, pt 2), (3, pt 3), (4, boo false), (5, int i)] [tbox 76 room (slC false 0 2 n), tbox 76 room' (slC false 1 2 m)]
def smH (k : Nat) : St := smHS n m room room' a h a' h' (k : Int)
def smX (b : Bool) : St := smN n m a h a' h' [(4, boo b)] []
noncomputable def smT (k : Nat) : Tree (X × St) := (recT Tryz.prog noTab (loopF Tryz.f73) (smH n m room room' a h a' h' k)).bind (canonT [2, 3, 4, 5] [4] (smB n m room room' a h a' h'))
noncomputable def smO : Tree ((X × St) ⊕ (List Bool × St)) := evO (recT Tryz.prog noTab) (bodyOf Tryz.f73) [2, 3, 4, 5] [4] (smB n m room room' a h a' h')
noncomputable def smP (x : X) : Tree ((X × St) ⊕ (List Bool × St)) := evO2 (recT Tryz.prog noTab) true (bodyOf Tryz.f73) (pathF Tryz.f73) [] [4] (smB n m room room' a h a' h') (x, smX n m a h a' h' false)
def eqR (k : Nat) : Bool := a k == a' k && (h k == h' k && true)
def smG (k : Nat) : Int := match eqR a h a' h' k with | true => 0 | false => 1
/-- are two tanks alike -/
def sameT : Bool := match room != room' with
  | true => false
  | false => match (n : Int) != (m : Int) with
    | true => false
    | false => match fnz (smG a h a' h') n 0 with
      | some _ => false
      | none => true
noncomputable def smSk (k : Nat) : Sk (X × St) := .node (decide ((k : Int) < (n : Int))) (.need (decide (0 ≤ (k : Int)) && decide ((k : Int) < (n : Int))) (.need (Nat.blt (0 + Int.toNat (k : Int)) n) (.need (Nat.blt (0 + Int.toNat (k : Int)) n)
    (.need (decide (0 ≤ (k : Int)) && decide ((k : Int) < (m : Int))) (.need (Nat.blt (0 + Int.toNat (k : Int)) m) (.need (Nat.blt (0 + Int.toNat (k : Int)) m)
      (.node (!(eqR a h a' h' (0 + Int.toNat (k : Int)))) (.leaf (.ret, smX n m a h a' h' false)) (.leaf (.normal, smHS n m room room' a h a' h' (IntKind.i64.wrap ((k : Int) + 1)))))))))))
  (.leaf (.exit 0, smX n m a h a' h' false))
theorem sm_into (k : Nat) : smT n m room room' a h a' h' k = into (smT n m room room' a h a' h' k) (smSk n m room room' a h a' h' k) := by kernel_rfl
theorem sm_fits (k : Nat) : fits (smT n m room room' a h a' h' k) (smSk n m room room' a h a' h' k) = true := by kernel_rfl
theorem sm_loop (hn : n ≤ 1000000) (hnm : n = m) : ComesF Tryz.prog (.loop (loopF Tryz.f73)) (smB n m room room' a h a' h') (smH n m room room' a h a' h' 0) fun q => q = finT (fun _ => smX n m a h a' h' false) n (smG a h a' h') 0 := by
  refine loop_count (recT_ok noTab_ok) rfl [2, 3, 4, 5] [4] (smH n m room room' a h a' h') (finT (fun _ => smX n m a h a' h' false) n (smG a h a' h')) n (smT n m room room' a h a' h') (smSk n m room room' a h a' h') (fun _ => rfl) (sm_into n m room room' a h a' h') (sm_fits n m room room' a h a' h') (fun k hk => ?_) (sk_no (rnd_end n) (sk_leaf (finT_end (Y := fun _ => smX n m a h a' h' false) (n := n) (g := smG a h a' h')).symm))
  obtain ⟨a1, a2, a3⟩ := rnd_lt hk
  obtain ⟨b1, b2, b3⟩ := rnd_lt (show k < m by omega)
  refine sk_yes a1 (sk_need a2 (sk_need a3 (sk_need a3 (sk_need b2 (sk_need b3 (sk_need b3 ?_))))))
  rw [idx_nat]
  refine sk_either (fun h1 => sk_leaf (rnd_ret ?_)) fun h1 => sk_leaf (rnd_next (by rw [wrap_succ (by omega)]; exact St.Le.refl _) (finT_next hk ?_))
  · have e : smG a h a' h' k = 1 := by unfold smG; rw [show eqR a h a' h' k = false by simpa using h1]
    rw [finT_ret hk (by rw [e]; decide)]
  · unfold smG; rw [show eqR a h a' h' k = true by simpa using h1]
noncomputable def smOSk : Sk ((X × St) ⊕ (List Bool × St)) := .node (room != room') (.tt (.leaf (.inl (.ret, smX n m a h a' h' false)))) (.node ((n : Int) != (m : Int)) (.leaf (.inl (.ret, smX n m a h a' h' false))) (.leaf (.inr (pathF Tryz.f73, smH n m room room' a h a' h' 0))))
theorem smO_into : smO n m room room' a h a' h' = into (smO n m room room' a h a' h') (smOSk n m room room' a h a' h') := by kernel_rfl
theorem smO_fits : fits (smO n m room room' a h a' h') (smOSk n m room room' a h a' h') = true := by kernel_rfl
theorem smP_into : smP n m room room' a h a' h' (.exit 0) = into (smP n m room room' a h a' h' (.exit 0)) (.leaf (.inl (.ret, smX n m a h a' h' true))) := by kernel_rfl
theorem smP_fits : fits (smP n m room room' a h a' h' (.exit 0)) (.leaf (.inl (.ret, smX n m a h a' h' true))) = true := by kernel_rfl
theorem smQ_into : smP n m room room' a h a' h' .ret = into (smP n m room room' a h a' h' .ret) (.leaf (.inl (.ret, smX n m a h a' h' false))) := by kernel_rfl
theorem smQ_fits : fits (smP n m room room' a h a' h' .ret) (.leaf (.inl (.ret, smX n m a h a' h' false))) = true := by kernel_rfl
theorem sm_left (b : Bool) : Left2 Tryz.prog Tryz.f73 (hpT (smTs n m a h a' h') [] []) (boo b) (hpT (smTs n m a h a' h') [] []) (.ret, smX n m a h a' h' b) := left_of (b := true) (by kernel_rfl)
theorem sm_call (hn : n ≤ 1000000) : CallAt Tryz.prog 73 (smA n m room room') (hpT (smTs n m a h a' h') [] []) (boo (sameT n m room room' a h a' h')) (hpT (smTs n m a h a' h') [] []) := by
  refine call_base (recT_ok noTab_ok) (c := bodyOf Tryz.f73) (fn := Tryz.f73) Tryz.func73 (by kernel_rfl) (by kernel_rfl) (false, true) 1 [2, 3, 4, 5] [4] (sB := smB n m room room' a h a' h') (by kernel_rfl) (t := smO n m room room' a h a' h') (by delta smO; rfl) (all_into (smO_into n m room room' a h a' h') (smO_fits n m room room' a h a' h') (SkLeads.all ?_))
  unfold sameT
  refine sk_either (fun h1 => sk_tt (sk_leaf (cutF_dn ?_))) fun h1 => sk_either (fun h2 => sk_leaf (cutF_dn ?_)) fun h2 => ?_
  · rw [h1]; exact sm_left n m a h a' h' false
  · rw [h1, h2]; exact sm_left n m a h a' h' false
  · refine sk_leaf ⟨_, true, [], [4], sm_loop n m room room' a h a' h' hn (Int.ofNat.inj (by simpa using h2)), fun q hq => Leads.all ?_⟩
    subst hq
    rw [h1, h2]
    unfold finT
    rw [Nat.sub_zero]
    cases fnz (smG a h a' h') n 0 with
    | some e => exact leads_in (show _ = smP n m room room' a h a' h' .ret by delta smP; rfl) (smQ_into n m room room' a h a' h') (smQ_fits n m room room' a h a' h') (sk_leaf (cutF_dn (sm_left n m a h a' h' false)))
    | none => exact leads_in (show _ = smP n m room room' a h a' h' (.exit 0) by delta smP; rfl) (smP_into n m room room' a h a' h') (smP_fits n m room room' a h a' h') (sk_leaf (cutF_dn (sm_left n m a h a' h' true)))
end
end Go.Ev
