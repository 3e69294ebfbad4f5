/- SaltMoves: a tank that is drawn, by the program. Conditions: few layers. SaltMoves: a tank that is drawn, by the program, for each number of layers; its entry. Conditions: few layers. -/
import Derived.Test.YtlpchgidkibbeaaGreatDoorMvC
import Derived.Test.YtlpchgidkibbeaaGreatDoorWrm
namespace Go.Ev
open Go Go.Proofs
set_option maxRecDepth 100000
def tbDp (g : Gt) (d : Gd) : List (FuncId × Spec) := (117, delSp d) :: tbG g
theorem tbDp_ok : TabOk Tryz.prog (tabOf (tbDp togS delS)) := tab_cons tbT2_ok delSp_ok
section
variable (g : Gt) (d : Gd) (n : Nat) (room am : Int) (top : Bool) (z1 z2 : Nat → Int)
noncomputable def drRe : Code → St → Tree (X × St) := recT Tryz.prog (tabOf (stpL (tbDp g d)))
def drB : St := { baseB 82 [tankA room n, int am, .one (.lit (.bool top))] (tankH n z1 z2) with keep := true }
noncomputable def drT : Tree ((X × St) ⊕ (List Bool × St)) := evO (drRe g d) (bodyOf Tryz.f58) [] [6, 7, 8] (drB n room am top z1 z2)
end
abbrev DS := Int × Int × (Nat → Int) × (Nat → Int)
def minZ (a b : Int) : Int := if a < b then a else b
def takeZ (z1 z2 : Nat → Int) (am : Int) (i : Nat) : Int := w64 ((w64 (z2 i * minZ (z1 i) am)).tdiv (z1 i))
def drSt (z1 z2 : Nat → Int) (s : DS) (i : Nat) : DS := (w64 (s.1 - minZ (z1 i) s.1), w64 (s.2.1 + takeZ z1 z2 s.1 i), putF s.2.2.1 i (w64 (z1 i - minZ (z1 i) s.1)), putF s.2.2.2 i (w64 (z2 i - takeZ z1 z2 s.1 i)))
def ixT (top : Bool) (n k : Nat) : Nat := match top with | true => n - 1 - k | false => k
def drN (top : Bool) (n : Nat) (am : Int) (z1 z2 : Nat → Int) : Nat → DS
 | 0 => (am, 0, z1, z2)
 | k + 1 => drSt z1 z2 (drN top n am z1 z2 k) (ixT top n k)
section
variable (g : Gt) (d : Gd) (n : Nat) (room am : Int) (top : Bool) (z1 z2 : Nat → Int)
def drL (m : Nat) : T3 := d (drN top n am z1 z2 m).2.2.1 (drN top n am z1 z2 m).2.2.2 n
def drK (x : T3) : T3 := g x.2.1 x.2.2 x.1
def drE1 (n : Nat) (room am : Int) (z1 z2 : Nat → Int) : Int := firstZ [tankE n room z1 z2, wW am 1 1000000, errIf (decide (am > sumA z1 n)) 16]
def drNw (env : List (Nat × A)) (news : List Blk) : St := stN 82 (envL env) (bsS [⟨some 0, n, tkC z1 z2⟩] []) [] news true
def drXb (e : Int) : St := drNw n z1 z2 [(6, .one (.ptr 1 0 1 0)), (7, int 0), (8, int e)] [boxT 81 0 nilC]
def drX0 (ht : Int) : St := drNw n z1 z2 [(6, .one (.ptr 1 0 1 0)), (7, int ht), (8, int 0)] [boxT 81 room nilC]
def drXg (ht : Int) (t : T3) : St := drNw n z1 z2 [(6, .one (.ptr 1 0 1 0)), (7, int ht), (8, int 0)] (boxT 81 room (slC true 2 2 t.1) :: layB 152 t)
noncomputable def drTl (s : DS) : SkO2 := .ff (.nn (.need (((Nat.ble (d s.2.2.1 s.2.2.2 n).1 (d s.2.2.1 s.2.2.2 n).1 && true) && true) && Nat.ble (d s.2.2.1 s.2.2.2 n).1 100000) (.node (Nat.beq (d s.2.2.1 s.2.2.2 n).1 0) (.leaf (.inl (.ret, drX0 n room z1 z2 s.2.1))) (.leaf (.inl (.ret, drXg n room z1 z2 s.2.1 (drK g (d s.2.2.1 s.2.2.2 n))))))))
noncomputable def drRd (b : Bool) (S : SkO2) : SkO2 := .tt (match top with | true => .tt (.nn (.nn (.nn (.need b (.ff S))))) | false => .ff (.nn (.nn (.nn (.need b (.ff S))))))
noncomputable def drSk (tl : SkO2) : Nat → SkO2
 | 0 => tl
 | m + 1 => drRd top (!(z1 (ixT top n (n - (m + 1))) == 0)) (drSk tl m)
noncomputable def drS : SkO2 := .node (drE1 n room am z1 z2 != 0) (.leaf (.inl (.ret, drXb n z1 z2 (drE1 n room am z1 z2)))) (drSk n top z1 (drTl g d n room z1 z2 (drN top n am z1 z2 n)) n)
end
section
variable (g : Gt) (d : Gd) (room am : Int) (top : Bool)
def drB0 : St := { baseB 82 [.agg [ci room, nilC], int am, .one (.lit (.bool top))] (hpT [] [] []) with keep := true }
def drN0w (env : List (Nat × A)) (news : List Blk) : St := stN 82 (envL env) (bsS [] []) [] news true
def drXb0 (e : Int) : St := drN0w [(6, .one (.ptr 0 0 1 0)), (7, int 0), (8, int e)] [boxT 81 0 nilC]
noncomputable def drT0 : Tree ((X × St) ⊕ (List Bool × St)) := evO (drRe g d) (bodyOf Tryz.f58) [] [6, 7, 8] (drB0 room am top)
def elseT {α : Type} : Tree α → Tree α
 | .need _ t => elseT t
 | .node _ _ e => e
 | t => t
theorem drT0_is : drT0 g d room am top = .need true (.need true (.need true (.need true (.node (drE1 0 room am zF zF != 0) (.leaf (.inl (.ret, drXb0 (drE1 0 room am zF zF)))) (elseT (drT0 g d room am top)))))) := by
 cases top with
 | true => kernel_rfl
 | false => kernel_rfl
theorem all_nodeT {α : Type} {p : α → Prop} {b : Bool} {t e : Tree α} (hb : b = true) (h : t.All p) : (Tree.node b t e).All p := by
 subst hb
 exact h
end
def badD (e : Int) : A := .tup [(true, [ci 0, nilC]), (false, [ci 0]), (false, [ci e])]
def goodD0 (room ht : Int) : A := .tup [(true, [ci room, nilC]), (false, [ci ht]), (false, [ci 0])]
def goodD (room ht : Int) (m : Nat) : A := .tup [(true, [ci room, slC true 2 2 m]), (false, [ci ht]), (false, [ci 0])]
section
variable (n : Nat) (room am : Int) (top : Bool) (z1 z2 : Nat → Int)
theorem dr_leftb (e : Int) : Left2 Tryz.prog Tryz.f58 (tankH n z1 z2) (badD e) (tankH n z1 z2) (.ret, drXb n z1 z2 e) := left_of (b := true) (by kernel_rfl)
theorem dr_left0 (ht : Int) : Left2 Tryz.prog Tryz.f58 (tankH n z1 z2) (goodD0 room ht) (tankH n z1 z2) (.ret, drX0 n room z1 z2 ht) := left_of (b := true) (by kernel_rfl)
theorem dr_leftg (ht : Int) (t : T3) : Left2 Tryz.prog Tryz.f58 (tankH n z1 z2) (goodD room ht t.1) (chW room z1 z2 n t) (.ret, drXg n room z1 z2 ht t) := left_of (b := false) (by kernel_rfl)
theorem dr_leftb0 (e : Int) : Left2 Tryz.prog Tryz.f58 (hpT [] [] []) (badD e) (hpT [] [] []) (.ret, drXb0 e) := left_of (b := true) (by kernel_rfl)
def drM : T3 := drL delS n am top z1 z2 n
def drH : Int := (drN top n am z1 z2 n).2.1
def drV : A × Hp := match drE1 n room am z1 z2 != 0 with
 | true => (badD (drE1 n room am z1 z2), tankH n z1 z2)
 | false => match Nat.beq (drM n am top z1 z2).1 0 with
  | true => (goodD0 room (drH n am top z1 z2), tankH n z1 z2)
  | false => (goodD room (drH n am top z1 z2) (drK togS (drM n am top z1 z2)).1, chW room z1 z2 n (drK togS (drM n am top z1 z2)))
theorem drSk_ok {p : (X × St) ⊕ (List Bool × St) → Prop} {tl : SkO2} (hz : ∀ i, i < n → (!(z1 i == 0)) = true) (h : SkLeads p tl) : ∀ m, m ≤ n → SkLeads p (drSk n top z1 tl m)
 | 0, _ => h
 | m + 1, hm => by
  have ih := drSk_ok hz h m (by omega)
  unfold drSk drRd
  cases top with
  | true => exact sk_tt (sk_tt (sk_nn (sk_nn (sk_nn (sk_need (hz _ (by show n - 1 - (n - (m + 1)) < n; omega)) (sk_ff ih))))))
  | false => exact sk_tt (sk_ff (sk_nn (sk_nn (sk_nn (sk_need (hz _ (by show n - (m + 1) < n; omega)) (sk_ff ih))))))
theorem dr_call (hn : n ≤ 17) (h1 : drT togS delS n room am top z1 z2 = into (drT togS delS n room am top z1 z2) (drS togS delS n room am top z1 z2)) (h2 : fits (drT togS delS n room am top z1 z2) (drS togS delS n room am top z1 z2) = true) :
  CallAt Tryz.prog 58 [tankA room n, int am, .one (.lit (.bool top))] (tankH n z1 z2) (drV n room am top z1 z2).1 (drV n room am top z1 z2).2 := by
 refine call_baseT (rec := drRe togS delS) (recT_ok (stpL_ok tbDp_ok)) (c := bodyOf Tryz.f58) (fn := Tryz.f58) Tryz.func58 (by kernel_rfl) (by kernel_rfl) (false, true) 0 [] [6, 7, 8] (sB := drB n room am top z1 z2) (by kernel_rfl) (t := drT togS delS n room am top z1 z2) (by delta drT; rfl) h1 h2 ?_
 refine sk_either (fun g1 => sk_leaf (cutF_dn ?_)) fun g1 => ?_
 ·unfold drV
  rw [g1]
  exact dr_leftb n z1 z2 _
 ·have h0 : drE1 n room am z1 z2 = 0 := by simpa using g1
  have hT : tankE n room z1 z2 = 0 := by
   unfold drE1 at h0
   rw [firstZ] at h0
   cases hb : tankE n room z1 z2 != 0 with
   | false => simpa using hb
   | true => rw [hb] at h0; exact h0
  refine drSk_ok n top z1 (fun i hi => ?_) ?_ n (Nat.le_refl _)
  ·have := (tank_rows hT i hi).1.1
   simp only [Bool.not_eq_true', beq_eq_false_iff_ne, ne_eq]
   omega
  ·have hle : (drM n am top z1 z2).1 ≤ n := delS_le _ _ n
   refine sk_ff (sk_nn (sk_need ?_ (sk_either (fun g2 => sk_leaf (cutF_dn ?_)) fun g2 => sk_leaf (cutF_dn ?_))))
   ·have hle' : (delS (drN top n am z1 z2 n).2.2.1 (drN top n am z1 z2 n).2.2.2 n).1 ≤ n := hle
    rw [bleZ (Nat.le_refl _), bleZ (by omega)]; rfl
   ·unfold drV
    rw [g1, show Nat.beq (drM n am top z1 z2).1 0 = true from g2]
    exact dr_left0 n room z1 z2 _
   ·unfold drV
    rw [g1, show Nat.beq (drM n am top z1 z2).1 0 = false from g2]
    exact dr_leftg n room z1 z2 _ _
theorem dr_call0 (hb : (drE1 0 room am zF zF != 0) = true) : CallAt Tryz.prog 58 [.agg [ci room, nilC], int am, .one (.lit (.bool top))] (hpT [] [] []) (badD (drE1 0 room am zF zF)) (hpT [] [] []) := by
 refine call_base (rec := drRe togS delS) (recT_ok (stpL_ok tbDp_ok)) (c := bodyOf Tryz.f58) (fn := Tryz.f58) Tryz.func58 (by kernel_rfl) (by kernel_rfl) (false, true) 0 [] [6, 7, 8] (sB := drB0 room am top) (by kernel_rfl) (t := drT0 togS delS room am top) (by delta drT0; rfl) ?_
 rw [drT0_is]
 exact ⟨rfl, rfl, rfl, rfl, all_nodeT hb (cutF_dn (dr_leftb0 _))⟩
end
end Go.Ev
namespace Go.Ev
open Go Go.Proofs
set_option maxRecDepth 100000
def DrI (g : Gt) (d : Gd) (n : Nat) (room am : Int) (top : Bool) (z1 z2 : Nat → Int) : Prop := drT g d n room am top z1 z2 = into (drT g d n room am top z1 z2) (drS g d n room am top z1 z2) ∧ fits (drT g d n room am top z1 z2) (drS g d n room am top z1 z2) = true
section
variable (g : Gt) (d : Gd) (room am : Int) (z1 z2 : Nat → Int)
theorem drI_1t : drT g d 1 room am true z1 z2 = into (drT g d 1 room am true z1 z2) (drS g d 1 room am true z1 z2) := by kernel_rfl
theorem drF_1t : fits (drT g d 1 room am true z1 z2) (drS g d 1 room am true z1 z2) = true := by kernel_rfl
theorem drI_1f : drT g d 1 room am false z1 z2 = into (drT g d 1 room am false z1 z2) (drS g d 1 room am false z1 z2) := by kernel_rfl
theorem drF_1f : fits (drT g d 1 room am false z1 z2) (drS g d 1 room am false z1 z2) = true := by kernel_rfl
theorem drI_2t : drT g d 2 room am true z1 z2 = into (drT g d 2 room am true z1 z2) (drS g d 2 room am true z1 z2) := by kernel_rfl
theorem drF_2t : fits (drT g d 2 room am true z1 z2) (drS g d 2 room am true z1 z2) = true := by kernel_rfl
theorem drI_2f : drT g d 2 room am false z1 z2 = into (drT g d 2 room am false z1 z2) (drS g d 2 room am false z1 z2) := by kernel_rfl
theorem drF_2f : fits (drT g d 2 room am false z1 z2) (drS g d 2 room am false z1 z2) = true := by kernel_rfl
theorem drI_3t : drT g d 3 room am true z1 z2 = into (drT g d 3 room am true z1 z2) (drS g d 3 room am true z1 z2) := by kernel_rfl
theorem drF_3t : fits (drT g d 3 room am true z1 z2) (drS g d 3 room am true z1 z2) = true := by kernel_rfl
theorem drI_3f : drT g d 3 room am false z1 z2 = into (drT g d 3 room am false z1 z2) (drS g d 3 room am false z1 z2) := by kernel_rfl
theorem drF_3f : fits (drT g d 3 room am false z1 z2) (drS g d 3 room am false z1 z2) = true := by kernel_rfl
theorem drI_4t : drT g d 4 room am true z1 z2 = into (drT g d 4 room am true z1 z2) (drS g d 4 room am true z1 z2) := by kernel_rfl
theorem drF_4t : fits (drT g d 4 room am true z1 z2) (drS g d 4 room am true z1 z2) = true := by kernel_rfl
theorem drI_4f : drT g d 4 room am false z1 z2 = into (drT g d 4 room am false z1 z2) (drS g d 4 room am false z1 z2) := by kernel_rfl
theorem drF_4f : fits (drT g d 4 room am false z1 z2) (drS g d 4 room am false z1 z2) = true := by kernel_rfl
theorem drI_5t : drT g d 5 room am true z1 z2 = into (drT g d 5 room am true z1 z2) (drS g d 5 room am true z1 z2) := by kernel_rfl
theorem drF_5t : fits (drT g d 5 room am true z1 z2) (drS g d 5 room am true z1 z2) = true := by kernel_rfl
theorem drI_5f : drT g d 5 room am false z1 z2 = into (drT g d 5 room am false z1 z2) (drS g d 5 room am false z1 z2) := by kernel_rfl
theorem drF_5f : fits (drT g d 5 room am false z1 z2) (drS g d 5 room am false z1 z2) = true := by kernel_rfl
theorem drI_6t : drT g d 6 room am true z1 z2 = into (drT g d 6 room am true z1 z2) (drS g d 6 room am true z1 z2) := by kernel_rfl
theorem drF_6t : fits (drT g d 6 room am true z1 z2) (drS g d 6 room am true z1 z2) = true := by kernel_rfl
theorem drI_6f : drT g d 6 room am false z1 z2 = into (drT g d 6 room am false z1 z2) (drS g d 6 room am false z1 z2) := by kernel_rfl
theorem drF_6f : fits (drT g d 6 room am false z1 z2) (drS g d 6 room am false z1 z2) = true := by kernel_rfl
theorem drI_7t : drT g d 7 room am true z1 z2 = into (drT g d 7 room am true z1 z2) (drS g d 7 room am true z1 z2) := by kernel_rfl
theorem drF_7t : fits (drT g d 7 room am true z1 z2) (drS g d 7 room am true z1 z2) = true := by kernel_rfl
theorem drI_7f : drT g d 7 room am false z1 z2 = into (drT g d 7 room am false z1 z2) (drS g d 7 room am false z1 z2) := by kernel_rfl
theorem drF_7f : fits (drT g d 7 room am false z1 z2) (drS g d 7 room am false z1 z2) = true := by kernel_rfl
theorem drI_8t : drT g d 8 room am true z1 z2 = into (drT g d 8 room am true z1 z2) (drS g d 8 room am true z1 z2) := by kernel_rfl
theorem drF_8t : fits (drT g d 8 room am true z1 z2) (drS g d 8 room am true z1 z2) = true := by kernel_rfl
theorem drI_8f : drT g d 8 room am false z1 z2 = into (drT g d 8 room am false z1 z2) (drS g d 8 room am false z1 z2) := by kernel_rfl
theorem drF_8f : fits (drT g d 8 room am false z1 z2) (drS g d 8 room am false z1 z2) = true := by kernel_rfl
theorem drI_9t : drT g d 9 room am true z1 z2 = into (drT g d 9 room am true z1 z2) (drS g d 9 room am true z1 z2) := by kernel_rfl
theorem drF_9t : fits (drT g d 9 room am true z1 z2) (drS g d 9 room am true z1 z2) = true := by kernel_rfl
theorem drI_9f : drT g d 9 room am false z1 z2 = into (drT g d 9 room am false z1 z2) (drS g d 9 room am false z1 z2) := by kernel_rfl
theorem drF_9f : fits (drT g d 9 room am false z1 z2) (drS g d 9 room am false z1 z2) = true := by kernel_rfl
theorem drI_10t : drT g d 10 room am true z1 z2 = into (drT g d 10 room am true z1 z2) (drS g d 10 room am true z1 z2) := by kernel_rfl
theorem drF_10t : fits (drT g d 10 room am true z1 z2) (drS g d 10 room am true z1 z2) = true := by kernel_rfl
theorem drI_10f : drT g d 10 room am false z1 z2 = into (drT g d 10 room am false z1 z2) (drS g d 10 room am false z1 z2) := by kernel_rfl
theorem drF_10f : fits (drT g d 10 room am false z1 z2) (drS g d 10 room am false z1 z2) = true := by kernel_rfl
theorem drI_11t : drT g d 11 room am true z1 z2 = into (drT g d 11 room am true z1 z2) (drS g d 11 room am true z1 z2) := by kernel_rfl
theorem drF_11t : fits (drT g d 11 room am true z1 z2) (drS g d 11 room am true z1 z2) = true := by kernel_rfl
theorem drI_11f : drT g d 11 room am false z1 z2 = into (drT g d 11 room am false z1 z2) (drS g d 11 room am false z1 z2) := by kernel_rfl
theorem drF_11f : fits (drT g d 11 room am false z1 z2) (drS g d 11 room am false z1 z2) = true := by kernel_rfl
theorem drI_12t : drT g d 12 room am true z1 z2 = into (drT g d 12 room am true z1 z2) (drS g d 12 room am true z1 z2) := by kernel_rfl
theorem drF_12t : fits (drT g d 12 room am true z1 z2) (drS g d 12 room am true z1 z2) = true := by kernel_rfl
theorem drI_12f : drT g d 12 room am false z1 z2 = into (drT g d 12 room am false z1 z2) (drS g d 12 room am false z1 z2) := by kernel_rfl
theorem drF_12f : fits (drT g d 12 room am false z1 z2) (drS g d 12 room am false z1 z2) = true := by kernel_rfl
theorem drI_13t : drT g d 13 room am true z1 z2 = into (drT g d 13 room am true z1 z2) (drS g d 13 room am true z1 z2) := by kernel_rfl
theorem drF_13t : fits (drT g d 13 room am true z1 z2) (drS g d 13 room am true z1 z2) = true := by kernel_rfl
theorem drI_13f : drT g d 13 room am false z1 z2 = into (drT g d 13 room am false z1 z2) (drS g d 13 room am false z1 z2) := by kernel_rfl
theorem drF_13f : fits (drT g d 13 room am false z1 z2) (drS g d 13 room am false z1 z2) = true := by kernel_rfl
theorem drI_14t : drT g d 14 room am true z1 z2 = into (drT g d 14 room am true z1 z2) (drS g d 14 room am true z1 z2) := by kernel_rfl
theorem drF_14t : fits (drT g d 14 room am true z1 z2) (drS g d 14 room am true z1 z2) = true := by kernel_rfl
theorem drI_14f : drT g d 14 room am false z1 z2 = into (drT g d 14 room am false z1 z2) (drS g d 14 room am false z1 z2) := by kernel_rfl
theorem drF_14f : fits (drT g d 14 room am false z1 z2) (drS g d 14 room am false z1 z2) = true := by kernel_rfl
theorem drI_15t : drT g d 15 room am true z1 z2 = into (drT g d 15 room am true z1 z2) (drS g d 15 room am true z1 z2) := by kernel_rfl
theorem drF_15t : fits (drT g d 15 room am true z1 z2) (drS g d 15 room am true z1 z2) = true := by kernel_rfl
theorem drI_15f : drT g d 15 room am false z1 z2 = into (drT g d 15 room am false z1 z2) (drS g d 15 room am false z1 z2) := by kernel_rfl
theorem drF_15f : fits (drT g d 15 room am false z1 z2) (drS g d 15 room am false z1 z2) = true := by kernel_rfl
theorem drI_16t : drT g d 16 room am true z1 z2 = into (drT g d 16 room am true z1 z2) (drS g d 16 room am true z1 z2) := by kernel_rfl
theorem drF_16t : fits (drT g d 16 room am true z1 z2) (drS g d 16 room am true z1 z2) = true := by kernel_rfl
theorem drI_16f : drT g d 16 room am false z1 z2 = into (drT g d 16 room am false z1 z2) (drS g d 16 room am false z1 z2) := by kernel_rfl
theorem drF_16f : fits (drT g d 16 room am false z1 z2) (drS g d 16 room am false z1 z2) = true := by kernel_rfl
theorem drI_17t : drT g d 17 room am true z1 z2 = into (drT g d 17 room am true z1 z2) (drS g d 17 room am true z1 z2) := by kernel_rfl
theorem drF_17t : fits (drT g d 17 room am true z1 z2) (drS g d 17 room am true z1 z2) = true := by kernel_rfl
theorem drI_17f : drT g d 17 room am false z1 z2 = into (drT g d 17 room am false z1 z2) (drS g d 17 room am false z1 z2) := by kernel_rfl
theorem drF_17f : fits (drT g d 17 room am false z1 z2) (drS g d 17 room am false z1 z2) = true := by kernel_rfl
theorem drI : ∀ (n : Nat) (top : Bool), 1 ≤ n → n ≤ 17 → DrI g d n room am top z1 z2
 | 1, true, _, _ => ⟨drI_1t g d room am z1 z2, drF_1t g d room am z1 z2⟩
 | 1, false, _, _ => ⟨drI_1f g d room am z1 z2, drF_1f g d room am z1 z2⟩
 | 2, true, _, _ => ⟨drI_2t g d room am z1 z2, drF_2t g d room am z1 z2⟩
 | 2, false, _, _ => ⟨drI_2f g d room am z1 z2, drF_2f g d room am z1 z2⟩
 | 3, true, _, _ => ⟨drI_3t g d room am z1 z2, drF_3t g d room am z1 z2⟩
 | 3, false, _, _ => ⟨drI_3f g d room am z1 z2, drF_3f g d room am z1 z2⟩
 | 4, true, _, _ => ⟨drI_4t g d room am z1 z2, drF_4t g d room am z1 z2⟩
 | 4, false, _, _ => ⟨drI_4f g d room am z1 z2, drF_4f g d room am z1 z2⟩
 | 5, true, _, _ => ⟨drI_5t g d room am z1 z2, drF_5t g d room am z1 z2⟩
 | 5, false, _, _ => ⟨drI_5f g d room am z1 z2, drF_5f g d room am z1 z2⟩
 | 6, true, _, _ => ⟨drI_6t g d room am z1 z2, drF_6t g d room am z1 z2⟩
 | 6, false, _, _ => ⟨drI_6f g d room am z1 z2, drF_6f g d room am z1 z2⟩
 | 7, true, _, _ => ⟨drI_7t g d room am z1 z2, drF_7t g d room am z1 z2⟩
 | 7, false, _, _ => ⟨drI_7f g d room am z1 z2, drF_7f g d room am z1 z2⟩
 | 8, true, _, _ => ⟨drI_8t g d room am z1 z2, drF_8t g d room am z1 z2⟩
 | 8, false, _, _ => ⟨drI_8f g d room am z1 z2, drF_8f g d room am z1 z2⟩
 | 9, true, _, _ => ⟨drI_9t g d room am z1 z2, drF_9t g d room am z1 z2⟩
 | 9, false, _, _ => ⟨drI_9f g d room am z1 z2, drF_9f g d room am z1 z2⟩
 | 10, true, _, _ => ⟨drI_10t g d room am z1 z2, drF_10t g d room am z1 z2⟩
 | 10, false, _, _ => ⟨drI_10f g d room am z1 z2, drF_10f g d room am z1 z2⟩
 | 11, true, _, _ => ⟨drI_11t g d room am z1 z2, drF_11t g d room am z1 z2⟩
 | 11, false, _, _ => ⟨drI_11f g d room am z1 z2, drF_11f g d room am z1 z2⟩
 | 12, true, _, _ => ⟨drI_12t g d room am z1 z2, drF_12t g d room am z1 z2⟩
 | 12, false, _, _ => ⟨drI_12f g d room am z1 z2, drF_12f g d room am z1 z2⟩
 | 13, true, _, _ => ⟨drI_13t g d room am z1 z2, drF_13t g d room am z1 z2⟩
 | 13, false, _, _ => ⟨drI_13f g d room am z1 z2, drF_13f g d room am z1 z2⟩
 | 14, true, _, _ => ⟨drI_14t g d room am z1 z2, drF_14t g d room am z1 z2⟩
 | 14, false, _, _ => ⟨drI_14f g d room am z1 z2, drF_14f g d room am z1 z2⟩
 | 15, true, _, _ => ⟨drI_15t g d room am z1 z2, drF_15t g d room am z1 z2⟩
 | 15, false, _, _ => ⟨drI_15f g d room am z1 z2, drF_15f g d room am z1 z2⟩
 | 16, true, _, _ => ⟨drI_16t g d room am z1 z2, drF_16t g d room am z1 z2⟩
 | 16, false, _, _ => ⟨drI_16f g d room am z1 z2, drF_16f g d room am z1 z2⟩
 | 17, true, _, _ => ⟨drI_17t g d room am z1 z2, drF_17t g d room am z1 z2⟩
 | 17, false, _, _ => ⟨drI_17f g d room am z1 z2, drF_17f g d room am z1 z2⟩
 | 0, _, h, _ => by omega
 | n + 18, _, _, h => by omega
end
def drF (e : Int) (g : Gt) (d : Gd) : FT
 | [room, am], [top], [], [⟨some _, n, [.int .i64 z1, .int .i64 z2]⟩] => .need (Nat.blt 0 n && Nat.ble n 17) (.need (drE1 n room am z1 z2 == e) (match e != 0 with
  | true => .leaf (badD e, [])
  | false => .node (Nat.beq (drL d n am top z1 z2 n).1 0) (.leaf (goodD0 room (drH n am top z1 z2), []))
   (.leaf (goodD room (drH n am top z1 z2) (drK g (drL d n am top z1 z2 n)).1, boxT 81 room (slC true 2 2 (drK g (drL d n am top z1 z2 n)).1) :: layB 152 (drK g (drL d n am top z1 z2 n))))))
 | [room, am], [_], [], [⟨none, 0, [.int .i64 _, .int .i64 _]⟩] => .need (drE1 0 room am zF zF == e && e != 0) (.leaf (badD e, []))
 | _, _, _, _ => .fail 441
theorem drF_ok (e : Int) : SpecOk Tryz.prog 58 fun args h => specT [tkS, (false, [.i]), (false, [.b])] [] (drF e togS delS) args h := by
 refine specT_ok rfl (by decide) fun l m n ts v news hl hm hn hts hnil hF => ?_
 unfold drF at hF
 split at hF
 ·rename_i room am top i n z1 z2
  obtain ⟨hok, hF⟩ := Tree.need_some hF
  obtain ⟨he, hF⟩ := Tree.need_some hF
  rw [Bool.and_eq_true, Nat.blt_eq] at hok
  have hk := Nat.le_of_ble_eq_true hok.2
  have he := eq_of_beq he
  obtain ⟨hI1, hI2⟩ := drI togS delS room am z1 z2 n top (by omega) hk
  have hc := dr_call n room am top z1 z2 hk hI1 hI2
  unfold drV at hc
  rw [he] at hc
  split at hF
  ·rename_i g
   rw [g] at hc
   simp only [Tree.run, Option.some.injEq, Prod.mk.injEq] at hF
   obtain ⟨rfl, rfl⟩ := hF
   exact hc
  ·rename_i g
   rw [g] at hc
   cases hb : Nat.beq (drL delS n am top z1 z2 n).1 0 with
   | true =>
    rw [show Nat.beq (drM n am top z1 z2).1 0 = true from hb] at hc
    rw [hb] at hF
    simp only [Tree.run, Option.some.injEq, Prod.mk.injEq] at hF
    obtain ⟨rfl, rfl⟩ := hF
    exact hc
   | false =>
    rw [show Nat.beq (drM n am top z1 z2).1 0 = false from hb] at hc
    rw [hb] at hF
    simp only [Tree.run, Option.some.injEq, Prod.mk.injEq] at hF
    obtain ⟨rfl, rfl⟩ := hF
    exact hc
 ·rename_i room am top z1 z2
  obtain ⟨hok, hF⟩ := Tree.need_some hF
  rw [Bool.and_eq_true] at hok
  have he := eq_of_beq hok.1
  simp only [Tree.run, Option.some.injEq, Prod.mk.injEq] at hF
  obtain ⟨rfl, rfl⟩ := hF
  have hc := dr_call0 room am top (by rw [he]; exact hok.2)
  rw [he] at hc
  exact hc
 ·cases hF
end Go.Ev
