/- SaltTanks: the law where the tank has no error, and as a whole. Conditions: as each says. (Printed by gen_ltank1.py.) -/
import Derived.Test.YtlpchgidkibbeaaGreatDoorTank10
import Derived.Test.YtlpchgidkibbeaaGreatDoorLTank0
namespace Go.Ev
open Go Go.Proofs
set_option maxRecDepth 100000

/-! ### Lowest as an entry -/
def tbD : List (FuncId × Spec) := (109, specDivisor) :: tb_qst
theorem tbD_ok : TabOk Tryz.prog (tabOf tbD) := tab_cons tb_qst_ok specDivisor_ok
def loV (a b : Int) : A := .agg [ci (w64 (a.tdiv (gcd1 a b))), ci (w64 (b.tdiv (gcd1 a b)))]
def loN (a b : Int) (S : SkL) : SkL := .need (in63 a && in63 b) (.need (!(gcd1 a b == 0)) (.need (!(gcd1 a b == 0)) S))
theorem lo_call (a b : Int) (hb : decide (b < 0) = false) (h1 : (in63 a && in63 b) = true) (h2 : (!(gcd1 a b == 0)) = true) : CallAt Tryz.prog 53 [int a, int b] (hpT [] [] []) (loV a b) (hpT [] [] []) := by
  refine call_sk tbD_ok Tryz.func53 (by kernel_rfl) (false, true) (by kernel_rfl) (S := .node (decide (b < 0)) (loN (IntKind.i64.wrap (0 - a)) (IntKind.i64.wrap (0 - b)) (.leaf (.inl (true, loV (IntKind.i64.wrap (0 - a)) (IntKind.i64.wrap (0 - b)), hpT [] [] [])))) (loN a b (.leaf (.inl (true, loV a b, hpT [] [] []))))) (by kernel_rfl) (by kernel_rfl) (SkLeads.all ?_)
  exact sk_no hb (sk_need h1 (sk_need h2 (sk_need h2 (sk_leaf rfl))))
def loF : FT
  | [a, b], [], [], [] => .need (!(decide (b < 0))) (.need (in63 a && in63 b) (.need (!(gcd1 a b == 0)) (.leaf (loV a b, []))))
  | _, _, _, _ => .fail 391
theorem lo_ok : SpecOk Tryz.prog 53 fun args h => specT [(false, [.i]), (false, [.i])] [] loF args h := by
  refine specT_ok rfl (by decide) fun l m n ts v news hl hm hn ht hnil hF => ?_
  unfold loF at hF
  split at hF
  · rename_i a b
    obtain ⟨h0, hF⟩ := Tree.need_some hF
    obtain ⟨h1, hF⟩ := Tree.need_some hF
    obtain ⟨h2, hF⟩ := Tree.need_some hF
    simp only [Tree.run, Option.some.injEq, Prod.mk.injEq] at hF
    obtain ⟨rfl, rfl⟩ := hF
    exact lo_call a b (by simpa using h0) h1 h2
  · cases hF
def tbM (B : Bool) (c c1 : Int) (c2 : Option Int) (g : (Nat → Int) → (Nat → Int) → Nat → T3) : List (FuncId × Spec) := (53, fun args h => specT [(false, [.i]), (false, [.i])] [] loF args h) :: tbL B c c1 c2 g
theorem tbM_ok (B : Bool) (c c1 : Int) (c2 : Option Int) : TabOk Tryz.prog (tabOf (tbM B c c1 c2 togS)) := tab_cons (tbL_ok B c c1 c2) lo_ok
/-! ### Alike tanks -/
theorem fnz_all0 {g : Nat → Int} (h : ∀ j, g j = 0) : ∀ m k, fnz g m k = none
  | 0, _ => rfl
  | m + 1, k => by
    unfold fnz
    rw [h k]
    exact fnz_all0 h m (k + 1)
theorem sameT_self (n : Nat) (room : Int) (a h : Nat → Int) : sameT n n room room a h a h = true := by
  unfold sameT
  rw [show (room != room) = false by simp, show ((n : Int) != (n : Int)) = false by simp]
  simp only
  rw [fnz_all0 (g := smG a h a h) (fun j => by unfold smG eqR; simp)]
def nnN : Nat → SkL → SkL
  | 0, S => S
  | k + 1, S => .nn (nnN k S)
theorem nnN_ok {p} {S : SkL} (h : SkLeads p S) : ∀ k, SkLeads p (nnN k S)
  | 0 => h
  | k + 1 => sk_nn (nnN_ok h k)
section
variable (k : Nat) (room index x0 x1 : Int) (z1 z2 : Nat → Int) (g : (Nat → Int) → (Nat → Int) → Nat → T3) (B : Bool) (c c1 : Int) (c2 : Option Int)
def lF (n : Nat) (z1 z2 : Nat → Int) : SkL := lfT (hpL1 n (tkC z1 z2)) false
def lM (S : SkL) : SkL := .need (okN (k + 1)) (.need (Nat.ble (k + 1) 1000000) S)
def lNs (S : SkL) : SkL := .need (okN (k + 1)) (.need (Nat.ble (k + 1) 17) S)
def lQ (S : SkL) : SkL := .need (okN (k + 1)) (.need (Nat.ble (k + 1) 100000) S)
def lNM (S : SkL) : SkL := .need (okN (k + 1)) (.need (Nat.ble (k + 1) 17) (.need (false || tankE (k + 1) room z1 z2 == 0) S))
def lNum : Int := z2 (0 + index.toNat)
def lDen : Int := z1 (0 + index.toNat)
def lLow (S : SkL) : SkL := .need (decide (0 ≤ index) && decide (index < ((k + 1 : Nat) : Int))) (.need (Nat.blt (0 + index.toNat) (k + 1)) (.need (decide (0 ≤ index) && decide (index < ((k + 1 : Nat) : Int))) (.need (Nat.blt (0 + index.toNat) (k + 1)) (.nn (.need (!(decide (lDen index z1 < 0))) (.need (in63 (lNum index z2) && in63 (lDen index z1)) (.need (!(gcd1 (lNum index z2) (lDen index z1) == 0)) S)))))))
def lRatN : Int := w64 ((lNum index z2).tdiv (gcd1 (lNum index z2) (lDen index z1)))
def lRatD : Int := w64 ((lDen index z1).tdiv (gcd1 (lNum index z2) (lDen index z1)))
def lRat : Bool := lRatN index z1 z2 == lRatN index z1 z2 && (lRatD index z1 z2 == lRatD index z1 z2 && true)
def lm (z : Nat → Int) : Nat → Int := putF (fun _ => 0) 0 (sumA z (k + 1))
def lMix : Bool := isV 1 1 room room 0 (lm k z1) (lm k z2) (lm k z1) (lm k z2)
def lC : T3 := coolG g (k + 1) z1 z2 x0 x1
def lEnd0 : SkL := .need (ok2 (lC k x0 x1 z1 z2 g).1 (lC k x0 x1 z1 z2 g).1) (.need (Nat.ble (lC k x0 x1 z1 z2 g).1 1000000) (.node (isV (lC k x0 x1 z1 z2 g).1 (lC k x0 x1 z1 z2 g).1 room room 0 (lC k x0 x1 z1 z2 g).2.1 (lC k x0 x1 z1 z2 g).2.2 (lC k x0 x1 z1 z2 g).2.1 (lC k x0 x1 z1 z2 g).2.2)
  (.node (sumA (coolN z2 x0 x1) (k + 1) == sumA (coolN z2 x0 x1) (k + 1)) (ltL (k + 1) z1 z2) (lF (k + 1) z1 z2)) (.ff (lF (k + 1) z1 z2))))
def lEnd3 : SkL := .tt (.tt (ltL (k + 1) z1 z2))
def lRatS (S : SkL) : SkL := match B with
  | true => .tt S
  | false => .node (lRat index z1 z2) S (ffN 4 (lF (k + 1) z1 z2))
def lCmp (E : SkL) : SkL := .tt (.node (sumA z1 (k + 1) == sumA z1 (k + 1)) (.tt (.node (sumA z2 (k + 1) == sumA z2 (k + 1)) (.tt (lRatS k index z1 z2 B (.tt (.node (lMix k room z1 z2) E (.ff (.ff (lF (k + 1) z1 z2))))))) (ffN 6 (lF (k + 1) z1 z2)))) (ffN 8 (lF (k + 1) z1 z2)))
def lFive : SkL := match c == 0 with
  | true => .tt (.nn (.nn (lQ k (.need (!(x1 == 0)) (ltG1 k (ltN1 0 k room z1 z2 (lCmp k room index z1 z2 B (lEnd0 k room x0 x1 z1 z2 g))))))))
  | false => .ff (ltG1 k (ltN1 0 k room z1 z2 (lCmp k room index z1 z2 B (lEnd3 k z1 z2))))
def lThree (S : SkL) : SkL := match B with
  | true => .ff S
  | false => .tt (lLow k index z1 z2 S)
def lTail : SkL := lM k (lM k (lNs k (lThree k index z1 z2 B (lFive k room index x0 x1 z1 z2 g B c))))
def lChk (S : SkL) : SkL := .need (wW x1 1 1000 == c1) (match c2 with
  | some c => .need (wW x0 0 x1 == c) S
  | none => S)
def lB1 : SkL := ttN 4 (match B with
  | true => nnN 5 (lChk x0 x1 c1 c2 (.tt (lTail k room index x0 x1 z1 z2 g B c)))
  | false => nnN 4 (.need (true == false) (lChk x0 x1 c1 c2 (.tt (lTail k room index x0 x1 z1 z2 g B c)))))
def lB2 : SkL := ffN 4 (nnN 3 (.need (decide (index ≥ ((k + 1 : Nat) : Int)) == B) (lChk x0 x1 c1 c2 (.tt (lTail k room index x0 x1 z1 z2 g B c)))))
def lS1 : SkL := .node (decide (((k + 1 : Nat) : Int) > 17)) (ltL (k + 1) z1 z2) (ltG1 k (ltN1 0 k room z1 z2 (.ff (lNs k (ltG1 k (ltN1 0 k room z1 z2 (.ff (lNs k (ltG1 k (ltN1 0 k room z1 z2 (.need (inR (k + 1) index == !B) (ltG1 k (lNM k room z1 z2 (.nn (.nn (ltG1 k (ltN1 0 k room z1 z2 (.need (cpEe 0 x0 x1 == c) (ltN1 0 k room z1 z2 (.node (decide (index < 0)) (lB1 k room index x0 x1 z1 z2 g B c c1 c2) (lB2 k room index x0 x1 z1 z2 g B c c1 c2)))))))))))))))))))))
def zFive : SkL := match c == 0 with
  | true => .tt (nnN 4 (.need (!(x1 == 0)) (.tt (ltN0 0 room z1 z2 (ttN 8 (.node (isN room room 0 0) (.tt (ltL 0 z1 z2)) (.ff (lF 0 z1 z2))))))))
  | false => .ff (.tt (ltN0 0 room z1 z2 (ttN 10 (ltL 0 z1 z2))))
def zB1 : SkL := ttN 4 (nnN 5 (lChk x0 x1 c1 c2 (.tt (.ff (zFive room x1 z1 z2 c)))))
def zB2 : SkL := ffN 4 (nnN 3 (.need (decide (index ≥ ((0 : Nat) : Int)) == true) (lChk x0 x1 c1 c2 (.tt (.ff (zFive room x1 z1 z2 c))))))
def zS : SkL := .ff (.tt (ltN0 0 room z1 z2 (.ff (.tt (ltN0 0 room z1 z2 (.ff (.tt (ltN0 0 room z1 z2 (.need (inR 0 index == !true) (.tt (.nn (.nn (.need (false || tankE 0 room z1 z2 == 0) (.tt (ltN0 0 room z1 z2 (.need (cpEe 0 x0 x1 == c) (ltN0 0 room z1 z2 (.node (decide (index < 0)) (zB1 room x0 x1 z1 z2 c c1 c2) (zB2 room index x0 x1 z1 z2 c c1 c2)))))))))))))))))))
noncomputable def lT (n : Nat) : Tree LtO := preA Tryz.prog (tabOf (tbM B c c1 c2 g)) Tryz.f5 (ltA n room index x0 x1) (hpL1 n (tkC z1 z2)) (false, true)
end
end Go.Ev
