/- Tanks: the entries of the law, where the tank has no error and it is known what else is wrong. Conditions: few layers. -/
import Derived.Test.YtlpchgidkibbeaaGreatDoorTank7
namespace Go.Ev
open Go Go.Proofs
set_option maxRecDepth 100000

theorem spec_sub {P : Program} {f : FuncId} {s s' : Spec} (h : SpecOk P f s) (hs : ∀ args hp r, (s' args hp).run = some r → (s args hp).run = some r) : SpecOk P f s' := fun args hp v h' hr => h args hp v h' (hs _ _ _ hr)
def whB (B : Bool) : Spec := fun args h => match args with
  | [.one (.lit (.bool b)), .one (.lit (.int .i64 e))] => .need (b == B) (.leaf (int (errIf B e), h))
  | _ => .fail 388
theorem whB_ok (B : Bool) : SpecOk Tryz.prog 48 (whB B) := spec_sub whenQ_ok fun args hp r hr => by
  unfold whB at hr
  split at hr
  · rename_i b e
    obtain ⟨h1, hr⟩ := Tree.need_some hr
    obtain rfl := eq_of_beq h1
    rw [← hr]
    rfl
  · cases hr
def rgC (c1 : Int) (c2 : Option Int) : Spec := fun args h => match args with
  | [.one (.lit (.int .i64 n)), .one (.lit (.int .i64 lo)), .one (.lit (.int .i64 hi))] => match lo == 1 with
    | true => .need (wW n lo hi == c1) (.leaf (int c1, h))
    | false => match c2 with
      | some c => .need (wW n lo hi == c) (.leaf (int c, h))
      | none => .leaf (int (wW n lo hi), h)
  | _ => .fail 388
theorem rgC_ok (c1 : Int) (c2 : Option Int) : SpecOk Tryz.prog 49 (rgC c1 c2) := spec_sub rangeQ_ok fun args hp r hr => by
  unfold rgC at hr
  split at hr
  · rename_i n lo hi
    have key : r = (int (wW n lo hi), hp) := by
      split at hr
      · obtain ⟨h1, hr⟩ := Tree.need_some hr
        have h1 := eq_of_beq h1
        rw [h1]
        exact (Option.some.inj hr).symm
      · split at hr
        · obtain ⟨h1, hr⟩ := Tree.need_some hr
          have h1 := eq_of_beq h1
          rw [h1]
          exact (Option.some.inj hr).symm
        · exact (Option.some.inj hr).symm
    rw [key]
    rfl
  · cases hr
/-- is there such a layer -/
def inR (n : Nat) (index : Int) : Bool := decide (0 ≤ index) && decide (index < (n : Int))
def wsF (B : Bool) : FT
  | [room, index], [], [], [⟨_, n, [.int .i64 z1, .int .i64 z2]⟩] => .need (Nat.ble n 17) (.need (tankE n room z1 z2 == 0) (.need (inR n index == !B) (match B with
    | true => .leaf (.tup [(true, [ci 0, ci 0]), (false, [ci 10])], [])
    | false => .leaf (.tup [(true, [ci (w64 ((z2 (0 + index.toNat)).tdiv (gcd1 (z2 (0 + index.toNat)) (z1 (0 + index.toNat))))), ci (w64 ((z1 (0 + index.toNat)).tdiv (gcd1 (z2 (0 + index.toNat)) (z1 (0 + index.toNat)))))]), (false, [ci 0])], []))))
  | _, _, _, _ => .fail 388
theorem wsB_ok (B : Bool) : SpecOk Tryz.prog 44 fun args h => specT [tkS, (false, [.i])] [] (wsF B) args h := specT_sub (F := waF) wa_ok fun l m n ts r hr => by
  unfold wsF at hr
  split at hr
  · rename_i room index id n z1 z2
    obtain ⟨h1, hr⟩ := Tree.need_some hr
    obtain ⟨h2, hr⟩ := Tree.need_some hr
    obtain ⟨h3, hr⟩ := Tree.need_some hr
    have h2 := eq_of_beq h2
    have h3 := eq_of_beq h3
    unfold waF
    rw [run_need h1, ← hr]
    unfold waV waU waE
    rw [h2]
    cases B with
    | true =>
      cases g0 : decide (index < 0) with
      | true => rfl
      | false =>
        have g1 : decide (index ≥ (n : Int)) = true := by
          simp only [inR, Bool.not_true, Bool.and_eq_false_iff, decide_eq_false_iff_not] at h3
          simp only [decide_eq_false_iff_not] at g0
          simp only [decide_eq_true_eq]
          omega
        simp only
        rw [g1]
        rfl
    | false =>
      simp only [inR, Bool.not_false, Bool.and_eq_true, decide_eq_true_eq] at h3
      rw [show decide (index < 0) = false by simp only [decide_eq_false_iff_not]; omega]
      simp only
      rw [show decide (index ≥ (n : Int)) = false by simp only [decide_eq_false_iff_not]; omega]
      rfl
  · cases hr
def csF (c : Int) (g : (Nat → Int) → (Nat → Int) → Nat → T3) : FT
  | [room, num, den], [], [], [⟨_, n, [.int .i64 z1, .int .i64 z2]⟩] => .need (Nat.ble n 17) (.need (tankE n room z1 z2 == 0) (.need (cpEe 0 num den == c) (match c != 0 with
    | true => .leaf (.tup [(true, [ci 0, nilC]), (false, [ci 0]), (false, [ci c])], [])
    | false => .leaf (.tup [tkVal room (coolG g n z1 z2 num den) n, (false, [ci (sumA (coolN z2 num den) n)]), (false, [ci 0])], tkMem 81 152 room (coolG g n z1 z2 num den) n))))
  | _, _, _, _ => .fail 388
theorem csC_ok (c : Int) : SpecOk Tryz.prog 46 fun args h => specT clSh [] (csF c togS) args h := specT_sub (F := cpFE 0 togS) (cpE_ok 0) fun l m n ts r hr => by
  unfold csF at hr
  split at hr
  · rename_i room num den id n z1 z2
    obtain ⟨h1, hr⟩ := Tree.need_some hr
    obtain ⟨h2, hr⟩ := Tree.need_some hr
    obtain ⟨h3, hr⟩ := Tree.need_some hr
    obtain rfl := eq_of_beq h3
    unfold cpFE
    rw [run_need h1, run_need h2, ← hr]
    cases hc : cpEe 0 num den != 0 <;> rfl
  · cases hr
def tbS (B : Bool) (c c1 : Int) (c2 : Option Int) (g : (Nat → Int) → (Nat → Int) → Nat → T3) : List (FuncId × Spec) := (48, whB B) :: (49, rgC c1 c2) :: (44, fun args h => specT [tkS, (false, [.i])] [] (wsF B) args h) ::
  (46, fun args h => specT clSh [] (csF c g) args h) :: tbE 0 g
theorem tbS_ok (B : Bool) (c c1 : Int) (c2 : Option Int) : TabOk Tryz.prog (tabOf (tbS B c c1 c2 togS)) := tab_cons (tab_cons (tab_cons (tab_cons (tbE_ok 0) (csC_ok c)) (wsB_ok B)) (rgC_ok c1 c2)) (whB_ok B)
end Go.Ev
