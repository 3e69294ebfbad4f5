/- SunBisects: for every two arrays of four small integers the law returns true, and its arguments read afterwards as before. Conditions: the four listed variables hold what the program's text lays in them (the card ties them to the text). -/
import Derived.Test.YtfdfpfojiilcgaaGreatDoorDoor
import Derived.Test.YtfdfpfojiilcgaaGreatDoorBisects
import Derived.Test.YtfdfpfojiilcgaaGreatDoorTie
import Derived.Test.YtfdfpfojiilcgaaGreatDoorCards
import Derived.SevenTiedAt
namespace Go.Proofs.YtfdfpfojiilcgaaGreatDoor
open Go.ChangeShapes Go.WideShapes Go.ChangeAt Go.RowKit Go.Ev

set_option maxRecDepth 100000

/-- arguments that the law accepts -/
def bisectsIn : Array Value := #[.agg ([0, 0, 0, 0].map fun z => Value.int .i8 z).toArray, .agg ([0, 0, 0, 0].map fun z => Value.int .i8 z).toArray]
theorem bisects_door {H : Type} (enc : TypeId × Value → H) (os : Os) : ∃ (w : World) (tape : Tape) (i : Input), w.os = os ∧ (w.forCall tape i).Shaped Tryz.checked.prog ∧ i.vars = [] ∧ Input.okWide Tryz.checked.prog (w.forCall tape i) .any w.heap.size 5 i ∧
      ((Rows.sunBisectsSpec.pre enc Tryz.checked.prog Tryz.f5 [] false (w.forCall tape i).memory i.args ∧ laidMetH Tryz.prog laid4 (w.forCall tape i).memory) ∧ sizedMet enc Tryz.checked.prog Tryz.f5 (OpenSpec.ofChange Rows.sunBisectsSpec) false (w.forCall tape i).memory i.args) ∧ ({} : Assume).holds Tryz.checked.prog (lone (Frame.enter Tryz.checked.prog 5 i.args .normal) [] (w.forCall tape i)) :=
  ChangeSpec.witness_shaped (enc := enc) (C := Tryz.checked) (os := os) (X := fun w _ => laidMetH Tryz.prog laid4 w) false (door os) bisectsIn 8 rfl (door_shaped os _) (by kernel_rfl) (by kernel_rfl) (by kernel_rfl) (door_met os _)

/-- the law's word, over lists of numbers -/
theorem bisects_lists (e1 e2 : TypeId) (l0 l1 : List Int) (n0 : l0.length = 4) (n1 : l1.length = 4) {E : Env} {W : World} (rh : RH E (hpG e1 e2) W) :
    Calls Tryz.prog 5 #[.agg (l0.map fun z => Value.int .i8 z).toArray, .agg (l1.map fun z => Value.int .i8 z).toArray] W fun e W' => e = .returned (.bool true) ∧ Below W.heap.size W W' := by
  match l0, n0, l1, n1 with
  | [a, b, c, d], _, [p, q, r, s], _ =>
    refine (bisects_call e1 e2 a b c d p q r s E W [.agg ([a, b, c, d].map fun z => Value.int .i8 z).toArray, .agg ([p, q, r, s].map fun z => Value.int .i8 z).toArray] rh ⟨is_intsK (l := [a, b, c, d]), is_intsK (l := [p, q, r, s]), trivial⟩).mono ?_
    rintro e W2 ⟨v, E', rfl, hv, hst⟩
    obtain ⟨rfl, _⟩ := hv
    exact ⟨rfl, below_of rh hst⟩

theorem bisects_lifted (os : Os) (started : os.Started) (H : Type) (enc : TypeId × Value → H) :
    ReturnsInHanded {} Tryz.checked os 5 .any (fun w args => (Rows.sunBisectsSpec.pre enc Tryz.checked.prog Tryz.f5 [] false w args ∧ laidMetH Tryz.prog laid4 w) ∧ sizedMet enc Tryz.checked.prog Tryz.f5 (OpenSpec.ofChange Rows.sunBisectsSpec) false w args)
      (Rows.sunBisectsSpec.post enc Tryz.checked.prog Tryz.f5 false true false false) := by
  refine returnsInHanded_of_change_and (C := Tryz.checked) (X := fun w _ => laidMetH Tryz.prog laid4 w) (fun _ _ _ hh h => h.of_heap hh) own started (by kernel_rfl) Tryz.func5 (bisects_door enc os) ?_
  intro W base args ds gs before hval0 hW _ _ hL _
  have hval : ∀ (j : Nat) t v, Tryz.f5.params[j]? = some t → args[j]? = some v → Value.okWide Tryz.prog W .any base t v := hval0
  have hW' := hW
  obtain ⟨p, q, hA0, hV, rfl, hfz, hnd⟩ := hW
  have hA : DataW.TrodAll enc Tryz.prog W 0 (fun _ => true) true Tryz.f5.params.toList args.toList ds p := hA0
  rw [Tryz.params5] at hA hval
  obtain ⟨v0, v1, d0, d1, p0, p1, rfl, rfl, _, h0, h1⟩ := trodAll_two hA
  obtain ⟨rfl, rfl⟩ := trodVars_none hV
  obtain ⟨l0, n0, rfl⟩ := intsK_of (n := 4) Tryz.underlying54 ⟨_, Tryz.underlying55, rfl⟩ (by kernel_rfl) (by kernel_rfl) (hval 0 _ v0 rfl rfl)
  obtain ⟨l1, n1, rfl⟩ := intsK_of (n := 4) Tryz.underlying54 ⟨_, Tryz.underlying55, rfl⟩ (by kernel_rfl) (by kernel_rfl) (hval 1 _ v1 rfl rfl)
  obtain ⟨e1, e2, E, rh⟩ := rh_laid hL
  refine (bisects_lists e1 e2 l0 l1 n0 n1 rh).mono ?_
  rintro e W2 ⟨rfl, hb⟩
  exact ⟨_, rfl, post_true rfl rfl hW' hb rfl (by kernel_rfl)⟩

theorem sunBisects_holds : Rows.SunBisectsSaid :=
  OpenClaim.holds_of_wide 5 Tryz.f5 rfl rfl rfl rfl rfl rfl rfl ⟨rfl, rfl, rfl, rfl, rfl⟩ rfl rfl rfl rfl rfl (by kernel_rfl) Tryz.func5 (by kernel_rfl)
    (of_decide_eq_true (by kernel_rfl)) (by unfold Func.isWrapper; first | (rw [if_pos (by decide +kernel)]; kernel_rfl) | (rw [if_neg (by decide +kernel)]; exact ⟨rfl, rfl⟩))
    (fun os started H enc _ => bisects_lifted os started H enc)

theorem sunBisects_card : Rows.SunBisectsCardSaid :=
  Claim7.holds_tied_plain_at .later [] [.data, .data, .data, .data] true (true, "5bf6c3fb051756e178f09bbfb8801b64de04a1e06ab7396a92217725c5449a30") false
    sunBisects_holds (fun _ h => by cases h) (by kernel_rfl) (fun _ h => by cases h) sunBisects_row_tie rfl ⟨rfl, rfl⟩ (by kernel_rfl) rfl
    (fun f fn hf hfn => by
      obtain rfl : f = 5 := Option.some.inj ((show Tryz.prog.funcNamed "spillage/spillagelaw02.SunBisects" = some 5 by kernel_rfl).symm.trans hf) |>.symm
      obtain rfl : fn = Tryz.f5 := (Option.some.inj (Tryz.func5.symm.trans hfn)).symm
      exact ⟨by kernel_rfl, fun j t ht => by
        rw [Tryz.params5] at ht
        have hm : t ∈ [55, 55] := by simpa using Array.mem_of_getElem? ht
        have hall : ([55, 55].all fun u => !Tryz.prog.wantsStandIn u) = true := by kernel_rfl
        exact (show Tryz.prog.wantsStandIn t = false by simpa using List.all_eq_true.1 hall t hm)⟩)
    (by kernel_rfl)
#print axioms sunBisects_card
end Go.Proofs.YtfdfpfojiilcgaaGreatDoor
