/- SunTwice: for every two vectors the law returns true, and its arguments read afterwards as before. Conditions: the four listed variables hold what the program's text lays in them (the card ties them to the text). -/
import Derived.Test.YtfdfpfojiilcgaaGreatDoorDoor
import Derived.Test.YtfdfpfojiilcgaaGreatDoorTwice
import Derived.Test.YtfdfpfojiilcgaaGreatDoorTie
import Derived.Test.YtfdfpfojiilcgaaGreatDoorCards
import Derived.SevenTiedAt
namespace Go.Proofs.YtfdfpfojiilcgaaGreatDoor
open Go.ChangeShapes Go.WideShapes Go.ChangeAt Go.RowKit Go.Ev

set_option maxRecDepth 100000

/-- arguments that the law accepts -/
def twiceIn : Array Value := #[.agg ([0, 0, 0].map fun z => Value.int .i64 z).toArray, .agg ([0, 0, 0].map fun z => Value.int .i64 z).toArray]
theorem twice_door {H : Type} (enc : TypeId × Value → H) (os : Os) : ∃ (w : World) (tape : Tape) (i : Input), w.os = os ∧ (w.forCall tape i).Shaped Tryz.checked.prog ∧ i.vars = [] ∧ Input.okWide Tryz.checked.prog (w.forCall tape i) .any w.heap.size 4 i ∧
      ((Rows.sunTwiceSpec.pre enc Tryz.checked.prog Tryz.f4 [] false (w.forCall tape i).memory i.args ∧ laidMetH Tryz.prog laid4 (w.forCall tape i).memory) ∧ sizedMet enc Tryz.checked.prog Tryz.f4 (OpenSpec.ofChange Rows.sunTwiceSpec) false (w.forCall tape i).memory i.args) ∧ ({} : Assume).holds Tryz.checked.prog (lone (Frame.enter Tryz.checked.prog 4 i.args .normal) [] (w.forCall tape i)) :=
  ChangeSpec.witness_shaped (enc := enc) (C := Tryz.checked) (os := os) (X := fun w _ => laidMetH Tryz.prog laid4 w) false (door os) twiceIn 8 rfl (door_shaped os _) (by kernel_rfl) (by kernel_rfl) (by kernel_rfl) (door_met os _)

/-- the law's word, over lists of numbers -/
theorem twice_lists (e1 e2 : TypeId) (l0 l1 : List Int) (n0 : l0.length = 3) (n1 : l1.length = 3) {E : Env} {W : World} (rh : RH E (hpG e1 e2) W) :
    Calls Tryz.prog 4 #[.agg (l0.map fun z => Value.int .i64 z).toArray, .agg (l1.map fun z => Value.int .i64 z).toArray] W fun e W' => e = .returned (.bool true) ∧ Below W.heap.size W W' := by
  match l0, n0, l1, n1 with
  | [ax, ay, az], _, [bx, b2, bz], _ =>
    refine (twice_call e1 e2 ax ay az bx b2 bz E W [.agg ([ax, ay, az].map fun z => Value.int .i64 z).toArray, .agg ([bx, b2, bz].map fun z => Value.int .i64 z).toArray] rh ⟨is_intsK (l := [ax, ay, az]), is_intsK (l := [bx, b2, bz]), trivial⟩).mono ?_
    rintro e W2 ⟨v, E', rfl, hv, hst⟩
    obtain ⟨rfl, _⟩ := hv
    exact ⟨rfl, below_of rh hst⟩

theorem twice_lifted (os : Os) (started : os.Started) (H : Type) (enc : TypeId × Value → H) :
    ReturnsInHanded {} Tryz.checked os 4 .any (fun w args => (Rows.sunTwiceSpec.pre enc Tryz.checked.prog Tryz.f4 [] false w args ∧ laidMetH Tryz.prog laid4 w) ∧ sizedMet enc Tryz.checked.prog Tryz.f4 (OpenSpec.ofChange Rows.sunTwiceSpec) false w args)
      (Rows.sunTwiceSpec.post enc Tryz.checked.prog Tryz.f4 false true false false) := by
  refine returnsInHanded_of_change_and (C := Tryz.checked) (X := fun w _ => laidMetH Tryz.prog laid4 w) (fun _ _ _ hh h => h.of_heap hh) own started (by kernel_rfl) Tryz.func4 (twice_door enc os) ?_
  intro W base args ds gs before hval0 hW _ _ hL _
  have hval : ∀ (j : Nat) t v, Tryz.f4.params[j]? = some t → args[j]? = some v → Value.okWide Tryz.prog W .any base t v := hval0
  have hW' := hW
  obtain ⟨p, q, hA0, hV, rfl, hfz, hnd⟩ := hW
  have hA : DataW.TrodAll enc Tryz.prog W 0 (fun _ => true) true Tryz.f4.params.toList args.toList ds p := hA0
  rw [Tryz.params4] at hA hval
  obtain ⟨v0, v1, d0, d1, p0, p1, rfl, rfl, _, h0, h1⟩ := trodAll_two hA
  obtain ⟨rfl, rfl⟩ := trodVars_none hV
  obtain ⟨l0, n0, rfl⟩ := intsK_of (n := 3) Tryz.underlying3 ⟨_, Tryz.underlying23, rfl⟩ (by kernel_rfl) (by kernel_rfl) (hval 0 _ v0 rfl rfl)
  obtain ⟨l1, n1, rfl⟩ := intsK_of (n := 3) Tryz.underlying3 ⟨_, Tryz.underlying23, rfl⟩ (by kernel_rfl) (by kernel_rfl) (hval 1 _ v1 rfl rfl)
  obtain ⟨e1, e2, E, rh⟩ := rh_laid hL
  refine (twice_lists e1 e2 l0 l1 n0 n1 rh).mono ?_
  rintro e W2 ⟨rfl, hb⟩
  exact ⟨_, rfl, post_true rfl rfl hW' hb rfl (by kernel_rfl)⟩

theorem sunTwice_holds : Rows.SunTwiceSaid :=
  OpenClaim.holds_of_wide 4 Tryz.f4 rfl rfl rfl rfl rfl rfl rfl ⟨rfl, rfl, rfl, rfl, rfl⟩ rfl rfl rfl rfl rfl (by kernel_rfl) Tryz.func4 (by kernel_rfl)
    (of_decide_eq_true (by kernel_rfl)) (by unfold Func.isWrapper; first | (rw [if_pos (by decide +kernel)]; kernel_rfl) | (rw [if_neg (by decide +kernel)]; exact ⟨rfl, rfl⟩))
    (fun os started H enc _ => twice_lifted os started H enc)

theorem sunTwice_card : Rows.SunTwiceCardSaid :=
  Claim7.holds_tied_plain_at .later [] [.data, .data, .data, .data] true (true, "5bf6c3fb051756e178f09bbfb8801b64de04a1e06ab7396a92217725c5449a30") false
    sunTwice_holds (fun _ h => by cases h) (by kernel_rfl) (fun _ h => by cases h) sunTwice_row_tie rfl ⟨rfl, rfl⟩ (by kernel_rfl) rfl
    (fun f fn hf hfn => by
      obtain rfl : f = 4 := Option.some.inj ((show Tryz.prog.funcNamed "spillage/spillagelaw02.SunTwice" = some 4 by kernel_rfl).symm.trans hf) |>.symm
      obtain rfl : fn = Tryz.f4 := (Option.some.inj (Tryz.func4.symm.trans hfn)).symm
      exact ⟨by kernel_rfl, fun j t ht => by
        rw [Tryz.params4] at ht
        have hm : t ∈ [23, 23] := by simpa using Array.mem_of_getElem? ht
        have hall : ([23, 23].all fun u => !Tryz.prog.wantsStandIn u) = true := by kernel_rfl
        exact (show Tryz.prog.wantsStandIn t = false by simpa using List.all_eq_true.1 hall t hm)⟩)
    (by kernel_rfl)
#print axioms sunTwice_card
end Go.Proofs.YtfdfpfojiilcgaaGreatDoor
