/- SunWays: for every cone, two vectors and two bytes the law returns true, and its arguments read afterwards as before. Conditions: the four listed variables hold what the program's text lays in them (the card ties them to the text). -/
import Derived.Test.YtfdfpfojiilcgaaGreatDoorDoor
import Derived.Test.YtfdfpfojiilcgaaGreatDoorWays2
import Derived.Test.YtfdfpfojiilcgaaGreatDoorTie
import Derived.Test.YtfdfpfojiilcgaaGreatDoorCards
import Derived.SevenTiedAt
namespace Go.Proofs.YtfdfpfojiilcgaaGreatDoor
open Go.ChangeShapes Go.WideShapes Go.ChangeAt Go.RowKit Go.Ev

set_option maxRecDepth 100000

/-- arguments that the law accepts -/
def waysIn : Array Value := #[.agg ([0, 0, 0, 0, 0].map fun z => Value.int .i64 z).toArray, .agg ([0, 0, 0, 0, 0, 0].map fun z => Value.int .i64 z).toArray, .agg ([0, 0].map fun z => Value.int .u8 z).toArray]
theorem ways_door {H : Type} (enc : TypeId × Value → H) (os : Os) : ∃ (w : World) (tape : Tape) (i : Input), w.os = os ∧ (w.forCall tape i).Shaped Tryz.checked.prog ∧ i.vars = [] ∧ Input.okWide Tryz.checked.prog (w.forCall tape i) .any w.heap.size 6 i ∧
      ((Rows.sunWaysSpec.pre enc Tryz.checked.prog Tryz.f6 [] false (w.forCall tape i).memory i.args ∧ laidMetH Tryz.prog laid4 (w.forCall tape i).memory) ∧ sizedMet enc Tryz.checked.prog Tryz.f6 (OpenSpec.ofChange Rows.sunWaysSpec) false (w.forCall tape i).memory i.args) ∧ ({} : Assume).holds Tryz.checked.prog (lone (Frame.enter Tryz.checked.prog 6 i.args .normal) [] (w.forCall tape i)) :=
  ChangeSpec.witness_shaped (enc := enc) (C := Tryz.checked) (os := os) (X := fun w _ => laidMetH Tryz.prog laid4 w) false (door os) waysIn 8 rfl (door_shaped os _) (by kernel_rfl) (by kernel_rfl) (by kernel_rfl) (door_met os _)

/-- the law's word, over lists of numbers -/
theorem ways_lists (e1 e2 : TypeId) (l0 l1 l2 : List Int) (n0 : l0.length = 5) (n1 : l1.length = 6) (n2 : l2.length = 2) (r2 : ∀ z ∈ l2, IntKind.u8.has z) {E : Env} {W : World} (rh : RH E (hpG e1 e2) W) :
    Calls Tryz.prog 6 #[.agg (l0.map fun z => Value.int .i64 z).toArray, .agg (l1.map fun z => Value.int .i64 z).toArray, .agg (l2.map fun z => Value.int .u8 z).toArray] W fun e W' => e = .returned (.bool true) ∧ Below W.heap.size W W' := by
  match l0, n0, l1, n1, l2, n2, r2 with
  | [x, y, z, num, den], _, [ax, ay, az, bx, b2, bz], _, [m, n], _, r2 =>
    refine (ways_call e1 e2 x y z num den ax ay az bx b2 bz m n (byte (r2 _ (by simp))) (byte (r2 _ (by simp))) E W [.agg ([x, y, z, num, den].map fun z => Value.int .i64 z).toArray, .agg ([ax, ay, az, bx, b2, bz].map fun z => Value.int .i64 z).toArray, .agg ([m, n].map fun z => Value.int .u8 z).toArray] rh ⟨is_intsK (l := [x, y, z, num, den]), is_intsK (l := [ax, ay, az, bx, b2, bz]), is_intsK (l := [m, n]), trivial⟩).mono ?_
    rintro e W2 ⟨v, E', rfl, hv, hst⟩
    obtain ⟨rfl, _⟩ := hv
    exact ⟨rfl, below_of rh hst⟩

theorem ways_lifted (os : Os) (started : os.Started) (H : Type) (enc : TypeId × Value → H) :
    ReturnsInHanded {} Tryz.checked os 6 .any (fun w args => (Rows.sunWaysSpec.pre enc Tryz.checked.prog Tryz.f6 [] false w args ∧ laidMetH Tryz.prog laid4 w) ∧ sizedMet enc Tryz.checked.prog Tryz.f6 (OpenSpec.ofChange Rows.sunWaysSpec) false w args)
      (Rows.sunWaysSpec.post enc Tryz.checked.prog Tryz.f6 false true false false) := by
  refine returnsInHanded_of_change_and (C := Tryz.checked) (X := fun w _ => laidMetH Tryz.prog laid4 w) (fun _ _ _ hh h => h.of_heap hh) own started (by kernel_rfl) Tryz.func6 (ways_door enc os) ?_
  intro W base args ds gs before hval0 hW _ _ hL _
  have hval : ∀ (j : Nat) t v, Tryz.f6.params[j]? = some t → args[j]? = some v → Value.okWide Tryz.prog W .any base t v := hval0
  have hW' := hW
  obtain ⟨p, q, hA0, hV, rfl, hfz, hnd⟩ := hW
  have hA : DataW.TrodAll enc Tryz.prog W 0 (fun _ => true) true Tryz.f6.params.toList args.toList ds p := hA0
  rw [Tryz.params6] at hA hval
  obtain ⟨v0, v1, v2, d0, d1, d2, p0, p1, p2, rfl, rfl, _, h0, h1, h2⟩ := trodAll_three hA
  obtain ⟨rfl, rfl⟩ := trodVars_none hV
  obtain ⟨l0, n0, _, rfl⟩ := intsK_of (n := 5) Tryz.underlying3 ⟨_, Tryz.underlying25, rfl⟩ (by kernel_rfl) (by kernel_rfl) (hval 0 _ v0 rfl rfl)
  obtain ⟨l1, n1, _, rfl⟩ := intsK_of (n := 6) Tryz.underlying3 ⟨_, Tryz.underlying59, rfl⟩ (by kernel_rfl) (by kernel_rfl) (hval 1 _ v1 rfl rfl)
  obtain ⟨l2, n2, r2, rfl⟩ := intsK_of (n := 2) Tryz.underlying5 ⟨_, Tryz.underlying64, rfl⟩ (by kernel_rfl) (by kernel_rfl) (hval 2 _ v2 rfl rfl)
  obtain ⟨e1, e2, E, rh⟩ := rh_laid hL
  refine (ways_lists e1 e2 l0 l1 l2 n0 n1 n2 r2 rh).mono ?_
  rintro e W2 ⟨rfl, hb⟩
  exact ⟨_, rfl, post_true rfl rfl hW' hb rfl (by kernel_rfl)⟩

theorem sunWays_holds : Rows.SunWaysSaid :=
  OpenClaim.holds_of_wide 6 Tryz.f6 rfl rfl rfl rfl rfl rfl rfl ⟨rfl, rfl, rfl, rfl, rfl⟩ rfl rfl rfl rfl rfl (by kernel_rfl) Tryz.func6 (by kernel_rfl)
    (of_decide_eq_true (by kernel_rfl)) (by unfold Func.isWrapper; first | (rw [if_pos (by decide +kernel)]; kernel_rfl) | (rw [if_neg (by decide +kernel)]; exact ⟨rfl, rfl⟩))
    (fun os started H enc _ => ways_lifted os started H enc)

theorem sunWays_card : Rows.SunWaysCardSaid :=
  Claim7.holds_tied_plain_at .later [] [.data, .data, .data, .data] true (true, "5bf6c3fb051756e178f09bbfb8801b64de04a1e06ab7396a92217725c5449a30") false
    sunWays_holds (fun _ h => by cases h) (by kernel_rfl) (fun _ h => by cases h) sunWays_row_tie rfl ⟨rfl, rfl⟩ (by kernel_rfl) rfl
    (fun f fn hf hfn => by
      obtain rfl : f = 6 := Option.some.inj ((show Tryz.prog.funcNamed "spillage/spillagelaw02.SunWays" = some 6 by kernel_rfl).symm.trans hf) |>.symm
      obtain rfl : fn = Tryz.f6 := (Option.some.inj (Tryz.func6.symm.trans hfn)).symm
      exact ⟨by kernel_rfl, fun j t ht => by
        rw [Tryz.params6] at ht
        have hm : t ∈ [25, 59, 64] := by simpa using Array.mem_of_getElem? ht
        have hall : ([25, 59, 64].all fun u => !Tryz.prog.wantsStandIn u) = true := by kernel_rfl
        exact (show Tryz.prog.wantsStandIn t = false by simpa using List.all_eq_true.1 hall t hm)⟩)
    (by kernel_rfl)
#print axioms sunWays_card
end Go.Proofs.YtfdfpfojiilcgaaGreatDoor
