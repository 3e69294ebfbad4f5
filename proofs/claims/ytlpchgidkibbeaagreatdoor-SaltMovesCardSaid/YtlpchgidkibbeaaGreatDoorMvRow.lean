/- SaltMoves: for every tank, amount and heat, and either end the law returns true, and its arguments read afterwards as before. Conditions: the four listed variables hold what the program's text lays in them (the card ties them to the text). -/
import Derived.Test.YtlpchgidkibbeaaGreatDoorDoor
import Derived.Test.YtlpchgidkibbeaaGreatDoorMvG
import Derived.Test.YtlpchgidkibbeaaGreatDoorRowK
import Derived.Test.YtlpchgidkibbeaaGreatDoorTie
import Derived.Test.YtlpchgidkibbeaaGreatDoorCards
import Derived.SevenTiedAt
namespace Go.Proofs.YtlpchgidkibbeaaGreatDoor
open Go.ChangeShapes Go.WideShapes Go.ChangeAt Go.RowKit Go.Ev

set_option maxRecDepth 100000

/-- arguments that the law accepts -/
def movesIn : Array Value := #[.agg #[.int .i64 0, .slice none 0 0], .agg #[.int .i64 0, .int .i64 0], .bool false]
theorem moves_door {H : Type} (enc : TypeId × Value → H) (os : Os) : ∃ (w : World) (tape : Tape) (i : Input), w.os = os ∧ (w.forCall tape i).Shaped Tryz.checked.prog ∧ i.vars = [] ∧ Input.okWide Tryz.checked.prog (w.forCall tape i) .any w.heap.size 6 i ∧
      ((Rows.saltMovesSpec.pre enc Tryz.checked.prog Tryz.f6 [] false (w.forCall tape i).memory i.args ∧ laidMetH Tryz.prog laid4 (w.forCall tape i).memory) ∧ sizedMet enc Tryz.checked.prog Tryz.f6 (OpenSpec.ofChange Rows.saltMovesSpec) false (w.forCall tape i).memory i.args) ∧ ({} : Assume).holds Tryz.checked.prog (lone (Frame.enter Tryz.checked.prog 6 i.args .normal) [] (w.forCall tape i)) :=
  ChangeSpec.witness_shaped (enc := enc) (C := Tryz.checked) (os := os) (X := fun w _ => laidMetH Tryz.prog laid4 w) false (door os) movesIn 8 rfl (door_shaped os _) (by kernel_rfl) (by kernel_rfl) (by kernel_rfl) (door_met os _)

/-- the law's word -/
theorem moves_word (room x0 x1 : Int) (top : Bool) {n : Nat} {z1 z2 : Nat → Int} {v : Value} {E : Env} {W : World} (rh : RH E (hpL1 n (tkC z1 z2)) W) (hv : (slT 0 2 n).Is E v) :
    Calls Tryz.prog 6 #[.agg #[Value.int .i64 room, v], .agg #[Value.int .i64 x0, Value.int .i64 x1], .bool top] W fun e W' => e = .returned (.bool true) ∧ Below W.heap.size W W' := by
  refine (moves_call n room x0 x1 top z1 z2 E W [.agg #[Value.int .i64 room, v], .agg #[Value.int .i64 x0, Value.int .i64 x1], .bool top] rh ⟨agg_is (l := [Value.int .i64 room, v]) ⟨⟨rfl, rfl⟩, hv, trivial⟩, agg_is (l := [Value.int .i64 x0, Value.int .i64 x1]) ⟨⟨rfl, rfl⟩, ⟨rfl, rfl⟩, trivial⟩, ⟨rfl, rfl⟩, trivial⟩).mono ?_
  rintro e W2 ⟨v, E', rfl, hv, hst⟩
  obtain ⟨rfl, _⟩ := hv
  exact ⟨rfl, below_of rfl rh hst⟩

theorem moves_lifted (os : Os) (started : os.Started) (H : Type) (enc : TypeId × Value → H) :
    ReturnsInHanded {} Tryz.checked os 6 .any (fun w args => (Rows.saltMovesSpec.pre enc Tryz.checked.prog Tryz.f6 [] false w args ∧ laidMetH Tryz.prog laid4 w) ∧ sizedMet enc Tryz.checked.prog Tryz.f6 (OpenSpec.ofChange Rows.saltMovesSpec) false w args)
      (Rows.saltMovesSpec.post enc Tryz.checked.prog Tryz.f6 false true false false) := by
  refine returnsInHanded_of_change_and (C := Tryz.checked) (X := fun w _ => laidMetH Tryz.prog laid4 w) (fun _ _ _ hh h => h.of_heap hh) own started (by kernel_rfl) Tryz.func6 (moves_door enc os) ?_
  intro W base args ds gs before hval0 hW _ _ hL _
  have hval : ∀ (j : Nat) t v, Tryz.f6.params[j]? = some t → args[j]? = some v → Value.okWide Tryz.prog W .any base t v := hval0
  have hW' := hW
  obtain ⟨p, q, hA0, hV, rfl, hfz, hnd⟩ := hW
  have hA : DataW.TrodAll enc Tryz.prog W 0 (fun _ => true) true Tryz.f6.params.toList args.toList ds p := hA0
  rw [Tryz.params6] at hA hval
  obtain ⟨v0, v1, v2, d0, d1, d2, p0, p1, p2, rfl, rfl, _, h0, h1, h2⟩ := trodAll_three hA
  obtain ⟨rfl, rfl⟩ := trodVars_none hV
  obtain ⟨E, rh⟩ := rh_laid hL
  obtain ⟨q0, hq1, hq2⟩ := empty_tab (id := 0) rh rfl
  obtain ⟨room, sv, d', p', rfl, hsv, hst⟩ := tank_arg (hval 0 _ v0 rfl rfl) h0
  obtain ⟨l2, n2, rfl, c2⟩ := cells_of (ts := [3, 3]) ⟨_, Tryz.underlying77, rfl⟩ (by kernel_rfl) (by kernel_rfl) (hval 1 _ v1 rfl rfl)
  obtain ⟨u0, u1, rfl⟩ := list2 n2
  obtain ⟨x0, rfl⟩ := cell_int (c2 0 _ _ rfl rfl)
  obtain ⟨x1, rfl⟩ := cell_int (c2 1 _ _ rfl rfl)
  obtain ⟨top, rfl⟩ := okWide_bool (base := base) (t := 4) Tryz.underlying4 (hval 2 _ v2 rfl rfl)
  obtain ⟨n, z1, z2, q, hn, hq, hqb, hqv⟩ := tab_ii (t := 74) (e := 98) Tryz.underlying74 (by kernel_rfl) hsv (fun hl ht => row_ii ⟨_, _, Tryz.underlying98, rfl, rfl, rfl, rfl⟩ hl ht) hst hq1 hq2
  obtain ⟨E2, rh2, hE2⟩ := rh_tabs (gl := glS) (ts := [⟨some 0, n, tkC z1 z2⟩]) (ps := [q]) rh (by kernel_rfl) (by simp) (by simp [glS, lim]) ⟨⟨hq, hqb⟩, trivial⟩
  refine (moves_word room x0 x1 top rh2 (hqv E2 0 (hE2 0 q rfl))).mono ?_
  rintro e W2 ⟨rfl, hb⟩
  exact ⟨_, rfl, post_true rfl rfl hW' hb rfl (by kernel_rfl)⟩

theorem saltMoves_holds : Rows.SaltMovesSaid :=
  OpenClaim.holds_of_wide 6 Tryz.f6 rfl rfl rfl rfl rfl rfl rfl ⟨rfl, rfl, rfl, rfl, rfl⟩ rfl rfl rfl rfl rfl (by kernel_rfl) Tryz.func6 (by kernel_rfl)
    (of_decide_eq_true (by kernel_rfl)) (by unfold Func.isWrapper; first | (rw [if_pos (by decide +kernel)]; kernel_rfl) | (rw [if_neg (by decide +kernel)]; exact ⟨rfl, rfl⟩))
    (fun os started H enc _ => moves_lifted os started H enc)

theorem saltMoves_card : Rows.SaltMovesCardSaid :=
  Claim7.holds_tied_plain_at .later [] [.data, .data, .data, .funcsDeep] true (true, "197792013b658a0d82f706d4f0e8d402b53190c89b5f8363fea59a134bd4fcea") false
    saltMoves_holds (fun _ h => by cases h) (by kernel_rfl) (fun _ h => by cases h) saltMoves_row_tie rfl ⟨rfl, rfl⟩ (by kernel_rfl) rfl
    (fun f fn hf hfn => by
      obtain rfl : f = 6 := Option.some.inj ((show Tryz.prog.funcNamed "spillage/spillagelaw08.SaltMoves" = some 6 by kernel_rfl).symm.trans hf) |>.symm
      obtain rfl : fn = Tryz.f6 := (Option.some.inj (Tryz.func6.symm.trans hfn)).symm
      exact ⟨by kernel_rfl, fun j t ht => by
        rw [Tryz.params6] at ht
        have hm : t ∈ [76, 77, 4] := by simpa using Array.mem_of_getElem? ht
        have hall : ([76, 77, 4].all fun u => !Tryz.prog.wantsStandIn u) = true := by kernel_rfl
        exact (show Tryz.prog.wantsStandIn t = false by simpa using List.all_eq_true.1 hall t hm)⟩)
    (by kernel_rfl)
#print axioms saltMoves_card
end Go.Proofs.YtlpchgidkibbeaaGreatDoor
