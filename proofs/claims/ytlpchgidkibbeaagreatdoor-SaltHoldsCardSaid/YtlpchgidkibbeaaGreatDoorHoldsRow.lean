/- SaltHolds: for every rules, receiver, list of told steps and shares the law returns true, and its arguments read afterwards as before. Conditions: the four listed variables hold what the program's text lays in them (the card ties them to the text). -/
import Derived.Test.YtlpchgidkibbeaaGreatDoorDoor
import Derived.Test.YtlpchgidkibbeaaGreatDoorHolds
import Derived.Test.YtlpchgidkibbeaaGreatDoorRowH
import Derived.Test.YtlpchgidkibbeaaGreatDoorTie
import Derived.Test.YtlpchgidkibbeaaGreatDoorCards
import Derived.SevenTiedAt
namespace Go.Proofs.YtlpchgidkibbeaaGreatDoor
open Go.ChangeShapes Go.WideShapes Go.ChangeAt Go.RowKit Go.Ev

set_option maxRecDepth 100000

theorem list2 {α : Type} : ∀ {l : List α}, l.length = 2 → ∃ x0 x1, l = [x0, x1]
  | [x0, x1], _ => ⟨x0, x1, rfl⟩
theorem list6 {α : Type} : ∀ {l : List α}, l.length = 6 → ∃ x0 x1 x2 x3 x4 x5, l = [x0, x1, x2, x3, x4, x5]
  | [x0, x1, x2, x3, x4, x5], _ => ⟨x0, x1, x2, x3, x4, x5, rfl⟩
/-- arguments that the law accepts -/
def holdsIn : Array Value := #[.agg #[.int .i64 0, .int .i64 0, .int .i64 0, .int .i64 0, .int .i64 0, .int .i64 0], .agg #[.string ⟨#[]⟩, .int .i64 0], .agg #[.slice none 0 0, .int .u8 0, .int .u8 0, .int .u8 0]]
theorem holds_door {H : Type} (enc : TypeId × Value → H) (os : Os) : ∃ (w : World) (tape : Tape) (i : Input), w.os = os ∧ (w.forCall tape i).Shaped Tryz.checked.prog ∧ i.vars = [] ∧ Input.okWide Tryz.checked.prog (w.forCall tape i) .any w.heap.size 9 i ∧
      ((Rows.saltHoldsSpec.pre enc Tryz.checked.prog Tryz.f9 [] false (w.forCall tape i).memory i.args ∧ laidMetH Tryz.prog laid4 (w.forCall tape i).memory) ∧ sizedMet enc Tryz.checked.prog Tryz.f9 (OpenSpec.ofChange Rows.saltHoldsSpec) false (w.forCall tape i).memory i.args) ∧ ({} : Assume).holds Tryz.checked.prog (lone (Frame.enter Tryz.checked.prog 9 i.args .normal) [] (w.forCall tape i)) :=
  ChangeSpec.witness_shaped (enc := enc) (C := Tryz.checked) (os := os) (X := fun w _ => laidMetH Tryz.prog laid4 w) false (door os) holdsIn 8 rfl (door_shaped os _) (by kernel_rfl) (by kernel_rfl) (by kernel_rfl) (door_met os _)

/-- the law's word -/
theorem holds_word (c l f r h k heat : Int) (s : ByteArray) {n : Nat} {z0 : Nat → ByteArray} {z1 z2 z3 : Nat → Int} (hn : n ≤ 9223372036854775807) {v : Value} {x0 x1 x2 : Int} (h0 : 0 ≤ x0 ∧ x0 ≤ 255) (h1 : 0 ≤ x1 ∧ x1 ≤ 255) (h2 : 0 ≤ x2 ∧ x2 ≤ 255) {E : Env} {W : World} (rh : RH E (hpL1 n (st4 z0 z1 z2 z3)) W) (hv : (slT 0 4 n).Is E v) :
    Calls Tryz.prog 9 #[.agg #[Value.int .i64 c, Value.int .i64 l, Value.int .i64 f, Value.int .i64 r, Value.int .i64 h, Value.int .i64 k], .agg #[.string s, Value.int .i64 heat], .agg #[v, .int .u8 x0, .int .u8 x1, .int .u8 x2]] W fun e W' => e = .returned (.bool true) ∧ Below W.heap.size W W' := by
  refine (holds_call n z0 z1 z2 z3 c l f r h k s heat x0 x1 x2 hn h0 h1 h2 E W [.agg #[Value.int .i64 c, Value.int .i64 l, Value.int .i64 f, Value.int .i64 r, Value.int .i64 h, Value.int .i64 k], .agg #[.string s, Value.int .i64 heat], .agg #[v, .int .u8 x0, .int .u8 x1, .int .u8 x2]] rh ⟨agg_is (l := [Value.int .i64 c, Value.int .i64 l, Value.int .i64 f, Value.int .i64 r, Value.int .i64 h, Value.int .i64 k]) ⟨⟨rfl, rfl⟩, ⟨rfl, rfl⟩, ⟨rfl, rfl⟩, ⟨rfl, rfl⟩, ⟨rfl, rfl⟩, ⟨rfl, rfl⟩, trivial⟩, agg_is (l := [.string s, Value.int .i64 heat]) ⟨⟨rfl, rfl⟩, ⟨rfl, rfl⟩, trivial⟩, agg_is (l := [v, .int .u8 x0, .int .u8 x1, .int .u8 x2]) ⟨hv, ⟨rfl, rfl⟩, ⟨rfl, rfl⟩, ⟨rfl, rfl⟩, trivial⟩, trivial⟩).mono ?_
  rintro e W2 ⟨v, E', rfl, hv, hst⟩
  obtain ⟨rfl, _⟩ := hv
  exact ⟨rfl, below_of rfl rh hst⟩

theorem holds_lifted (os : Os) (started : os.Started) (H : Type) (enc : TypeId × Value → H) :
    ReturnsInHanded {} Tryz.checked os 9 .any (fun w args => (Rows.saltHoldsSpec.pre enc Tryz.checked.prog Tryz.f9 [] false w args ∧ laidMetH Tryz.prog laid4 w) ∧ sizedMet enc Tryz.checked.prog Tryz.f9 (OpenSpec.ofChange Rows.saltHoldsSpec) false w args)
      (Rows.saltHoldsSpec.post enc Tryz.checked.prog Tryz.f9 false true false false) := by
  refine returnsInHanded_of_change_and (C := Tryz.checked) (X := fun w _ => laidMetH Tryz.prog laid4 w) (fun _ _ _ hh h => h.of_heap hh) own started (by kernel_rfl) Tryz.func9 (holds_door enc os) ?_
  intro W base args ds gs before hval0 hW _ _ hL _
  have hval : ∀ (j : Nat) t v, Tryz.f9.params[j]? = some t → args[j]? = some v → Value.okWide Tryz.prog W .any base t v := hval0
  have hW' := hW
  obtain ⟨p, q, hA0, hV, rfl, hfz, hnd⟩ := hW
  have hA : DataW.TrodAll enc Tryz.prog W 0 (fun _ => true) true Tryz.f9.params.toList args.toList ds p := hA0
  rw [Tryz.params9] at hA hval
  obtain ⟨v0, v1, v2, d0, d1, d2, p0, p1, p2, rfl, rfl, _, h0, h1, h2⟩ := trodAll_three hA
  obtain ⟨rfl, rfl⟩ := trodVars_none hV
  obtain ⟨l0, n0, rfl, c0⟩ := cells_of (ts := [3, 3, 3, 3, 3, 3]) ⟨_, Tryz.underlying23, rfl⟩ (by kernel_rfl) (by kernel_rfl) (hval 0 _ v0 rfl rfl)
  obtain ⟨u0_0, u0_1, u0_2, u0_3, u0_4, u0_5, rfl⟩ := list6 n0
  obtain ⟨c, rfl⟩ := cell_int (c0 0 _ _ rfl rfl)
  obtain ⟨l, rfl⟩ := cell_int (c0 1 _ _ rfl rfl)
  obtain ⟨f, rfl⟩ := cell_int (c0 2 _ _ rfl rfl)
  obtain ⟨r, rfl⟩ := cell_int (c0 3 _ _ rfl rfl)
  obtain ⟨h, rfl⟩ := cell_int (c0 4 _ _ rfl rfl)
  obtain ⟨k, rfl⟩ := cell_int (c0 5 _ _ rfl rfl)
  obtain ⟨l1, n1, rfl, c1⟩ := cells_of (ts := [9, 3]) ⟨_, Tryz.underlying25, rfl⟩ (by kernel_rfl) (by kernel_rfl) (hval 1 _ v1 rfl rfl)
  obtain ⟨u1_0, u1_1, rfl⟩ := list2 n1
  obtain ⟨s, rfl⟩ := cell_str (c1 0 _ _ rfl rfl)
  obtain ⟨heat, rfl⟩ := cell_int (c1 1 _ _ rfl rfl)
  obtain ⟨E, rh⟩ := rh_laid hL
  obtain ⟨q0, hq1, hq2⟩ := empty_tab (id := 0) rh rfl
  obtain ⟨l2, n2, rfl, c2⟩ := cells_of (ts := [26, 5, 5, 5]) ⟨_, Tryz.underlying132, rfl⟩ (by kernel_rfl) (by kernel_rfl) (hval 2 _ v2 rfl rfl)
  obtain ⟨sv, b0, b1, b2, rfl⟩ := list4 n2
  obtain ⟨x0, x1, x2, d3, p3, rfl, rfl, rfl, g0, g1, g2, h3⟩ := chosen_arg h2 (c2 0 _ _ rfl rfl)
  obtain ⟨n, z0, z1, z2, z3, q, hn, hq, hqb, hqv⟩ := tab_siii (t := 26) (e := 135) Tryz.underlying26 (by kernel_rfl) (cell_wide Tryz.underlying26 (c2 0 _ _ rfl rfl)) (fun hl ht => row_siii ⟨_, _, _, Tryz.underlying135, rfl, rfl, rfl, rfl, rfl, rfl⟩ ⟨_, _, Tryz.underlying30, rfl, rfl, rfl, rfl⟩ (by kernel_rfl) hl ht) h3 hq1 hq2
  obtain ⟨E2, rh2, hE2⟩ := rh_tabs (gl := glS) (ts := [⟨some 0, n, st4 z0 z1 z2 z3⟩]) (ps := [q]) rh (by kernel_rfl) (by simp) (by simp [glS, lim]) ⟨⟨hq, hqb⟩, trivial⟩
  refine (holds_word c l f r h k heat s hn g0 g1 g2 rh2 (hqv E2 0 (hE2 0 q rfl))).mono ?_
  rintro e W2 ⟨rfl, hb⟩
  exact ⟨_, rfl, post_true rfl rfl hW' hb rfl (by kernel_rfl)⟩

theorem saltHolds_holds : Rows.SaltHoldsSaid :=
  OpenClaim.holds_of_wide 9 Tryz.f9 rfl rfl rfl rfl rfl rfl rfl ⟨rfl, rfl, rfl, rfl, rfl⟩ rfl rfl rfl rfl rfl (by kernel_rfl) Tryz.func9 (by kernel_rfl)
    (of_decide_eq_true (by kernel_rfl)) (by unfold Func.isWrapper; first | (rw [if_pos (by decide +kernel)]; kernel_rfl) | (rw [if_neg (by decide +kernel)]; exact ⟨rfl, rfl⟩))
    (fun os started H enc _ => holds_lifted os started H enc)

theorem saltHolds_card : Rows.SaltHoldsCardSaid :=
  Claim7.holds_tied_plain_at .later [] [.data, .data, .data, .funcsDeep] true (true, "197792013b658a0d82f706d4f0e8d402b53190c89b5f8363fea59a134bd4fcea") false
    saltHolds_holds (fun _ h => by cases h) (by kernel_rfl) (fun _ h => by cases h) saltHolds_row_tie rfl ⟨rfl, rfl⟩ (by kernel_rfl) rfl
    (fun f fn hf hfn => by
      obtain rfl : f = 9 := Option.some.inj ((show Tryz.prog.funcNamed "spillage/spillagelaw08.SaltHolds" = some 9 by kernel_rfl).symm.trans hf) |>.symm
      obtain rfl : fn = Tryz.f9 := (Option.some.inj (Tryz.func9.symm.trans hfn)).symm
      exact ⟨by kernel_rfl, fun j t ht => by
        rw [Tryz.params9] at ht
        have hm : t ∈ [23, 25, 132] := by simpa using Array.mem_of_getElem? ht
        have hall : ([23, 25, 132].all fun u => !Tryz.prog.wantsStandIn u) = true := by kernel_rfl
        exact (show Tryz.prog.wantsStandIn t = false by simpa using List.all_eq_true.1 hall t hm)⟩)
    (by kernel_rfl)
#print axioms saltHolds_card
end Go.Proofs.YtlpchgidkibbeaaGreatDoor
