/- SaltTexts: for every tank and every string the law returns true, and its arguments read afterwards as before. Conditions: the six listed variables hold what the program's text, or the form's own constant, lays in them (the card ties them to the text). -/
import Derived.Test.YtlpchgidkibbeaaGreatDoorRowX
import Derived.Test.YtlpchgidkibbeaaGreatDoorTxs
import Derived.Test.YtlpchgidkibbeaaGreatDoorRowK
import Derived.Test.YtlpchgidkibbeaaGreatDoorTie
import Derived.Test.YtlpchgidkibbeaaGreatDoorCards
import Derived.SevenTiedAt
namespace Go.Proofs.YtlpchgidkibbeaaGreatDoor
open Go.ChangeShapes Go.WideShapes Go.ChangeAt Go.RowKit Go.Ev

set_option maxRecDepth 100000

/-- arguments that the law accepts -/
def textsIn : Array Value := #[.agg #[.int .i64 0, .slice none 0 0], .string ⟨#[]⟩]
theorem texts_door {H : Type} (enc : TypeId × Value → H) (os : Os) : ∃ (w : World) (tape : Tape) (i : Input), w.os = os ∧ (w.forCall tape i).Shaped Tryz.checked.prog ∧ i.vars = [] ∧ Input.okWide Tryz.checked.prog (w.forCall tape i) .any w.heap.size 10 i ∧
      ((Rows.saltTextsSpec.pre enc Tryz.checked.prog Tryz.f10 [] false (w.forCall tape i).memory i.args ∧ laidMetH Tryz.prog laid6 (w.forCall tape i).memory) ∧ sizedMet enc Tryz.checked.prog Tryz.f10 (OpenSpec.ofChange Rows.saltTextsSpec) false (w.forCall tape i).memory i.args) ∧ ({} : Assume).holds Tryz.checked.prog (lone (Frame.enter Tryz.checked.prog 10 i.args .normal) [] (w.forCall tape i)) :=
  ChangeSpec.witness_shaped (enc := enc) (C := Tryz.checked) (os := os) (X := fun w _ => laidMetH Tryz.prog laid6 w) false (door6 os) textsIn 8 (door6_os os) (door6_shaped os _) (by kernel_rfl) (by kernel_rfl) (by kernel_rfl) (door6_met os _)

/-- the law's word -/
theorem texts_word (room : Int) (s : ByteArray) {n : Nat} {z1 z2 : Nat → Int} {v : Value} {E : Env} {W : World} (rh : RH E (hpL1 n (tkC z1 z2)) W) (hv : (slT 0 2 n).Is E v) :
    Calls Tryz.prog 10 #[.agg #[Value.int .i64 room, v], Value.string s] W fun e W' => e = .returned (.bool true) ∧ Below W.heap.size W W' := by
  refine (texts_call n room z1 z2 s E W [.agg #[Value.int .i64 room, v], Value.string s] rh ⟨agg_is (l := [Value.int .i64 room, v]) ⟨⟨rfl, rfl⟩, hv, trivial⟩, ⟨rfl, rfl⟩, trivial⟩).mono ?_
  rintro e W2 ⟨v, E', rfl, hv, hst⟩
  obtain ⟨rfl, _⟩ := hv
  exact ⟨rfl, below_of rfl rh hst⟩

theorem texts_lifted (os : Os) (started : os.Started) (H : Type) (enc : TypeId × Value → H) :
    ReturnsInHanded {} Tryz.checked os 10 .any (fun w args => (Rows.saltTextsSpec.pre enc Tryz.checked.prog Tryz.f10 [] false w args ∧ laidMetH Tryz.prog laid6 w) ∧ sizedMet enc Tryz.checked.prog Tryz.f10 (OpenSpec.ofChange Rows.saltTextsSpec) false w args)
      (Rows.saltTextsSpec.post enc Tryz.checked.prog Tryz.f10 false true false false) := by
  refine returnsInHanded_of_change_and (C := Tryz.checked) (X := fun w _ => laidMetH Tryz.prog laid6 w) (fun _ _ _ hh h => h.of_heap hh) own started (by kernel_rfl) Tryz.func10 (texts_door enc os) ?_
  intro W base args ds gs before hval0 hW _ _ hL _
  have hval : ∀ (j : Nat) t v, Tryz.f10.params[j]? = some t → args[j]? = some v → Value.okWide Tryz.prog W .any base t v := hval0
  have hW' := hW
  obtain ⟨p, q, hA0, hV, rfl, hfz, hnd⟩ := hW
  have hA : DataW.TrodAll enc Tryz.prog W 0 (fun _ => true) true Tryz.f10.params.toList args.toList ds p := hA0
  rw [Tryz.params10] at hA hval
  obtain ⟨v0, v1, d0, d1, p0, p1, rfl, rfl, _, h0, h1⟩ := trodAll_two hA
  obtain ⟨rfl, rfl⟩ := trodVars_none hV
  obtain ⟨E, rh⟩ := rh_laid6 hL
  obtain ⟨q0, hq1, hq2⟩ := empty_tab (id := 0) rh rfl
  obtain ⟨room, sv, d', p', rfl, hsv, hst⟩ := tank_arg (hval 0 _ v0 rfl rfl) h0
  obtain ⟨s, rfl⟩ := okWide_string (base := base) (t := 9) Tryz.underlying9 (hval 1 _ v1 rfl rfl)
  obtain ⟨n, z1, z2, q, hn, hq, hqb, hqv⟩ := tab_ii (t := 74) (e := 98) Tryz.underlying74 (by kernel_rfl) hsv (fun hl ht => row_ii ⟨_, _, Tryz.underlying98, rfl, rfl, rfl, rfl⟩ hl ht) hst hq1 hq2
  obtain ⟨E2, rh2, hE2⟩ := rh_tabs (gl := glS) (ts := [⟨some 0, n, tkC z1 z2⟩]) (ps := [q]) rh (by kernel_rfl) (by simp) (by simp [glS, lim]) ⟨⟨hq, hqb⟩, trivial⟩
  refine (texts_word room s rh2 (hqv E2 0 (hE2 0 q rfl))).mono ?_
  rintro e W2 ⟨rfl, hb⟩
  exact ⟨_, rfl, post_true rfl rfl hW' hb rfl (by kernel_rfl)⟩

theorem saltTexts_holds : Rows.SaltTextsSaid :=
  OpenClaim.holds_of_wide 10 Tryz.f10 rfl rfl rfl rfl rfl rfl rfl ⟨rfl, rfl, rfl, rfl, rfl⟩ rfl rfl rfl rfl rfl (by kernel_rfl) Tryz.func10 (by kernel_rfl)
    (of_decide_eq_true (by kernel_rfl)) (by unfold Func.isWrapper; first | (rw [if_pos (by decide +kernel)]; kernel_rfl) | (rw [if_neg (by decide +kernel)]; exact ⟨rfl, rfl⟩))
    (fun os started H enc _ => texts_lifted os started H enc)

theorem saltTexts_card : Rows.SaltTextsCardSaid :=
  Claim7.holds_tied_plain_at .later [] [.data, .data, .data, .data, .funcsDeep, .pinned] true (true, "197792013b658a0d82f706d4f0e8d402b53190c89b5f8363fea59a134bd4fcea") false
    saltTexts_holds (fun _ h => by cases h) (by kernel_rfl) (fun _ h => by cases h) saltTexts_row_tie rfl ⟨rfl, rfl⟩ (by kernel_rfl) rfl
    (fun f fn hf hfn => by
      obtain rfl : f = 10 := Option.some.inj ((show Tryz.prog.funcNamed "spillage/spillagelaw08.SaltTexts" = some 10 by kernel_rfl).symm.trans hf) |>.symm
      obtain rfl : fn = Tryz.f10 := (Option.some.inj (Tryz.func10.symm.trans hfn)).symm
      exact ⟨by kernel_rfl, fun j t ht => by
        rw [Tryz.params10] at ht
        have hm : t ∈ [76, 9] := by simpa using Array.mem_of_getElem? ht
        have hall : ([76, 9].all fun u => !Tryz.prog.wantsStandIn u) = true := by kernel_rfl
        exact (show Tryz.prog.wantsStandIn t = false by simpa using List.all_eq_true.1 hall t hm)⟩)
    (by kernel_rfl)
#print axioms saltTexts_card
end Go.Proofs.YtlpchgidkibbeaaGreatDoor
