/- SunTexts: for every sky and every string the law returns true, and its arguments read afterwards as before. Conditions: the six listed variables hold what the program's text, or the form's own constant, lays in them (the card ties them to the text). -/
import Derived.Test.YtkalcencblhlgaaGreatDoorRowX
import Derived.Test.YtkalcencblhlgaaGreatDoorTxs
import Derived.Test.YtkalcencblhlgaaGreatDoorRowT
import Derived.Test.YtkalcencblhlgaaGreatDoorTie
import Derived.Test.YtkalcencblhlgaaGreatDoorCards
import Derived.SevenTiedAt
namespace Go.Proofs.YtkalcencblhlgaaGreatDoor
open Go.ChangeShapes Go.WideShapes Go.ChangeAt Go.RowKit Go.Ev
set_option maxRecDepth 100000
def textsIn : Array Value := #[.agg #[.string ⟨#[]⟩, .slice none 0 0], .string ⟨#[]⟩]
theorem texts_door {H : Type} (enc : TypeId × Value → H) (os : Os) : ∃ (w : World) (tape : Tape) (i : Input), w.os = os ∧ (w.forCall tape i).Shaped Tryz.checked.prog ∧ i.vars = [] ∧ Input.okWide Tryz.checked.prog (w.forCall tape i) .any w.heap.size 4 i ∧
      ((Rows.sunTextsSpec.pre enc Tryz.checked.prog Tryz.f4 [] false (w.forCall tape i).memory i.args ∧ laidMetH Tryz.prog laid6 (w.forCall tape i).memory) ∧ sizedMet enc Tryz.checked.prog Tryz.f4 (OpenSpec.ofChange Rows.sunTextsSpec) false (w.forCall tape i).memory i.args) ∧ ({} : Assume).holds Tryz.checked.prog (lone (Frame.enter Tryz.checked.prog 4 i.args .normal) [] (w.forCall tape i)) :=
  ChangeSpec.witness_shaped (enc := enc) (C := Tryz.checked) (os := os) (X := fun w _ => laidMetH Tryz.prog laid6 w) false (door6 os) textsIn 8 (door6_os os) (door6_shaped os _) (by kernel_rfl) (by kernel_rfl) (by kernel_rfl) (door6_met os _)
theorem texts_word (nm s : ByteArray) {n : Nat} {z0 z1 z2 z3 : Nat → Int} {v : Value} {E : Env} {W : World} (rh : RH E (txHp n z0 z1 z2 z3) W) (hv : (slT 0 4 n).Is E v) :
  Calls Tryz.prog 4 #[.agg #[.string nm, v], .string s] W fun e W' => e = .returned (.bool true) ∧ Below W.heap.size W W' := by
 refine (texts_call nm s n z0 z1 z2 z3 E W [.agg #[.string nm, v], .string s] rh ⟨agg_is (l := [.string nm, v]) ⟨⟨rfl, rfl⟩, hv, trivial⟩, ⟨rfl, rfl⟩, trivial⟩).mono ?_
 rintro e W2 ⟨v, E', rfl, hv, hst⟩
 obtain ⟨rfl, _⟩ := hv
 exact ⟨rfl, below_of rfl rh hst⟩
theorem texts_lifted (os : Os) (started : os.Started) (H : Type) (enc : TypeId × Value → H) :
  ReturnsInHanded {} Tryz.checked os 4 .any (fun w args => (Rows.sunTextsSpec.pre enc Tryz.checked.prog Tryz.f4 [] false w args ∧ laidMetH Tryz.prog laid6 w) ∧ sizedMet enc Tryz.checked.prog Tryz.f4 (OpenSpec.ofChange Rows.sunTextsSpec) false w args)
   (Rows.sunTextsSpec.post enc Tryz.checked.prog Tryz.f4 false true false false) := by
 refine returnsInHanded_of_change_and (C := Tryz.checked) (X := fun w _ => laidMetH Tryz.prog laid6 w) (fun _ _ _ hh h => h.of_heap hh) own started (by kernel_rfl) Tryz.func4 (texts_door enc os) ?_
 intro W base args ds gs before hval0 hW _ _ hL _
 have hval : ∀ (j : Nat) t v, Tryz.f4.params[j]? = some t → args[j]? = some v → Value.okWide Tryz.prog W .any base t v := hval0
 have hW' := hW
 obtain ⟨p, q, hA0, hV, rfl, hfz, hnd⟩ := hW
 have hA : DataW.TrodAll enc Tryz.prog W 0 (fun _ => true) true Tryz.f4.params.toList args.toList ds p := hA0
 rw [Tryz.params4] at hA hval
 obtain ⟨v0, v1, d0, d1, p0, p1, rfl, rfl, _, h0, h1⟩ := trodAll_two hA
 obtain ⟨rfl, rfl⟩ := trodVars_none hV
 obtain ⟨E, rh⟩ := rh_laid6 hL
 obtain ⟨q0, hq1, hq2⟩ := empty_tab (id := 0) rh rfl
 obtain ⟨nm, sv, d', p', rfl, hsv, hst⟩ := sky_arg (hval 0 _ v0 rfl rfl) h0
 obtain ⟨s, rfl⟩ := okWide_string (base := base) (t := 9) Tryz.underlying9 (hval 1 _ v1 rfl rfl)
 obtain ⟨n, z0, z1, z2, z3, q, hn, hq, hqb, hqv⟩ := tab_sun hsv hst hq1 hq2
 obtain ⟨E2, rh2, hE2⟩ := rh_tabs (gl := glY) (ts := [⟨some 0, n, skC z0 z1 z2 z3⟩]) (ps := [q]) rh (by kernel_rfl) (by simp) (by simp [glY, lim]) ⟨⟨hq, hqb⟩, trivial⟩
 refine (texts_word nm s rh2 (hqv E2 0 (hE2 0 q rfl))).mono ?_
 rintro e W2 ⟨rfl, hb⟩
 exact ⟨_, rfl, post_true rfl rfl hW' hb rfl (by kernel_rfl)⟩
theorem sunTexts_holds : Rows.SunTextsSaid :=
 OpenClaim.holds_of_wide 4 Tryz.f4 rfl rfl rfl rfl rfl rfl rfl ⟨rfl, rfl, rfl, rfl, rfl⟩ rfl rfl rfl rfl rfl (by kernel_rfl) Tryz.func4 (by kernel_rfl)
  (of_decide_eq_true (by kernel_rfl)) (by unfold Func.isWrapper; first | (rw [if_pos (by decide +kernel)]; kernel_rfl) | (rw [if_neg (by decide +kernel)]; exact ⟨rfl, rfl⟩))
  (fun os started H enc _ => texts_lifted os started H enc)
theorem sunTexts_card : Rows.SunTextsCardSaid :=
 Claim7.holds_tied_plain_at .later [] [.data, .data, .data, .data, .data, .pinned] true (true, "270a980da8cd2bb5699b16897d48f3470cb5bb4b0ef9c7b644b272c3371236cd") false
  sunTexts_holds (fun _ h => by cases h) (by kernel_rfl) (fun _ h => by cases h) sunTexts_row_tie rfl ⟨rfl, rfl⟩ (by kernel_rfl) rfl
  (fun f fn hf hfn => by
   obtain rfl : f = 4 := Option.some.inj ((show Tryz.prog.funcNamed "spillage/spillagelaw02.SunTexts" = some 4 by kernel_rfl).symm.trans hf) |>.symm
   obtain rfl : fn = Tryz.f4 := (Option.some.inj (Tryz.func4.symm.trans hfn)).symm
   exact ⟨by kernel_rfl, fun j t ht => by
    rw [Tryz.params4] at ht
    have hm : t ∈ [24, 9] := by simpa using Array.mem_of_getElem? ht
    have hall : ([24, 9].all fun u => !Tryz.prog.wantsStandIn u) = true := by kernel_rfl
    exact (show Tryz.prog.wantsStandIn t = false by simpa using List.all_eq_true.1 hall t hm)⟩)
  (by kernel_rfl)
#print axioms sunTexts_card
end Go.Proofs.YtkalcencblhlgaaGreatDoor
