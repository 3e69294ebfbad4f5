/- SaltParts: for every history, every place of the cut and all classes the law returns true, and its arguments read afterwards as before. Conditions: the four listed variables hold what the program's text lays in them (the card ties them to the text). -/
import Derived.Test.YtlpchgidkibbeaaGreatDoorDoor
import Derived.Test.YtlpchgidkibbeaaGreatDoorPtH
import Derived.Test.YtlpchgidkibbeaaGreatDoorRowP
import Derived.Test.YtlpchgidkibbeaaGreatDoorTie
import Derived.Test.YtlpchgidkibbeaaGreatDoorCards
import Derived.SevenTiedAt
namespace Go.Proofs.YtlpchgidkibbeaaGreatDoor
open Go.ChangeShapes Go.WideShapes Go.ChangeAt Go.RowKit Go.Ev

set_option maxRecDepth 100000

/-- arguments that the law accepts -/
def partsIn : Array Value := #[.slice none 0 0, .int .u8 0, .slice none 0 0]
theorem parts_door {H : Type} (enc : TypeId × Value → H) (os : Os) : ∃ (w : World) (tape : Tape) (i : Input), w.os = os ∧ (w.forCall tape i).Shaped Tryz.checked.prog ∧ i.vars = [] ∧ Input.okWide Tryz.checked.prog (w.forCall tape i) .any w.heap.size 7 i ∧
      ((Rows.saltPartsSpec.pre enc Tryz.checked.prog Tryz.f7 [] false (w.forCall tape i).memory i.args ∧ laidMetH Tryz.prog laid4 (w.forCall tape i).memory) ∧ sizedMet enc Tryz.checked.prog Tryz.f7 (OpenSpec.ofChange Rows.saltPartsSpec) false (w.forCall tape i).memory i.args) ∧ ({} : Assume).holds Tryz.checked.prog (lone (Frame.enter Tryz.checked.prog 7 i.args .normal) [] (w.forCall tape i)) :=
  ChangeSpec.witness_shaped (enc := enc) (C := Tryz.checked) (os := os) (X := fun w _ => laidMetH Tryz.prog laid4 w) false (door os) partsIn 8 rfl (door_shaped os _) (by kernel_rfl) (by kernel_rfl) (by kernel_rfl) (door_met os _)

/-- the law's word -/
theorem parts_word {n q : Nat} {u : Int} (hu : 0 ≤ u ∧ u ≤ 255) {z w1 w2 : Nat → Int} {v0 v2 : Value} {E : Env} {W : World} (rh : RH E (ptHp n q z w1 w2) W) (h0 : (slT 0 1 n).Is E v0) (h2 : (slT 1 2 q).Is E v2) :
    Calls Tryz.prog 7 #[v0, .int .u8 u, v2] W fun e W' => e = .returned (.bool true) ∧ Below W.heap.size W W' := by
  refine (pt_call n q u z w1 w2 hu E W [v0, .int .u8 u, v2] rh ⟨h0, ⟨rfl, rfl⟩, h2, trivial⟩).mono ?_
  rintro e W2 ⟨v, E', rfl, hv, hst⟩
  obtain ⟨rfl, _⟩ := hv
  exact ⟨rfl, below_of rfl rh hst⟩

theorem parts_lifted (os : Os) (started : os.Started) (H : Type) (enc : TypeId × Value → H) :
    ReturnsInHanded {} Tryz.checked os 7 .any (fun w args => (Rows.saltPartsSpec.pre enc Tryz.checked.prog Tryz.f7 [] false w args ∧ laidMetH Tryz.prog laid4 w) ∧ sizedMet enc Tryz.checked.prog Tryz.f7 (OpenSpec.ofChange Rows.saltPartsSpec) false w args)
      (Rows.saltPartsSpec.post enc Tryz.checked.prog Tryz.f7 false true false false) := by
  refine returnsInHanded_of_change_and (C := Tryz.checked) (X := fun w _ => laidMetH Tryz.prog laid4 w) (fun _ _ _ hh h => h.of_heap hh) own started (by kernel_rfl) Tryz.func7 (parts_door enc os) ?_
  intro W base args ds gs before hval0 hW _ _ hL _
  have hval : ∀ (j : Nat) t v, Tryz.f7.params[j]? = some t → args[j]? = some v → Value.okWide Tryz.prog W .any base t v := hval0
  have hW' := hW
  obtain ⟨p, pq, hA0, hV, rfl, hfz, hnd⟩ := hW
  have hA : DataW.TrodAll enc Tryz.prog W 0 (fun _ => true) true Tryz.f7.params.toList args.toList ds p := hA0
  rw [Tryz.params7] at hA hval
  obtain ⟨v0, v1, v2, d0, d1, d2, p0, p1, p2, rfl, rfl, _, h0, h1, h2⟩ := trodAll_three hA
  obtain ⟨rfl, rfl⟩ := trodVars_none hV
  obtain ⟨E, rh⟩ := rh_laid hL
  obtain ⟨q0, hq1, hq2⟩ := empty_tab (id := 0) rh rfl
  obtain ⟨n, z, r0, _, hr0, hb0, hv0⟩ := tab_i16 (t := 108) (e := 109) Tryz.underlying108 Tryz.underlying109 (by kernel_rfl) (hval 0 _ v0 rfl rfl) h0 hq1 hq2
  obtain ⟨u, rfl⟩ := okWide_int (base := base) (t := 5) Tryz.underlying5 (hval 1 _ v1 rfl rfl)
  have hu : 0 ≤ u ∧ u ≤ 255 := by
    obtain ⟨fuel, h1⟩ := h1
    obtain ⟨a, k0, _, e0⟩ := DataW.trod_int Tryz.underlying5 h1
    injection k0 with k0 _
    injection k0 with _ k0
    subst k0
    exact u8_rng e0
  obtain ⟨q, w1, w2, r2, _, hr2, hb2, hv2⟩ := tab_iiL (t := 47) (e := 115) Tryz.underlying47 (by kernel_rfl) (hval 2 _ v2 rfl rfl) (fun hl ht => row_iiL ⟨_, _, Tryz.underlying115, rfl, rfl, rfl, rfl⟩ hl ht) h2 hq1 hq2
  obtain ⟨E2, rh2, hE2⟩ := rh_tabs (gl := glS) (ts := [⟨some 0, n, [.int .i16 z]⟩, ⟨some 1, q, [.int .i64 w1, .int .i64 w2]⟩]) (ps := [r0, r2]) rh (by kernel_rfl) (by simp) (by simp [glS, lim]) ⟨⟨hr0, hb0⟩, ⟨hr2, hb2⟩, trivial⟩
  refine (parts_word hu rh2 (hv0 E2 0 (hE2 0 r0 rfl)) (hv2 E2 1 (hE2 1 r2 rfl))).mono ?_
  rintro e W2 ⟨rfl, hb⟩
  exact ⟨_, rfl, post_true rfl rfl hW' hb rfl (by kernel_rfl)⟩

theorem saltParts_holds : Rows.SaltPartsSaid :=
  OpenClaim.holds_of_wide 7 Tryz.f7 rfl rfl rfl rfl rfl rfl rfl ⟨rfl, rfl, rfl, rfl, rfl⟩ rfl rfl rfl rfl rfl (by kernel_rfl) Tryz.func7 (by kernel_rfl)
    (of_decide_eq_true (by kernel_rfl)) (by unfold Func.isWrapper; first | (rw [if_pos (by decide +kernel)]; kernel_rfl) | (rw [if_neg (by decide +kernel)]; exact ⟨rfl, rfl⟩))
    (fun os started H enc _ => parts_lifted os started H enc)

theorem saltParts_card : Rows.SaltPartsCardSaid :=
  Claim7.holds_tied_plain_at .later [] [.data, .data, .data, .funcsDeep] true (true, "197792013b658a0d82f706d4f0e8d402b53190c89b5f8363fea59a134bd4fcea") false
    saltParts_holds (fun _ h => by cases h) (by kernel_rfl) (fun _ h => by cases h) saltParts_row_tie rfl ⟨rfl, rfl⟩ (by kernel_rfl) rfl
    (fun f fn hf hfn => by
      obtain rfl : f = 7 := Option.some.inj ((show Tryz.prog.funcNamed "spillage/spillagelaw08.SaltParts" = some 7 by kernel_rfl).symm.trans hf) |>.symm
      obtain rfl : fn = Tryz.f7 := (Option.some.inj (Tryz.func7.symm.trans hfn)).symm
      exact ⟨by kernel_rfl, fun j t ht => by
        rw [Tryz.params7] at ht
        have hm : t ∈ [108, 5, 47] := by simpa using Array.mem_of_getElem? ht
        have hall : ([108, 5, 47].all fun u => !Tryz.prog.wantsStandIn u) = true := by kernel_rfl
        exact (show Tryz.prog.wantsStandIn t = false by simpa using List.all_eq_true.1 hall t hm)⟩)
    (by kernel_rfl)
#print axioms saltParts_card
end Go.Proofs.YtlpchgidkibbeaaGreatDoor
