/- SaltKeeps: for every tank, two numbers of 16 bits and two of 8 the law returns true, and its arguments read afterwards as before. Conditions: the six listed variables hold what the program's text, or the form's own constant, lays in them (the card ties them to the text). -/
import Derived.Test.YtlpchgidkibbeaaGreatDoorRwx
import Derived.Test.YtlpchgidkibbeaaGreatDoorKeep
import Derived.Test.YtlpchgidkibbeaaGreatDoorRwk
import Derived.Test.YtlpchgidkibbeaaGreatDoorTie
import Derived.Test.YtlpchgidkibbeaaGreatDoorCards
import Derived.SevenTiedAt
namespace Go.Proofs.YtlpchgidkibbeaaGreatDoor
open Go.ChangeShapes Go.WideShapes Go.ChangeAt Go.RowKit Go.Ev
set_option maxRecDepth 100000
def keepsIn : Array Value := #[.agg #[.int .i64 0, .slice none 0 0], .agg #[.int .u16 0, .int .u16 0], .agg #[.int .u8 0, .int .u8 0]]
theorem keeps_door {H : Type} (enc : TypeId × Value → H) (os : Os) : ∃ (w : World) (tape : Tape) (i : Input), w.os = os ∧ (w.forCall tape i).Shaped Tryz.checked.prog ∧ i.vars = [] ∧ Input.okWide Tryz.checked.prog (w.forCall tape i) .any w.heap.size 11 i ∧
      ((Rows.saltKeepsSpec.pre enc Tryz.checked.prog Tryz.f11 [] false (w.forCall tape i).memory i.args ∧ laidMetH Tryz.prog laid6 (w.forCall tape i).memory) ∧ sizedMet enc Tryz.checked.prog Tryz.f11 (OpenSpec.ofChange Rows.saltKeepsSpec) false (w.forCall tape i).memory i.args) ∧ ({} : Assume).holds Tryz.checked.prog (lone (Frame.enter Tryz.checked.prog 11 i.args .normal) [] (w.forCall tape i)) :=
  ChangeSpec.witness_shaped (enc := enc) (C := Tryz.checked) (os := os) (X := fun w _ => laidMetH Tryz.prog laid6 w) false (door6 os) keepsIn 8 (door6_os os) (door6_shaped os _) (by kernel_rfl) (by kernel_rfl) (by kernel_rfl) (door6_met os _)
theorem cell_num {W : World} {r : Reach} {base : Nat} {t : TypeId} {k : IntKind} {x : Value} (ht : Tryz.prog.underlying t = some (.int k)) (h : Cell.okWide Tryz.prog W r base t x) : ∃ z, x = .int k z ∧ k.min ≤ z ∧ z ≤ k.max := by
 simp only [Cell.okWide, ht] at h
 cases x <;> simp_all [Cell.ok, IntKind.has]
theorem keeps_word (room x0 x1 y0 y1 : Int) (h0 : 0 ≤ x0 ∧ x0 ≤ 65535) (h1 : 0 ≤ x1 ∧ x1 ≤ 65535) (h2 : 0 ≤ y0 ∧ y0 ≤ 255) (h3 : 0 ≤ y1 ∧ y1 ≤ 255) {n : Nat} {z1 z2 : Nat → Int} {v : Value} {E : Env} {W : World} (rh : RH E (hpL1 n (tkC z1 z2)) W) (hv : (slT 0 2 n).Is E v) :
  Calls Tryz.prog 11 #[.agg #[Value.int .i64 room, v], .agg #[Value.int .u16 x0, Value.int .u16 x1], .agg #[Value.int .u8 y0, Value.int .u8 y1]] W fun e W' => e = .returned (.bool true) ∧ Below W.heap.size W W' := by
 refine (keeps_call n room x0 x1 y0 y1 z1 z2 h0.1 h0.2 h1.1 h1.2 h2.1 h2.2 h3.1 h3.2 E W [.agg #[Value.int .i64 room, v], .agg #[Value.int .u16 x0, Value.int .u16 x1], .agg #[Value.int .u8 y0, Value.int .u8 y1]] rh ⟨agg_is (l := [Value.int .i64 room, v]) ⟨⟨rfl, rfl⟩, hv, trivial⟩, agg_is (l := [Value.int .u16 x0, Value.int .u16 x1]) ⟨⟨rfl, rfl⟩, ⟨rfl, rfl⟩, trivial⟩, agg_is (l := [Value.int .u8 y0, Value.int .u8 y1]) ⟨⟨rfl, rfl⟩, ⟨rfl, rfl⟩, trivial⟩, trivial⟩).mono ?_
 rintro e W2 ⟨v, E', rfl, hv, hst⟩
 obtain ⟨rfl, _⟩ := hv
 exact ⟨rfl, below_of rfl rh hst⟩
theorem keeps_lifted (os : Os) (started : os.Started) (H : Type) (enc : TypeId × Value → H) :
  ReturnsInHanded {} Tryz.checked os 11 .any (fun w args => (Rows.saltKeepsSpec.pre enc Tryz.checked.prog Tryz.f11 [] false w args ∧ laidMetH Tryz.prog laid6 w) ∧ sizedMet enc Tryz.checked.prog Tryz.f11 (OpenSpec.ofChange Rows.saltKeepsSpec) false w args)
   (Rows.saltKeepsSpec.post enc Tryz.checked.prog Tryz.f11 false true false false) := by
 refine returnsInHanded_of_change_and (C := Tryz.checked) (X := fun w _ => laidMetH Tryz.prog laid6 w) (fun _ _ _ hh h => h.of_heap hh) own started (by kernel_rfl) Tryz.func11 (keeps_door enc os) ?_
 intro W base args ds gs before hval0 hW _ _ hL _
 have hval : ∀ (j : Nat) t v, Tryz.f11.params[j]? = some t → args[j]? = some v → Value.okWide Tryz.prog W .any base t v := hval0
 have hW' := hW
 obtain ⟨p, q, hA0, hV, rfl, hfz, hnd⟩ := hW
 have hA : DataW.TrodAll enc Tryz.prog W 0 (fun _ => true) true Tryz.f11.params.toList args.toList ds p := hA0
 rw [Tryz.params11] at hA hval
 obtain ⟨v0, v1, v2, d0, d1, d2, p0, p1, p2, rfl, rfl, _, h0, h1, h2⟩ := trodAll_three hA
 obtain ⟨rfl, rfl⟩ := trodVars_none hV
 obtain ⟨E, rh⟩ := rh_laid6 hL
 obtain ⟨q0, hq1, hq2⟩ := empty_tab (id := 0) rh rfl
 obtain ⟨room, sv, d', p', rfl, hsv, hst⟩ := tank_arg (hval 0 _ v0 rfl rfl) h0
 obtain ⟨l1, n1, rfl, c1⟩ := cells_of (ts := [147, 147]) ⟨_, Tryz.underlying148, rfl⟩ (by kernel_rfl) (by kernel_rfl) (hval 1 _ v1 rfl rfl)
 obtain ⟨u0, u1, rfl⟩ := list2 n1
 obtain ⟨x0, rfl, a1, a2⟩ := cell_num Tryz.underlying147 (c1 0 _ _ rfl rfl)
 obtain ⟨x1, rfl, a3, a4⟩ := cell_num Tryz.underlying147 (c1 1 _ _ rfl rfl)
 obtain ⟨l2, n2, rfl, c2⟩ := cells_of (ts := [5, 5]) ⟨_, Tryz.underlying149, rfl⟩ (by kernel_rfl) (by kernel_rfl) (hval 2 _ v2 rfl rfl)
 obtain ⟨u2, u3, rfl⟩ := list2 n2
 obtain ⟨y0, rfl, a5, a6⟩ := cell_num Tryz.underlying5 (c2 0 _ _ rfl rfl)
 obtain ⟨y1, rfl, a7, a8⟩ := cell_num Tryz.underlying5 (c2 1 _ _ rfl rfl)
 obtain ⟨n, z1, z2, q, hn, hq, hqb, hqv⟩ := tab_ii (t := 74) (e := 98) Tryz.underlying74 (by kernel_rfl) hsv (fun hl ht => row_ii ⟨_, _, Tryz.underlying98, rfl, rfl, rfl, rfl⟩ hl ht) hst hq1 hq2
 obtain ⟨E2, rh2, hE2⟩ := rh_tabs (gl := glS) (ts := [⟨some 0, n, tkC z1 z2⟩]) (ps := [q]) rh (by kernel_rfl) (by simp) (by simp [glS, lim]) ⟨⟨hq, hqb⟩, trivial⟩
 refine (keeps_word room x0 x1 y0 y1 ⟨a1, a2⟩ ⟨a3, a4⟩ ⟨a5, a6⟩ ⟨a7, a8⟩ rh2 (hqv E2 0 (hE2 0 q rfl))).mono ?_
 rintro e W2 ⟨rfl, hb⟩
 exact ⟨_, rfl, post_true rfl rfl hW' hb rfl (by kernel_rfl)⟩
theorem saltKeeps_holds : Rows.SaltKeepsSaid :=
 OpenClaim.holds_of_wide 11 Tryz.f11 rfl rfl rfl rfl rfl rfl rfl ⟨rfl, rfl, rfl, rfl, rfl⟩ rfl rfl rfl rfl rfl (by kernel_rfl) Tryz.func11 (by kernel_rfl)
  (of_decide_eq_true (by kernel_rfl)) (by unfold Func.isWrapper; first | (rw [if_pos (by decide +kernel)]; kernel_rfl) | (rw [if_neg (by decide +kernel)]; exact ⟨rfl, rfl⟩))
  (fun os started H enc _ => keeps_lifted os started H enc)
theorem saltKeeps_card : Rows.SaltKeepsCardSaid :=
 Claim7.holds_tied_plain_at .later [] [.data, .data, .data, .data, .funcsDeep, .pinned] true (true, "197792013b658a0d82f706d4f0e8d402b53190c89b5f8363fea59a134bd4fcea") false
  saltKeeps_holds (fun _ h => by cases h) (by kernel_rfl) (fun _ h => by cases h) saltKeeps_row_tie rfl ⟨rfl, rfl⟩ (by kernel_rfl) rfl
  (fun f fn hf hfn => by
   obtain rfl : f = 11 := Option.some.inj ((show Tryz.prog.funcNamed "spillage/spillagelaw08.SaltKeeps" = some 11 by kernel_rfl).symm.trans hf) |>.symm
   obtain rfl : fn = Tryz.f11 := (Option.some.inj (Tryz.func11.symm.trans hfn)).symm
   exact ⟨by kernel_rfl, fun j t ht => by
    rw [Tryz.params11] at ht
    have hm : t ∈ [76, 148, 149] := by simpa using Array.mem_of_getElem? ht
    have hall : ([76, 148, 149].all fun u => !Tryz.prog.wantsStandIn u) = true := by kernel_rfl
    exact (show Tryz.prog.wantsStandIn t = false by simpa using List.all_eq_true.1 hall t hm)⟩)
  (by kernel_rfl)
#print axioms saltKeeps_card
end Go.Proofs.YtlpchgidkibbeaaGreatDoor
