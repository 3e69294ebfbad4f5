/- TopQuartzDay: for every sky and every cone the law returns true, and its arguments read afterwards as before. Conditions: none. -/
import Derived.Test.YtjckcdpjibfacaaGreatRowT
import Derived.Test.YtjckcdpjibfacaaGreatQzd
import Derived.Handed
import Derived.SizedLaws
namespace Go.Proofs.YtjckcdpjibfacaaGreat
open Go.ChangeShapes Go.WideShapes Go.ChangeAt Go.RowKit Go.Ev
set_option maxRecDepth 100000
theorem cone_is {E : Env} (x y z num den : Int) : (A.agg (conC x y z num den)).Is E (.agg #[.int .i64 x, .int .i64 y, .int .i64 z, .int .i64 num, .int .i64 den]) :=
 agg_is (l := [.int .i64 x, .int .i64 y, .int .i64 z, .int .i64 num, .int .i64 den]) ⟨⟨rfl, rfl⟩, ⟨rfl, rfl⟩, ⟨rfl, rfl⟩, ⟨rfl, rfl⟩, ⟨rfl, rfl⟩, trivial⟩
theorem day_word (nm : ByteArray) {n : Nat} {z0 z1 z2 z3 : Nat → Int} {v : Value} (x y z num den : Int) {E : Env} {W : World} (rh : RH E (dxHp n z0 z1 z2 z3) W) (hv : (slT 0 4 n).Is E v) :
  Calls Tryz.prog 3 #[.agg #[.string nm, v], .agg #[.int .i64 x, .int .i64 y, .int .i64 z, .int .i64 num, .int .i64 den]] W fun e W' => e = .returned (.bool true) ∧ Below W.heap.size W W' := by
 refine (qz_call nm n z0 z1 z2 z3 x y z num den E W [.agg #[.string nm, v], .agg #[.int .i64 x, .int .i64 y, .int .i64 z, .int .i64 num, .int .i64 den]] rh ⟨agg_is (l := [.string nm, v]) ⟨⟨rfl, rfl⟩, hv, trivial⟩, cone_is x y z num den, trivial⟩).mono ?_
 rintro e W2 ⟨v, E', rfl, hv, hst⟩
 obtain ⟨rfl, _⟩ := hv
 exact ⟨rfl, below_of rfl rh hst⟩
theorem day_word0 (nm : ByteArray) (x y z num den : Int) {E : Env} {W : World} (rh : RH E (dxH0 (fun _ => 0) (fun _ => 0) (fun _ => 0) (fun _ => 0)) W) :
  Calls Tryz.prog 3 #[.agg #[.string nm, .slice none 0 0], .agg #[.int .i64 x, .int .i64 y, .int .i64 z, .int .i64 num, .int .i64 den]] W fun e W' => e = .returned (.bool true) ∧ Below W.heap.size W W' := by
 refine (qz_nil nm (fun _ => 0) (fun _ => 0) (fun _ => 0) (fun _ => 0) x y z num den E W [.agg #[.string nm, .slice none 0 0], .agg #[.int .i64 x, .int .i64 y, .int .i64 z, .int .i64 num, .int .i64 den]] rh ⟨agg_is (l := [.string nm, .slice none 0 0]) ⟨⟨rfl, rfl⟩, ⟨rfl, rfl⟩, trivial⟩, cone_is x y z num den, trivial⟩).mono ?_
 rintro e W2 ⟨v, E', rfl, hv, hst⟩
 obtain ⟨rfl, _⟩ := hv
 exact ⟨rfl, below_of rfl rh hst⟩
theorem day_lifted (os : Os) (started : os.Started) (H : Type) (enc : TypeId × Value → H) :
  ReturnsInHanded {} Tryz.checked os 3 .any (Rows.topQuartzDaySpec.pre6 enc Tryz.checked.prog Tryz.f3 Rows.topQuartzDayRow.domain false) (Rows.topQuartzDaySpec.post enc Tryz.checked.prog Tryz.f3 false true false false) := by
 refine returnsInHanded_of_change_sized (C := Tryz.checked) own started (by kernel_rfl) Tryz.func3
  (ChangeSpec.witness6 (enc := enc) (C := Tryz.checked) false ⟨#[], #[.agg #[.string ⟨#[]⟩, .slice none 0 0], .agg #[.int .i64 0, .int .i64 0, .int .i64 0, .int .i64 0, .int .i64 0]], []⟩ 8 (by kernel_rfl) (by kernel_rfl) (by kernel_rfl) (by kernel_rfl)) ?_
 intro W base args ds gs before hval0 hW _ _ _
 have hval : ∀ (j : Nat) t v, Tryz.f3.params[j]? = some t → args[j]? = some v → Value.okWide Tryz.prog W .any base t v := hval0
 have hW' := hW
 obtain ⟨p, q, hA0, hV, rfl, hfz, hnd⟩ := hW
 have hA : DataW.TrodAll enc Tryz.prog W 0 (fun _ => true) true Tryz.f3.params.toList args.toList ds p := hA0
 rw [Tryz.params3] at hA hval
 obtain ⟨v0, v1, d0, d1, p0, p1, rfl, rfl, _, h0, h1⟩ := trodAll_two hA
 obtain ⟨rfl, rfl⟩ := trodVars_none hV
 obtain ⟨E, rh⟩ := rh_none W
 obtain ⟨nm, sv, d', p', rfl, hsv, hst⟩ := sky_arg (hval 0 _ v0 rfl rfl) h0
 obtain ⟨x, y, z, num, den, rfl⟩ := cone_arg (hval 1 _ v1 rfl rfl)
 have hend : ∀ {e : Ending} {W2 : World}, e = .returned (.bool true) ∧ Below W.heap.size W W2 → ∃ v, e = .returned v ∧ Rows.topQuartzDaySpec.post enc Tryz.checked.prog Tryz.f3 false true false false W #[.agg #[.string nm, sv], .agg #[.int .i64 x, .int .i64 y, .int .i64 z, .int .i64 num, .int .i64 den]] v W2 := by
  rintro e W2 ⟨rfl, hb⟩
  exact ⟨_, rfl, post_true rfl rfl hW' hb rfl (by kernel_rfl)⟩
 rcases tab_sun hsv hst with rfl | ⟨n, z0, z1, z2, z3, q, hn, hq, hqb, hqv⟩
 ·exact (day_word0 nm x y z num den rh).mono fun e W2 h => hend h
 ·obtain ⟨E2, rh2, hE2⟩ := rh_tabs (gl := []) (ts := [⟨some 0, n, skC z0 z1 z2 z3⟩]) (ps := [q]) rh (by kernel_rfl) (by simp) (by simp [lim]) ⟨⟨hq, hqb⟩, trivial⟩
  exact (day_word nm x y z num den rh2 (hqv E2 0 (hE2 0 q rfl))).mono fun e W2 h => hend h
theorem topQuartzDay_holds : Rows.TopQuartzDaySaid :=
 OpenClaim.holds_of_wide 3 Tryz.f3 rfl rfl rfl rfl rfl rfl rfl ⟨rfl, rfl, rfl, rfl, rfl⟩ rfl rfl rfl rfl rfl (by kernel_rfl) Tryz.func3 (by kernel_rfl)
  (of_decide_eq_true (by kernel_rfl)) (by unfold Func.isWrapper; first | (rw [if_pos (by decide +kernel)]; kernel_rfl) | (rw [if_neg (by decide +kernel)]; exact ⟨rfl, rfl⟩))
  (fun os started H enc _ => day_lifted os started H enc)
#print axioms topQuartzDay_holds
end Go.Proofs.YtjckcdpjibfacaaGreat
