/- Rows with six listed variables: what they give the evaluator; a world in which they hold what the program's text, or the form's own constant, lays in them. Conditions: none. -/
import Derived.Test.YtlpchgidkibbeaaGreatDoorRow
import Derived.LaidHandle
import Derived.Deep.DeepLaidRun
import Derived.Lay
namespace Go.Proofs.YtlpchgidkibbeaaGreatDoor
open Go.ChangeShapes Go.WideShapes Go.ChangeAt Go.RowKit Go.Ev

set_option maxRecDepth 100000

def laid5 : List (String × DataW Unit) := [("math/bits.deBruijn32tab", Rows.laid_math_bits_deBruijn32tab), ("math/bits.deBruijn64tab", Rows.laid_math_bits_deBruijn64tab), ("internal/strconv.uint64pow10", Rows.laid_internal_strconv_uint64pow10), ("unicode/utf8.acceptRanges", Rows.laid_unicode_utf8_acceptRanges), ("unicode/utf8.first", Rows.laid_unicode_utf8_first)]
def laid6 : List (String × DataW Unit) := [("math/bits.deBruijn32tab", Rows.laid_math_bits_deBruijn32tab), ("math/bits.deBruijn64tab", Rows.laid_math_bits_deBruijn64tab), ("internal/strconv.uint64pow10", Rows.laid_internal_strconv_uint64pow10), ("unicode/utf8.acceptRanges", Rows.laid_unicode_utf8_acceptRanges), ("spillage/salt.acts", Rows.laid_spillage_salt_acts), ("unicode/utf8.first", Rows.laid_unicode_utf8_first)]
theorem plain5 : (laid6.filter fun x => x.2.handleName?.isNone) = laid5 := by kernel_rfl
theorem rh_laid6 {W : World} (h : laidMetH Tryz.prog laid6 W) : ∃ E : Env, RH E hpS W := by
  obtain ⟨hd, _⟩ := laidMetH_iff.1 h
  rw [plain5] at hd
  obtain ⟨ps, hv, _, _⟩ := hd
  obtain ⟨g2, t2, c2, f2, p2, hg2, ht2, hv2, _, _, _, _, hd2⟩ := laidVar hv "internal/strconv.uint64pow10" Rows.laid_internal_strconv_uint64pow10 (by simp [laid5])
  have hm : ("spillage/salt.acts", DataW.iface "func table" (actsIn Rows.laid_spillage_salt_acts)) ∈ laid6 := by
    have e : DataW.iface "func table" (actsIn Rows.laid_spillage_salt_acts) = Rows.laid_spillage_salt_acts := by kernel_rfl
    rw [e]
    simp [laid6]
  obtain ⟨g1, t1, c1, f1, p1, hg1, ht1, hv1, hd1⟩ := h.funcs hm
  obtain rfl := Option.some.inj (gActs.symm.trans hg1)
  obtain rfl := Option.some.inj (gPow.symm.trans hg2)
  have tA : (Tryz.prog.globals[0]?).map (·.type) = some 246 := by kernel_rfl
  have tP : (Tryz.prog.globals[2]?).map (·.type) = some 278 := by kernel_rfl
  obtain rfl := Option.some.inj (tA.symm.trans ht1)
  obtain rfl := Option.some.inj (tP.symm.trans ht2)
  have k1 := acts_cells hd1
  have k2 : c2.toList = Lib.pow10Tab.map fun z => Value.int .u64 z := Lib.cells_of_tab Tryz.underlying278 Tryz.underlying269 (by kernel_rfl) (by kernel_rfl) hd2
  obtain ⟨e1, fz1, b1⟩ := var_block gActs hv1
  obtain ⟨e2, fz2, b2⟩ := var_block gPow hv2
  refine rh_ro (vs := [(0, actsL), (2, Lib.pow10Tab.map fun n => .lit (.int .u64 n))]) (by simp [lim]) (fun g id hg => ?_) (fun i g cs hi => ?_)
  · unfold lookupN at hg
    split at hg
    · rename_i e
      obtain rfl := Nat.eq_of_beq_eq_true e
      injection hg with hg; subst hg
      exact ⟨_, rfl⟩
    · unfold lookupN at hg
      split at hg
      · rename_i e
        obtain rfl := Nat.eq_of_beq_eq_true e
        injection hg with hg; subst hg
        exact ⟨_, rfl⟩
      · cases hg
  · match i, hi with
    | 0, hi =>
      injection hi with hi
      injection hi with hi hi2; subst hi; subst hi2
      exact ⟨c1, e1, fz1, b1, fun E => by rw [k1]; exact acts_is⟩
    | 1, hi =>
      injection hi with hi
      injection hi with hi hi2; subst hi; subst hi2
      exact ⟨c2, e2, fz2, b2, fun E => by rw [k2]; exact ints_is⟩
    | i + 2, hi => cases hi

noncomputable def door0 (os : Os) : World := World.doorLaid Tryz.prog 60 os
noncomputable def door6 (os : Os) : World := (door0 os).layVars Tryz.prog laid5
theorem door6_os (os : Os) : (door6 os).os = os := World.layVars_os _ _ _
theorem door6_plain (os : Os) : laidMet Tryz.prog laid5 (door6 os) := by
  have e1 : (laid5.filter fun x => (laid5.map (·.1)).contains x.1) = laid5 := List.filter_eq_self.2 fun x hx => List.contains_iff_mem.2 (List.mem_map.2 ⟨x, hx, rfl⟩)
  have e2 : (laid5.filter fun x => !(laid5.map (·.1)).contains x.1) = [] := List.filter_eq_nil_iff.2 fun x hx => by rw [List.contains_iff_mem.2 (List.mem_map.2 ⟨x, hx, rfl⟩)]; simp
  exact laidMet_layVars (w0 := door0 os) (laid5.map (·.1)) [] (by rw [e1]; rfl) (by rw [e1]; kernel_rfl) (by rw [e1]; kernel_rfl) (by rw [e2]; exact LaidIn.none)
theorem door6_met (os : Os) (args : Array Value) : laidMetH Tryz.prog laid6 ((door6 os).forCall (fun _ _ => 0) ⟨#[], args, []⟩).memory :=
  laidMetH_of_parts3 (fuel := 8) (by rw [plain5]; exact (door6_plain os).of_heap (by simp [World.memory, World.forCall, Input.heap])) (by kernel_rfl) (by kernel_rfl)
theorem door6_shaped (os : Os) (args : Array Value) : ((door6 os).forCall (fun _ _ => 0) ⟨#[], args, []⟩).Shaped Tryz.prog := World.shaped_of_ZipB (by kernel_rfl) (by kernel_rfl)
end Go.Proofs.YtlpchgidkibbeaaGreatDoor
