/- Told steps and three shares among the arguments. Conditions: none. -/
import Derived.Test.YtlpchgidkibbeaaGreatDoorRowU
import Derived.Laws.IdiomArrays
namespace Go.Proofs.YtlpchgidkibbeaaGreatDoor
open Go.ChangeShapes Go.WideShapes Go.ChangeAt Go.RowKit Go.Ev

set_option maxRecDepth 100000

theorem list4 {α : Type} : ∀ {l : List α}, l.length = 4 → ∃ x0 x1 x2 x3, l = [x0, x1, x2, x3]
  | [x0, x1, x2, x3], _ => ⟨x0, x1, x2, x3, rfl⟩
theorem cell_wide {W : World} {base : Nat} {t e : TypeId} {v : Value} (hu : Tryz.prog.underlying t = some (.slice e)) (h : Cell.okWide Tryz.prog W .any base t v) : Value.okWide Tryz.prog W .any base t v := by
  unfold Value.okWide
  rw [hu]
  exact h
/-- a cell of a slice's type is one cell -/
theorem slice_cells {W : World} {base : Nat} {t e : TypeId} {v : Value} (hu : Tryz.prog.underlying t = some (.slice e)) (h : Cell.okWide Tryz.prog W .any base t v) : v.cells.toList = [v] := by
  unfold Cell.okWide at h
  rw [hu] at h
  simp only at h
  unfold Cell.ok at h
  rw [hu] at h
  cases v <;> first | rfl | exact h.elim
theorem u8_range {x : Int} (h : (Lit.int .u8 x).wf = true) : 0 ≤ x ∧ x ≤ 255 := by
  have h : IntKind.u8.min ≤ x ∧ x ≤ IntKind.u8.max := by simpa [Lit.wf] using h
  have e1 : IntKind.u8.min = 0 := by decide
  have e2 : IntKind.u8.max = 255 := by decide
  omega
theorem chosen_arg {H : Type} {enc : TypeId × Value → H} {W : World} {base : Nat} {sv b0 b1 b2 : Value} {d : DataW H} {p : List MemPlace} (h : DataW.Trod enc Tryz.prog W 0 (fun _ => true) true 132 (.agg [sv, b0, b1, b2].toArray) d p) (hc : Cell.okWide Tryz.prog W .any base 26 sv) :
    ∃ x0 x1 x2 d' p', b0 = .int .u8 x0 ∧ b1 = .int .u8 x1 ∧ b2 = .int .u8 x2 ∧ (0 ≤ x0 ∧ x0 ≤ 255) ∧ (0 ≤ x1 ∧ x1 ≤ 255) ∧ (0 ≤ x2 ∧ x2 ≤ 255) ∧ DataW.Trod enc Tryz.prog W 0 (fun _ => true) true 26 sv d' p' := by
  have cS : Tryz.prog.cellsOf 26 = 1 := by kernel_rfl
  have cA : Tryz.prog.cellsOf 130 = 3 := by kernel_rfl
  have cB : Tryz.prog.cellsOf 5 = 1 := by kernel_rfl
  obtain ⟨fuel, h⟩ := h
  have h : DataW.trod enc Tryz.prog W 0 (fun _ => true) true fuel 132 [sv, b0, b1, b2] = some (d, p) := h
  obtain ⟨y0, y1, n, i0, i1⟩ := trod_struct2 Tryz.underlying132 h
  have i0 : DataW.trod enc Tryz.prog W 0 (fun _ => true) true n 26 (([sv, b0, b1, b2].drop 0).take (Tryz.prog.cellsOf 26)) = some y0 := i0
  have i1 : DataW.trod enc Tryz.prog W 0 (fun _ => true) true n 130 (([sv, b0, b1, b2].drop 1).take (Tryz.prog.cellsOf 130)) = some y1 := i1
  rw [cS] at i0
  rw [cA] at i1
  simp only [List.drop_zero, List.drop_succ_cons, List.take_succ_cons, List.take_zero] at i0 i1
  obtain ⟨w0, w1, w2, m, _, j0, j1, j2⟩ := trod_array3 Tryz.underlying130 cB i1
  obtain ⟨x0, k0, _, e0⟩ := DataW.trod_int Tryz.underlying5 j0
  obtain ⟨x1, k1, _, e1⟩ := DataW.trod_int Tryz.underlying5 j1
  obtain ⟨x2, k2, _, e2⟩ := DataW.trod_int Tryz.underlying5 j2
  injection k0 with k0 _
  injection k1 with k1 _
  injection k2 with k2 _
  exact ⟨x0, x1, x2, y0.1, y0.2, k0, k1, k2, u8_range e0, u8_range e1, u8_range e2, n, by rw [slice_cells Tryz.underlying26 hc]; exact i0⟩
end Go.Proofs.YtlpchgidkibbeaaGreatDoor
