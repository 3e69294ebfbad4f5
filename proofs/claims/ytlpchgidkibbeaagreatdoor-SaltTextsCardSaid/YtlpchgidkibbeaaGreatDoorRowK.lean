/- Tanks among the arguments. Conditions: none. -/
import Derived.Test.YtlpchgidkibbeaaGreatDoorRowT
import Derived.Test.YtlpchgidkibbeaaGreatDoorTank1
import Derived.ChangeSame
namespace Go.Proofs.YtlpchgidkibbeaaGreatDoor
open Go.ChangeShapes Go.WideShapes Go.ChangeAt Go.RowKit Go.Ev

set_option maxRecDepth 100000

theorem cell_wide {W : World} {base : Nat} {t e : TypeId} {v : Value} (hu : Tryz.prog.underlying t = some (.slice e)) (h : Cell.okWide Tryz.prog W .any base t v) : Value.okWide Tryz.prog W .any base t v := by
  unfold Value.okWide
  rw [hu]
  exact h
/-- a cell of a slice's type is one cell -/
theorem slice_cells {W : World} {base : Nat} {t e : TypeId} {v : Value} (hu : Tryz.prog.underlying t = some (.slice e)) (h : Cell.okWide Tryz.prog W .any base t v) : v.cells.toList = [v] := by
  unfold Cell.okWide at h
  rw [hu] at h
  simp only at h
  unfold Cell.ok at h
  rw [hu] at h
  cases v <;> first | rfl | exact h.elim
/-- a row of two numbers -/
theorem row_ii {H : Type} {enc : TypeId × Value → H} {W : World} {n : Nat} {t : TypeId} {cs : List Value} {x : DataW H × List MemPlace} (hu : ∃ f0 f1 : Field, Tryz.prog.underlying t = some (.struct #[f0, f1]) ∧ f0.type = 3 ∧ f1.type = 3 ∧ f0.offset = 0 ∧ f1.offset = 1) (hl : cs.length = 2)
    (h : DataW.trod enc Tryz.prog W 0 (fun _ => true) true n t cs = some x) : ∃ a b : Int, cs = [.int .i64 a, .int .i64 b] := by
  obtain ⟨f0, f1, hs, t0, t1, o0, o1⟩ := hu
  have cI : Tryz.prog.cellsOf 3 = 1 := by kernel_rfl
  obtain ⟨y0, y1, m, hx, _, h0, h1⟩ := Go.ChangeShapes.trod_struct2 hs h
  match cs, hl with
  | [u, v], _ =>
    rw [t0, o0, cI] at h0
    rw [t1, o1, cI] at h1
    simp only [List.drop_zero, List.drop_succ_cons, List.take_succ_cons, List.take_zero] at h0 h1
    obtain ⟨a, k0, _⟩ := DataW.trod_int Tryz.underlying3 h0
    obtain ⟨b, k1, _⟩ := DataW.trod_int Tryz.underlying3 h1
    injection k0 with k0 _
    injection k1 with k1 _
    exact ⟨a, b, by rw [k0, k1]⟩
/-- a list of such rows as a table: its cells at a place of memory; and what it is as a value -/
theorem tab_ii {H : Type} {enc : TypeId × Value → H} {W : World} {base : Nat} {t e : TypeId} {v : Value} {d : DataW H} {p : List MemPlace} (hu : Tryz.prog.underlying t = some (.slice e)) (hc : Tryz.prog.cellsOf e = 2) (hv : Value.okWide Tryz.prog W .any base t v)
    (hr : ∀ {n : Nat} {cs : List Value} {x : DataW H × List MemPlace}, cs.length = 2 → DataW.trod enc Tryz.prog W 0 (fun _ => true) true n e cs = some x → ∃ a b : Int, cs = [.int .i64 a, .int .i64 b])
    (h : DataW.Trod enc Tryz.prog W 0 (fun _ => true) true t v d p) {q0 : Nat × Nat × Nat} (hq1 : q0.1 < W.heap.size) (hq2 : ∀ E' cols, blkIs E' W q0 ⟨true, 0, .rows 0 cols⟩) :
    ∃ (n : Nat) (z1 z2 : Nat → Int) (q : Nat × Nat × Nat), n ≤ 9223372036854775807 ∧ q.1 < W.heap.size ∧ (∀ E', blkIs E' W q ⟨true, 0, .rows n (tkC z1 z2)⟩) ∧ ∀ (E' : Env) (j : Nat), E' j = some q → (slT j 2 n).Is E' v := by
  obtain ⟨fuel, h⟩ := h
  rcases slice_arg hu hv h with rfl | ⟨b, o, len, cap, arr, ty, fz, rfl, h1, h2, hh, hx⟩
  · exact ⟨0, fun _ => 0, fun _ => 0, q0, by omega, hq1, fun E' => hq2 E' _, fun E' j _ => .inr ⟨rfl, rfl, rfl⟩⟩
  · rw [hc] at hx
    have hrow : ∀ i, i < len → ∃ y : Int × Int, arr[o + (i * 2 + 0)]? = some (.int .i64 y.1) ∧ arr[o + (i * 2 + 1)]? = some (.int .i64 y.2) := fun i hi => by
      obtain ⟨cs, n, x, hl, hj, ht⟩ := hx i hi
      obtain ⟨a, b', rfl⟩ := hr hl ht
      exact ⟨(a, b'), hj 0 (by omega), hj 1 (by omega)⟩
    obtain ⟨f, hf⟩ := Go.Deep.choose_lt hrow
    refine ⟨len, fun i => (f i).1, fun i => (f i).2, (b, arr.size, o), by unfold maxLen at h2; omega, (Array.getElem?_eq_some_iff.1 hh).1, fun E' => ?_, fun E' j hj => .inl ⟨b, (arr.size, o), o, cap, hj, rfl, h1, h2, fun _ => by simp, fun e => by cases e⟩⟩
    refine .inl ⟨arr, fz, ⟨ty, hh, fun e => by cases e⟩, rfl, ⟨fun e => (by cases e), fun k j c hk hj => ?_⟩, fun cs e => by cases e⟩
    have hk : k < len := hk
    obtain ⟨f0, f1⟩ := hf k hk
    show ∃ x, (vw o arr)[k * 2 + j]? = some x ∧ _
    rw [vw_get]
    match j, hj with
    | 0, hj => injection hj with hj; subst hj; exact ⟨_, f0, rfl, rfl⟩
    | 1, hj => injection hj with hj; subst hj; exact ⟨_, f1, rfl, rfl⟩
    | j + 2, hj => cases hj
theorem list2 {α : Type} : ∀ {l : List α}, l.length = 2 → ∃ x0 x1, l = [x0, x1]
  | [x0, x1], _ => ⟨x0, x1, rfl⟩
/-- a tank among the arguments: its room, and its layers as a list -/
theorem tank_arg {H : Type} {enc : TypeId × Value → H} {W : World} {base : Nat} {v : Value} {d : DataW H} {p : List MemPlace} (hv : Value.okWide Tryz.prog W .any base 76 v) (h : DataW.Trod enc Tryz.prog W 0 (fun _ => true) true 76 v d p) :
    ∃ (room : Int) (sv : Value) (d' : DataW H) (p' : List MemPlace), v = .agg #[.int .i64 room, sv] ∧ Value.okWide Tryz.prog W .any base 74 sv ∧ DataW.Trod enc Tryz.prog W 0 (fun _ => true) true 74 sv d' p' := by
  obtain ⟨l0, n0, rfl, c0⟩ := cells_of (ts := [3, 74]) ⟨_, Tryz.underlying76, rfl⟩ (by kernel_rfl) (by kernel_rfl) hv
  obtain ⟨b0, sv, rfl⟩ := list2 n0
  obtain ⟨room, rfl⟩ := cell_int (c0 0 _ _ rfl rfl)
  have hs := c0 1 _ _ rfl rfl
  have cI : Tryz.prog.cellsOf 3 = 1 := by kernel_rfl
  have cS : Tryz.prog.cellsOf 74 = 1 := by kernel_rfl
  obtain ⟨fuel, h⟩ := h
  have h : DataW.trod enc Tryz.prog W 0 (fun _ => true) true fuel 76 [.int .i64 room, sv] = some (d, p) := h
  obtain ⟨y0, y1, n, _, _, i0, i1⟩ := Go.ChangeShapes.trod_struct2 Tryz.underlying76 h
  have i1 : DataW.trod enc Tryz.prog W 0 (fun _ => true) true n 74 (([Value.int .i64 room, sv].drop 1).take (Tryz.prog.cellsOf 74)) = some y1 := i1
  rw [cS] at i1
  simp only [List.drop_zero, List.drop_succ_cons, List.take_succ_cons, List.take_zero] at i1
  exact ⟨room, sv, y1.1, y1.2, rfl, cell_wide Tryz.underlying74 hs, n, by rw [slice_cells Tryz.underlying74 hs]; exact i1⟩
end Go.Proofs.YtlpchgidkibbeaaGreatDoor
