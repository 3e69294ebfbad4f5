/- Lists of short numbers among the arguments. Conditions: none. -/
import Derived.Test.YtlpchgidkibbeaaGreatDoorRowL
namespace Go.Proofs.YtlpchgidkibbeaaGreatDoor
open Go.ChangeShapes Go.WideShapes Go.ChangeAt Go.RowKit Go.Ev

set_option maxRecDepth 100000

/-- a list of numbers of 16 bits as a table: its cells at a place of memory; and what it is as a value -/
theorem tab_i16 {H : Type} {enc : TypeId × Value → H} {W : World} {base : Nat} {t e : TypeId} {v : Value} {d : DataW H} {p : List MemPlace} (hu : Tryz.prog.underlying t = some (.slice e)) (he : Tryz.prog.underlying e = some (.int .i16)) (hc : Tryz.prog.cellsOf e = 1) (hv : Value.okWide Tryz.prog W .any base t v)
    (h : DataW.Trod enc Tryz.prog W 0 (fun _ => true) true t v d p) {q0 : Nat × Nat × Nat} (hq1 : q0.1 < W.heap.size) (hq2 : ∀ E' cols, blkIs E' W q0 ⟨true, 0, .rows 0 cols⟩) :
    ∃ (n : Nat) (z : Nat → Int) (q : Nat × Nat × Nat), n ≤ 9223372036854775807 ∧ q.1 < W.heap.size ∧ (∀ E', blkIs E' W q ⟨true, 0, .rows n [.int .i16 z]⟩) ∧ ∀ (E' : Env) (j : Nat), E' j = some q → (slT j 1 n).Is E' v := by
  obtain ⟨fuel, h⟩ := h
  rcases slice_arg hu hv h with rfl | ⟨b, o, len, cap, arr, ty, fz, rfl, h1, h2, hh, hx⟩
  · exact ⟨0, fun _ => 0, q0, by omega, hq1, fun E' => hq2 E' _, fun E' j _ => .inr ⟨rfl, rfl, rfl⟩⟩
  · rw [hc] at hx
    have hrow : ∀ i, i < len → ∃ y : Int, arr[o + (i * 1 + 0)]? = some (.int .i16 y) := fun i hi => by
      obtain ⟨cs, n, x, hl, hj, ht⟩ := hx i hi
      match cs, hl with
      | [u], _ =>
        obtain ⟨a, k0, _⟩ := DataW.trod_int he ht
        injection k0 with k0 _
        exact ⟨a, (hj 0 (by omega)).trans (by rw [k0]; rfl)⟩
    obtain ⟨f, hf⟩ := Go.Deep.choose_lt hrow
    refine ⟨len, f, (b, arr.size, o), by unfold maxLen at h2; omega, (Array.getElem?_eq_some_iff.1 hh).1, fun E' => ?_, fun E' j hj => .inl ⟨b, (arr.size, o), o, cap, hj, rfl, h1, h2, fun _ => by simp, fun e => by cases e⟩⟩
    refine .inl ⟨arr, fz, ⟨ty, hh, fun e => by cases e⟩, rfl, ⟨fun e => (by cases e), fun k j c hk hj => ?_⟩, fun cs e => by cases e⟩
    have hk : k < len := hk
    have f0 := hf k hk
    show ∃ x, (vw o arr)[k * 1 + j]? = some x ∧ _
    rw [vw_get]
    match j, hj with
    | 0, hj => injection hj with hj; subst hj; exact ⟨_, f0, rfl, rfl⟩
    | j + 1, hj => cases hj
theorem u8_rng {x : Int} (h : (Lit.int .u8 x).wf = true) : 0 ≤ x ∧ x ≤ 255 := by
  have h : IntKind.u8.min ≤ x ∧ x ≤ IntKind.u8.max := by simpa [Lit.wf] using h
  have e1 : IntKind.u8.min = 0 := by decide
  have e2 : IntKind.u8.max = 255 := by decide
  omega
end Go.Proofs.YtlpchgidkibbeaaGreatDoor
