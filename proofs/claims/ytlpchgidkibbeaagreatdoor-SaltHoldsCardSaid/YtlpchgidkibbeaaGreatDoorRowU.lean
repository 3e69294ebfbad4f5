/- Rows of told steps among the arguments. Conditions: none. -/
import Derived.Test.YtlpchgidkibbeaaGreatDoorRowT
import Derived.Test.YtlpchgidkibbeaaGreatDoorTScan
namespace Go.Proofs.YtlpchgidkibbeaaGreatDoor
open Go.ChangeShapes Go.WideShapes Go.ChangeAt Go.RowKit Go.Ev

set_option maxRecDepth 100000

theorem trod_struct2 {H : Type} {enc : TypeId × Value → H} {P : Program} {w : World} {base : Nat} {spare : Nat → Bool} {held : Bool} {t : TypeId} {f0 f1 : Field} {fuel : Nat} {cs : List Value} {x : DataW H × List MemPlace} (ht : P.underlying t = some (.struct #[f0, f1])) (h : DataW.trod enc P w base spare held fuel t cs = some x) :
    ∃ y0 y1 n, DataW.trod enc P w base spare held n f0.type ((cs.drop f0.offset).take (P.cellsOf f0.type)) = some y0 ∧ DataW.trod enc P w base spare held n f1.type ((cs.drop f1.offset).take (P.cellsOf f1.type)) = some y1 := by
  obtain ⟨xs, n, _, rfl, hl, hlen, hf⟩ := DataW.trod_struct ht h
  match xs, hlen with
  | [y0, y1], _ => exact ⟨y0, y1, n, by simpa using hf 0 f0 rfl, by simpa using hf 1 f1 rfl⟩
/-- a row of one string, two numbers in a record of their own, and one more -/
theorem row_siii {H : Type} {enc : TypeId × Value → H} {W : World} {n : Nat} {t u : TypeId} {cs : List Value} {x : DataW H × List MemPlace} (hu : ∃ f0 f1 f2 : Field, Tryz.prog.underlying t = some (.struct #[f0, f1, f2]) ∧ f0.type = 9 ∧ f1.type = u ∧ f2.type = 3 ∧ f0.offset = 0 ∧ f1.offset = 1 ∧ f2.offset = 3)
    (hw : ∃ g0 g1 : Field, Tryz.prog.underlying u = some (.struct #[g0, g1]) ∧ g0.type = 3 ∧ g1.type = 3 ∧ g0.offset = 0 ∧ g1.offset = 1) (hcu : Tryz.prog.cellsOf u = 2) (hl : cs.length = 4)
    (h : DataW.trod enc Tryz.prog W 0 (fun _ => true) true n t cs = some x) : ∃ (s : ByteArray) (a b d : Int), cs = [.string s, .int .i64 a, .int .i64 b, .int .i64 d] := by
  obtain ⟨f0, f1, f2, hs, t0, t1, t2, o0, o1, o2⟩ := hu
  obtain ⟨g0, g1, hs2, v0, v1, p0, p1⟩ := hw
  have cS : Tryz.prog.cellsOf 9 = 1 := by kernel_rfl
  have cI : Tryz.prog.cellsOf 3 = 1 := by kernel_rfl
  obtain ⟨y0, y1, y2, m, hx, _, h0, h1, h2⟩ := Go.Deep.trod_struct3 hs h
  match cs, hl with
  | [w0, w1, w2, w3], _ =>
    rw [t0, o0, cS] at h0
    rw [t1, o1, hcu] at h1
    rw [t2, o2, cI] at h2
    simp only [List.drop_zero, List.drop_succ_cons, List.take_succ_cons, List.take_zero] at h0 h1 h2
    obtain ⟨z0, z1, m', i0, i1⟩ := trod_struct2 hs2 h1
    rw [v0, p0, cI] at i0
    rw [v1, p1, cI] at i1
    simp only [List.drop_zero, List.drop_succ_cons, List.take_succ_cons, List.take_zero] at i0 i1
    obtain ⟨s, k0, _⟩ := DataW.trod_string Tryz.underlying9 h0
    obtain ⟨a, k1, _⟩ := DataW.trod_int Tryz.underlying3 i0
    obtain ⟨b, k2, _⟩ := DataW.trod_int Tryz.underlying3 i1
    obtain ⟨d, k3, _⟩ := DataW.trod_int Tryz.underlying3 h2
    injection k0 with k0 _
    injection k1 with k1 _
    injection k2 with k2 _
    injection k3 with k3 _
    exact ⟨s, a, b, d, by rw [k0, k1, k2, k3]⟩
/-- a list of such rows as a table: its cells at a place of memory; and what it is as a value -/
theorem tab_siii {H : Type} {enc : TypeId × Value → H} {W : World} {base : Nat} {t e : TypeId} {v : Value} {d : DataW H} {p : List MemPlace} (hu : Tryz.prog.underlying t = some (.slice e)) (hc : Tryz.prog.cellsOf e = 4) (hv : Value.okWide Tryz.prog W .any base t v)
    (hr : ∀ {n : Nat} {cs : List Value} {x : DataW H × List MemPlace}, cs.length = 4 → DataW.trod enc Tryz.prog W 0 (fun _ => true) true n e cs = some x → ∃ (s : ByteArray) (a b d : Int), cs = [.string s, .int .i64 a, .int .i64 b, .int .i64 d])
    (h : DataW.Trod enc Tryz.prog W 0 (fun _ => true) true t v d p) {q0 : Nat × Nat × Nat} (hq1 : q0.1 < W.heap.size) (hq2 : ∀ E' cols, blkIs E' W q0 ⟨true, 0, .rows 0 cols⟩) :
    ∃ (n : Nat) (z0 : Nat → ByteArray) (z1 z2 z3 : Nat → Int) (q : Nat × Nat × Nat), n ≤ 9223372036854775807 ∧ q.1 < W.heap.size ∧ (∀ E', blkIs E' W q ⟨true, 0, .rows n (st4 z0 z1 z2 z3)⟩) ∧ ∀ (E' : Env) (j : Nat), E' j = some q → (slT j 4 n).Is E' v := by
  obtain ⟨fuel, h⟩ := h
  rcases slice_arg hu hv h with rfl | ⟨b, o, len, cap, arr, ty, fz, rfl, h1, h2, hh, hx⟩
  · exact ⟨0, fun _ => emptyB, fun _ => 0, fun _ => 0, fun _ => 0, q0, by omega, hq1, fun E' => hq2 E' _, fun E' j _ => .inr ⟨rfl, rfl, rfl⟩⟩
  · rw [hc] at hx
    have hrow : ∀ i, i < len → ∃ y : ByteArray × Int × Int × Int, arr[o + (i * 4 + 0)]? = some (.string y.1) ∧ arr[o + (i * 4 + 1)]? = some (.int .i64 y.2.1) ∧ arr[o + (i * 4 + 2)]? = some (.int .i64 y.2.2.1) ∧ arr[o + (i * 4 + 3)]? = some (.int .i64 y.2.2.2) := fun i hi => by
      obtain ⟨cs, n, x, hl, hj, ht⟩ := hx i hi
      obtain ⟨s, a, b', d', rfl⟩ := hr hl ht
      exact ⟨(s, a, b', d'), hj 0 (by omega), hj 1 (by omega), hj 2 (by omega), hj 3 (by omega)⟩
    obtain ⟨f, hf⟩ := Go.Deep.choose_lt hrow
    refine ⟨len, fun i => (f i).1, fun i => (f i).2.1, fun i => (f i).2.2.1, fun i => (f i).2.2.2, (b, arr.size, o), by unfold maxLen at h2; omega, (Array.getElem?_eq_some_iff.1 hh).1, fun E' => ?_, fun E' j hj => .inl ⟨b, (arr.size, o), o, cap, hj, rfl, h1, h2, fun _ => by simp, fun e => by cases e⟩⟩
    refine .inl ⟨arr, fz, ⟨ty, hh, fun e => by cases e⟩, rfl, ⟨fun e => (by cases e), fun k j c hk hj => ?_⟩, fun cs e => by cases e⟩
    have hk : k < len := hk
    obtain ⟨f0, f1, f2, f3⟩ := hf k hk
    show ∃ x, (vw o arr)[k * 4 + j]? = some x ∧ _
    rw [vw_get]
    match j, hj with
    | 0, hj => injection hj with hj; subst hj; exact ⟨_, f0, rfl, rfl⟩
    | 1, hj => injection hj with hj; subst hj; exact ⟨_, f1, rfl, rfl⟩
    | 2, hj => injection hj with hj; subst hj; exact ⟨_, f2, rfl, rfl⟩
    | 3, hj => injection hj with hj; subst hj; exact ⟨_, f3, rfl, rfl⟩
    | j + 4, hj => cases hj
end Go.Proofs.YtlpchgidkibbeaaGreatDoor
