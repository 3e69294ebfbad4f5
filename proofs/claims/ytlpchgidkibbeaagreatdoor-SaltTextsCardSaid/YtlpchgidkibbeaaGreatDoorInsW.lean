/- slices.Insert of one layer into a row of two. Conditions: none. -/
import Derived.Test.YtlpchgidkibbeaaGreatDoorEvRun
import Derived.Test.YtlpchgidkibbeaaGreatDoorChecked
import Derived.Lib.OthersKept
import Derived.Lib.AppendZerosOnto
import Derived.Lib.Overlaps
import Derived.WalkKit
import Derived.BigCall
namespace Go.Proofs
open Go.RowKit Go.Ev

theorem run_copyK {P : Program} (w : World) (dT sT ty elem : TypeId) (size g o dLen dCap : Nat) (a : Addr) (sLen sCap : Nat) (cur : Array Value) (t : TypeId) (cs : List Value) (n : Nat)
    (hu : P.underlying dT = some (.slice elem)) (hz : ∀ w, (sizeOf elem).run P w = .ok size w)
    (hg : w.heap[g]? = some (.cells cur t (0, 0))) (hn : Nat.min sLen dLen = n) (hl : cs.length = n * size)
    (hsrc : ∀ j v, cs[j]? = some v → w.cell? (a.add j) = some v) (hfit : o + cs.length ≤ cur.size) (h1 : ∀ v ∈ cs, v.oneCell' = true) :
    (Builtin.copy_ #[dT, sT] ty #[.slice (some ⟨g, o, none⟩) dLen dCap, .slice (some a) sLen sCap]).run P w =
      .ok (goInt n) (w.setRow g (layFrom cur o cs)) := by
  have hfirst := run_firstCells_some (P := P) w size n a sLen sCap cs hl hsrc
  have hst := run_storeCells_lay P g o t cs 0 cur w hg (fun _ => by simpa using hfit) h1
  simp [Builtin.copy_, run_underlying hu w, Builtin.lenOf, hn, hfirst, hz, hst]

theorem Tryz.layer_info : ∃ i, Tryz.prog.info? 152 = some i ∧ i.size = 2 ∧ i.bytes = 16 ∧ i.zero = some (.agg #[.int .i64 0, .int .i64 0]) := by
  have h1 : (Tryz.prog.info? 152).map (fun i => (i.size, i.bytes, i.zero)) = some (2, 16, some (.agg #[.int .i64 0, .int .i64 0])) := by kernel_rfl
  cases h : Tryz.prog.info? 152 with
  | none => rw [h] at h1; cases h1
  | some i =>
    rw [h] at h1
    simp only [Option.map_some, Option.some.injEq, Prod.mk.injEq] at h1
    exact ⟨i, rfl, h1.1, h1.2.1, h1.2.2⟩

/-- a copy of a few cells into a row that lies by itself: the world behind it -/
theorem copy_ok {P : Program} {W : World} {dT sT elem : TypeId} {size g : Nat} {cur : Array Value} {t : TypeId} (hu : P.underlying dT = some (.slice elem)) (hz : ∀ w, (sizeOf elem).run P w = .ok size w) (hg : W.heap[g]? = some (.cells cur t (0, 0)))
    (o dLen dCap : Nat) (a : Addr) (sLen sCap n : Nat) (cs : List Value) (hn : Nat.min sLen dLen = n) (hl : cs.length = n * size) (hsrc : ∀ j v, cs[j]? = some v → W.cell? (a.add j) = some v) (hfit : o + cs.length ≤ cur.size) (h1 : ∀ v ∈ cs, v.oneCell' = true) :
    ∃ W', (∀ ty, (Builtin.copy_ #[dT, sT] ty #[.slice (some ⟨g, o, none⟩) dLen dCap, .slice (some a) sLen sCap]).run P W = .ok (goInt n) W') ∧ W'.heap[g]? = some (.cells (layFrom cur o cs) t (0, 0)) ∧ (∀ k, k ≠ g → W'.heap[k]? = W.heap[k]?) ∧ W'.heap.size = W.heap.size ∧ W'.os = W.os ∧ W'.tape = W.tape ∧ W'.output = W.output :=
  ⟨_, fun ty => run_copyK W dT sT ty elem size g o dLen dCap a sLen sCap cur t cs n hu hz hg hn hl hsrc hfit h1, setRow_heap W g cur _ t (0, 0) hg, fun k hk => setRow_other W g k _ hk, size_setRow W g _, rfl, rfl, rfl⟩
theorem pair_src {W : World} {b o : Nat} {x y : Value} (hx : W.cell? ⟨b, o, none⟩ = some x) (hy : W.cell? ⟨b, o + 1, none⟩ = some y) : ∀ j v, [x, y][j]? = some v → W.cell? ((⟨b, o, none⟩ : Addr).add j) = some v := fun j v hj => by
  rw [addr_add]
  match j, hj with
  | 0, hj => simp at hj; subst hj; exact hx
  | 1, hj => simp at hj; subst hj; exact hy
  | j + 2, hj => simp at hj
theorem two_head0 {a b : Value} {X Y : Array Value} : ([a, b].toArray ++ X ++ Y)[0]? = some a := by simp [Array.getElem?_append]
theorem two_head1 {a b : Value} {X Y : Array Value} : ([a, b].toArray ++ X ++ Y)[1]? = some b := by simp [Array.getElem?_append]
theorem cell_same {W W' : World} {b o : Nat} {x : Value} (h : W'.heap[b]? = W.heap[b]?) (hx : W.cell? ⟨b, o, none⟩ = some x) : W'.cell? ⟨b, o, none⟩ = some x := by
  rw [← hx]; exact cell_of_same h

/-- a builtin's call by the equation of its run -/
theorem wpList_app {P : Program} {ops : Array Oper} {rest : List Oper} {o : Oper} {a : Act} {w : World} {Q : Exit → Act → World → Prop} (hgd : o.guard = none) (x y : Operand) (t u : TypeId)
    (ho : o.op = .call { callee := .builtin .append, args := #[x, y], argTypes := #[t, u] }) (p q : Value) (hp : a.eval x = p) (hq : a.eval y = q) (v : Value) (W : World)
    (hr : ∀ ty, (Builtin.append_ #[t, u] ty #[p, q]).run P w = .ok v W) (h : wpList P ops Q rest (a.put o.dst v) W) : wpList P ops Q (o :: rest) a w :=
  wpList_plain hgd fun K hK => by
    unfold Oper.wp execOp
    simp only [ho, resolve, invoke, builtin, Sem.run_bind, Sem.run_pure, Result.andThen_ok, List.map_toArray, List.map_cons, List.map_nil, hp, hq, hr]
    exact hK _ _ h
theorem wpList_cpy {P : Program} {ops : Array Oper} {rest : List Oper} {o : Oper} {a : Act} {w : World} {Q : Exit → Act → World → Prop} (hgd : o.guard = none) (x y : Operand) (t u : TypeId)
    (ho : o.op = .call { callee := .builtin .copy, args := #[x, y], argTypes := #[t, u] }) (p q : Value) (hp : a.eval x = p) (hq : a.eval y = q) (v : Value) (W : World)
    (hr : ∀ ty, (Builtin.copy_ #[t, u] ty #[p, q]).run P w = .ok v W) (h : wpList P ops Q rest (a.put o.dst v) W) : wpList P ops Q (o :: rest) a w :=
  wpList_plain hgd fun K hK => by
    unfold Oper.wp execOp
    simp only [ho, resolve, invoke, builtin, Sem.run_bind, Sem.run_pure, Result.andThen_ok, List.map_toArray, List.map_cons, List.map_nil, hp, hq, hr]
    exact hK _ _ h

theorem take6 {arr : Array Value} {l : List Value} (hl : l.length = 6) (h : ∀ (j : Nat) (v : Value), l[j]? = some v → arr[j]? = some v) : arr.toList.take 6 = l := by
  apply List.ext_getElem?
  intro j
  by_cases hj : j < 6
  · have e : l[j]? = some (l[j]'(by omega)) := List.getElem?_eq_getElem _
    rw [List.getElem?_take, if_pos hj, e]
    simpa using h j _ e
  · rw [List.getElem?_eq_none (by simp; omega), List.getElem?_eq_none (by omega)]
theorem lay_grow {ARR : Array Value} {a b c d x y : Value} (hA : 6 ≤ ARR.size) (h0 : ARR[0]? = some a) (h1 : ARR[1]? = some b) : (layFrom (layFrom ARR 2 [x, y]) 4 [c, d]).toList.take 6 = [a, b, x, y, c, d] := by
  refine take6 rfl fun j v hj => ?_
  simp only [layFrom]
  match j, hj with
  | 0, hj => simp at hj; subst hj; simpa [Array.getElem?_setIfInBounds] using h0
  | 1, hj => simp at hj; subst hj; simpa [Array.getElem?_setIfInBounds] using h1
  | 2, hj => simp at hj; subst hj; simp [Array.getElem?_setIfInBounds]; omega
  | 3, hj => simp at hj; subst hj; simp [Array.getElem?_setIfInBounds]; omega
  | 4, hj => simp at hj; subst hj; simp [Array.getElem?_setIfInBounds]; omega
  | 5, hj => simp at hj; subst hj; simp [Array.getElem?_setIfInBounds]; omega
  | j + 6, hj => simp at hj

theorem mixedD : Tryz.prog.follows .mixedOrders = true := by kernel_rfl

set_option maxHeartbeats 2000000 in
set_option maxRecDepth 1000000 in
theorem Tryz.ins_grow (g : Nat) (a b c d x y : Value) (g2 o2 c2 : Nat) (w : World) (hgs : g < w.heap.size) (hg2 : g2 < w.heap.size)
    (h0 : w.cell? ⟨g, 0, none⟩ = some a) (h1 : w.cell? ⟨g, 1, none⟩ = some b) (h2 : w.cell? ⟨g, 2, none⟩ = some c) (h3 : w.cell? ⟨g, 3, none⟩ = some d) (hx : w.cell? ⟨g2, o2, none⟩ = some x) (hy : w.cell? ⟨g2, o2 + 1, none⟩ = some y)
    (k0 : ∀ v ∈ [a, b, c, d, x, y], v.oneCell' = true) :
    Calls Tryz.prog 114 #[.slice (some ⟨g, 0, none⟩) 2 2, .int .i64 1, .slice (some ⟨g2, o2, none⟩) 1 c2] w fun e w' => ∃ cap' cur', e = .returned (.slice (some ⟨w.heap.size, 0, none⟩) 3 cap') ∧ w'.heap[w.heap.size]? = some (.cells cur' 152 (0, 0)) ∧ cur'.size = cap' * 2 ∧ 3 ≤ cap' ∧ cap' ≤ maxLen ∧ cur'.toList.take 6 = [a, b, x, y, c, d] ∧
      (∀ k, k < w.heap.size → w'.heap[k]? = w.heap[k]?) ∧ w.heap.size ≤ w'.heap.size ∧ w'.os = w.os ∧ w'.tape = w.tape ∧ w'.output = w.output := by
  have hold : (Builtin.firstCells 2 1 (.slice (some ⟨g, 0, none⟩) 1 2)).run Tryz.prog w.drew = .ok [a, b].toArray w.drew :=
    run_firstCells_some _ 2 1 _ 1 2 [a, b] rfl (pair_src h0 h1)
  obtain ⟨i0, hi0, hs0, hb0, hz0⟩ := Tryz.layer_info
  rw [← hs0] at hold
  have happ : ∃ C ARR W, (∀ ty, (Builtin.append_ #[79, 3] ty #[.slice (some ⟨g, 0, none⟩) 1 2, .int .i64 2]).run Tryz.prog w = .ok (.slice (some ⟨w.heap.size, 0, none⟩) 3 C) W) ∧ 3 ≤ C ∧ C ≤ maxLen ∧ W.heap[w.heap.size]? = some (.cells ARR 152 (0, 0)) ∧ ARR.size = C * 2 ∧ ARR[0]? = some a ∧ ARR[1]? = some b ∧
      (∀ k, k < w.heap.size → W.heap[k]? = w.heap[k]?) ∧ W.heap.size = w.heap.size + 1 ∧ W.os = w.os ∧ W.tape = w.tape ∧ W.output = w.output := by
    refine ⟨_, _, _, fun ty => Lib.run_append_grow_zeros w 79 3 ty 152 i0 _ .i64 .i64 Tryz.underlying79 Tryz.underlying3 hi0 hz0 (some ⟨g, 0, none⟩) 1 2 [a, b] hold 2 (by decide) (by omega) (by decide) (by decide) (by rw [hb0]; decide) (by rw [hb0]; decide), grownCap_ge w 3 2 _, grownCap_le_maxLen w 3 2 _ (by decide), heap_new w.drew _, ?_, two_head0, two_head1, fun k hk => heap_old w.drew _ k hk, by simp, rfl, rfl, rfl⟩
    have := grownCap_ge w 3 2 152
    simp [Builtin.zeroCells, Value.cells]
    omega
  obtain ⟨C, ARR, W1, happ, hC, hCm, hW1, hA, hA0, hA1, hk1, hsz1, os1, tp1, ou1⟩ := happ
  have zL : ∀ w, (sizeOf 152).run Tryz.prog w = .ok 2 w := fun w => by simp [sizeOf, typeInfo, hi0, hs0]
  obtain ⟨W2, hc2, hW2, ho2, hsz2, os2, tp2, ou2⟩ := copy_ok (P := Tryz.prog) (sT := 79) Tryz.underlying79 zL hW1 2 2 (C - 1) ⟨g2, o2, none⟩ 1 c2 1 [x, y] rfl rfl (pair_src (cell_same (hk1 g2 hg2) hx) (cell_same (hk1 g2 hg2) hy)) (by rw [hA]; simp; omega) (fun v hv => k0 v (by simp at hv ⊢; rcases hv with rfl | rfl <;> simp))
  have hgn : g ≠ w.heap.size := by omega
  have hh2 : ∀ k, k < w.heap.size → W2.drew.heap[k]? = w.heap[k]? := fun k hk => (ho2 k (by omega)).trans (hk1 k hk)
  obtain ⟨W3, hc3, hW3, ho3, hsz3, os3, tp3, ou3⟩ := copy_ok (P := Tryz.prog) (W := W2.drew) (sT := 79) Tryz.underlying79 zL hW2 4 1 (C - 2) ⟨g, 2, none⟩ 1 1 1 [c, d] rfl rfl (pair_src (cell_same (hh2 g hgs) h2) (cell_same (hh2 g hgs) h3)) (by rw [size_layFrom, hA]; simp; omega) (fun v hv => k0 v (by simp at hv ⊢; rcases hv with rfl | rfl <;> simp))
  have key : Calls Tryz.prog 114 #[.slice (some ⟨g, 0, none⟩) 2 2, .int .i64 1, .slice (some ⟨g2, o2, none⟩) 1 c2] w fun e w' => e = .returned (.slice (some ⟨w.heap.size, 0, none⟩) 3 C) ∧ w' = W3 := by
    clear hold hz0 hb0 hs0 hi0 zL h0 h1 h2 h3 hx hy hk1 hh2 ho2 ho3 hW1 hW2 hW3
    have hmix := mixedD
    go_enter Tryz.func114, Tryz.ntmps114
    go_wp2_with (at_builtin; refine wpList_app rfl _ _ _ _ rfl _ _ rfl rfl _ _ happ ?_)
    go_region
    go_wp2
    go_ret
    exact ⟨rfl, rfl⟩
  refine key.mono ?_
  rintro e w' ⟨rfl, rfl⟩
  refine ⟨C, _, rfl, hW3, by rw [size_layFrom, size_layFrom, hA], hC, hCm, ?_, fun k hk => (ho3 k (by omega)).trans (hh2 k hk), by have : W2.drew.heap.size = W2.heap.size := rfl; omega, os3.trans (os2.trans os1), tp3.trans (tp2.trans tp1), ou3.trans (ou2.trans ou1)⟩
  exact lay_grow (by rw [hA]; omega) hA0 hA1

theorem lay_room {cur : Array Value} {a b c d x y : Value} (hA : 6 ≤ cur.size) (h0 : cur[0]? = some a) (h1 : cur[1]? = some b) : (layFrom (layFrom cur 4 [c, d]) 2 [x, y]).toList.take 6 = [a, b, x, y, c, d] := by
  refine take6 rfl fun j v hj => ?_
  simp only [layFrom]
  match j, hj with
  | 0, hj => simp at hj; subst hj; simpa [Array.getElem?_setIfInBounds] using h0
  | 1, hj => simp at hj; subst hj; simpa [Array.getElem?_setIfInBounds] using h1
  | 2, hj => simp at hj; subst hj; simp [Array.getElem?_setIfInBounds]; omega
  | 3, hj => simp at hj; subst hj; simp [Array.getElem?_setIfInBounds]; omega
  | 4, hj => simp at hj; subst hj; simp [Array.getElem?_setIfInBounds]; omega
  | 5, hj => simp at hj; subst hj; simp [Array.getElem?_setIfInBounds]; omega
  | j + 6, hj => simp at hj

set_option maxHeartbeats 2000000 in
set_option maxRecDepth 1000000 in
theorem Tryz.ins_room (g cap : Nat) (cur : Array Value) (a b c d x y : Value) (g2 o2 c2 : Nat) (cur2 : Array Value) (t2 : TypeId) (w : World) (hg : w.heap[g]? = some (.cells cur 152 (0, 0))) (hcs : cur.size = cap * 2) (hcap : 3 ≤ cap) (hcm : cap ≤ maxLen) (hg2 : w.heap[g2]? = some (.cells cur2 t2 (0, 0)))
    (h0 : cur[0]? = some a) (h1 : cur[1]? = some b) (h2 : cur[2]? = some c) (h3 : cur[3]? = some d) (hx : w.cell? ⟨g2, o2, none⟩ = some x) (hy : w.cell? ⟨g2, o2 + 1, none⟩ = some y) (hne : g2 ≠ g)
    (k0 : ∀ v ∈ [a, b, c, d, x, y], v.oneCell' = true) :
    Calls Tryz.prog 114 #[.slice (some ⟨g, 0, none⟩) 2 cap, .int .i64 1, .slice (some ⟨g2, o2, none⟩) 1 c2] w fun e w' => ∃ cur', e = .returned (.slice (some ⟨g, 0, none⟩) 3 cap) ∧ w'.heap[g]? = some (.cells cur' 152 (0, 0)) ∧ cur'.size = cap * 2 ∧ cur'.toList.take 6 = [a, b, x, y, c, d] ∧
      (∀ k, k ≠ g → w'.heap[k]? = w.heap[k]?) ∧ w'.heap.size = w.heap.size ∧ w'.os = w.os ∧ w'.tape = w.tape ∧ w'.output = w.output := by
  obtain ⟨i0, hi0, hs0, hb0, hz0⟩ := Tryz.layer_info
  have zL : ∀ w, (sizeOf 152).run Tryz.prog w = .ok 2 w := fun w => by simp [sizeOf, typeInfo, hi0, hs0]
  have hov : ∀ lb cb, (callFunc 141 #[.slice (some ⟨g2, o2, none⟩) 1 c2, .slice (some ⟨g, 4, none⟩) lb cb]).run Tryz.prog w = .ok (.value (.bool false)) w := fun lb cb => by
    rw [run_callFunc_extern Tryz.func141 (by kernel_rfl) (by kernel_rfl) (by kernel_rfl) (e := Extern.SlicesOverlaps.overlaps #[79, 79] #[4]) (by kernel_rfl),
      Lib.run_overlaps_apart w 79 4 152 Tryz.underlying79 2 zL ⟨g2, o2, none⟩ ⟨g, 4, none⟩ 1 c2 lb cb hne t2 152 cur2.size cur.size (by simp [World.shape?, hg2]) (by simp [World.shape?, hg]) (by omega) (frozen_of_row w g2 _ cur2 t2 hg2) (frozen_of_row w g2 _ cur2 t2 hg2)]
    rfl
  have hgd : w.drew.heap[g]? = some (.cells cur 152 (0, 0)) := hg
  have hc : ∀ (i : Nat) (v : Value), cur[i]? = some v → w.drew.cell? ⟨g, i, none⟩ = some v := fun i v hv => by rw [cell_of_row w.drew g i cur _ _ hgd, hv]
  obtain ⟨W2, hc2, hW2, ho2, hsz2, os2, tp2, ou2⟩ := copy_ok (P := Tryz.prog) (W := w.drew) (sT := 79) Tryz.underlying79 zL hgd 4 1 (cap - 2) ⟨g, 2, none⟩ 2 (cap - 1) 1 [c, d] rfl rfl (pair_src (hc 2 c h2) (hc 3 d h3)) (by rw [hcs]; simp; omega) (fun v hv => k0 v (by simp at hv ⊢; rcases hv with rfl | rfl <;> simp))
  obtain ⟨W3, hc3, hW3, ho3, hsz3, os3, tp3, ou3⟩ := copy_ok (P := Tryz.prog) (W := W2) (sT := 79) Tryz.underlying79 zL hW2 2 2 (cap - 1) ⟨g2, o2, none⟩ 1 c2 1 [x, y] rfl rfl (pair_src (cell_same (ho2 g2 hne) hx) (cell_same (ho2 g2 hne) hy)) (by rw [size_layFrom, hcs]; simp; omega) (fun v hv => k0 v (by simp at hv ⊢; rcases hv with rfl | rfl <;> simp))
  have key : Calls Tryz.prog 114 #[.slice (some ⟨g, 0, none⟩) 2 cap, .int .i64 1, .slice (some ⟨g2, o2, none⟩) 1 c2] w fun e w' => e = .returned (.slice (some ⟨g, 0, none⟩) 3 cap) ∧ w' = W3 := by
    clear hz0 hb0 hs0 hi0 zL h0 h1 h2 h3 hx hy ho2 ho3 hW2 hW3 hc hg hgd hg2 hcs k0
    have hmix := mixedD
    go_enter Tryz.func114, Tryz.ntmps114
    go_wp2_with (simp only [hov])
    go_region
    go_wp2
    go_ret
    exact ⟨rfl, rfl⟩
  refine key.mono ?_
  rintro e w' ⟨rfl, rfl⟩
  refine ⟨_, rfl, hW3, by rw [size_layFrom, size_layFrom, hcs], ?_, fun k hk => (ho3 k hk).trans (ho2 k hk), hsz3.trans hsz2, os3.trans os2, tp3.trans tp2, ou3.trans ou2⟩
  exact lay_room (by rw [hcs]; omega) h0 h1
end Go.Proofs
