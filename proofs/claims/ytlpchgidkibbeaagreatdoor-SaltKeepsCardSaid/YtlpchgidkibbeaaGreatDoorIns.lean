/- slices.Insert of one layer into a row of two. Conditions: none. -/
import Derived.Test.YtlpchgidkibbeaaGreatDoorEvRun
import Derived.Test.YtlpchgidkibbeaaGreatDoorChecked
import Derived.Lib.OthersKept
import Derived.Lib.AppendZerosOnto
import Derived.Lib.Overlaps
import Derived.WalkKit
import Derived.BigCall
import Derived.Test.YtlpchgidkibbeaaGreatDoorBas
namespace Go.Proofs
open Go.RowKit Go.Ev
theorem run_copyK {P : Program} (w : World) (dT sT ty elem : TypeId) (size g o dLen dCap : Nat) (a : Addr) (sLen sCap : Nat) (cur : Array Value) (t : TypeId) (cs : List Value) (n : Nat)
  (hu : P.underlying dT = some (.slice elem)) (hz : ∀ w, (sizeOf elem).run P w = .ok size w)
  (hg : w.heap[g]? = some (.cells cur t (0, 0))) (hn : Nat.min sLen dLen = n) (hl : cs.length = n * size)
  (hsrc : ∀ j v, cs[j]? = some v → w.cell? (a.add j) = some v) (hfit : o + cs.length ≤ cur.size) (h1 : ∀ v ∈ cs, v.oneCell' = true) :
  (Builtin.copy_ #[dT, sT] ty #[.slice (some ⟨g, o, none⟩) dLen dCap, .slice (some a) sLen sCap]).run P w =
   .ok (goInt n) (w.setRow g (layFrom cur o cs)) := by
 have hfirst := run_firstCells_some (P := P) w size n a sLen sCap cs hl hsrc
 have hst := run_storeCells_lay P g o t cs 0 cur w hg (fun _ => by simpa using hfit) h1
 simp [Builtin.copy_, run_underlying hu w, Builtin.lenOf, hn, hfirst, hz, hst]
theorem Tryz.layer_info : ∃ i, Tryz.prog.info? 152 = some i ∧ i.size = 2 ∧ i.bytes = 16 ∧ i.zero = some (.agg #[.int .i64 0, .int .i64 0]) := by
 have h1 : (Tryz.prog.info? 152).map (fun i => (i.size, i.bytes, i.zero)) = some (2, 16, some (.agg #[.int .i64 0, .int .i64 0])) := by kernel_rfl
 cases h : Tryz.prog.info? 152 with
 | none => rw [h] at h1; cases h1
 | some i =>
  rw [h] at h1
  simp only [Option.map_some, Option.some.injEq, Prod.mk.injEq] at h1
  exact ⟨i, rfl, h1.1, h1.2.1, h1.2.2⟩
theorem copy_ok {P : Program} {W : World} {dT sT elem : TypeId} {size g : Nat} {cur : Array Value} {t : TypeId} (hu : P.underlying dT = some (.slice elem)) (hz : ∀ w, (sizeOf elem).run P w = .ok size w) (hg : W.heap[g]? = some (.cells cur t (0, 0)))
  (o dLen dCap : Nat) (a : Addr) (sLen sCap n : Nat) (cs : List Value) (hn : Nat.min sLen dLen = n) (hl : cs.length = n * size) (hsrc : ∀ j v, cs[j]? = some v → W.cell? (a.add j) = some v) (hfit : o + cs.length ≤ cur.size) (h1 : ∀ v ∈ cs, v.oneCell' = true) :
  ∃ W', (∀ ty, (Builtin.copy_ #[dT, sT] ty #[.slice (some ⟨g, o, none⟩) dLen dCap, .slice (some a) sLen sCap]).run P W = .ok (goInt n) W') ∧ W'.heap[g]? = some (.cells (layFrom cur o cs) t (0, 0)) ∧ (∀ k, k ≠ g → W'.heap[k]? = W.heap[k]?) ∧ W'.heap.size = W.heap.size ∧ W'.os = W.os ∧ W'.tape = W.tape ∧ W'.output = W.output :=
 ⟨_, fun ty => run_copyK W dT sT ty elem size g o dLen dCap a sLen sCap cur t cs n hu hz hg hn hl hsrc hfit h1, setRow_heap W g cur _ t (0, 0) hg, fun k hk => setRow_other W g k _ hk, size_setRow W g _, rfl, rfl, rfl⟩
theorem pair_src {W : World} {b o : Nat} {x y : Value} (hx : W.cell? ⟨b, o, none⟩ = some x) (hy : W.cell? ⟨b, o + 1, none⟩ = some y) : ∀ j v, [x, y][j]? = some v → W.cell? ((⟨b, o, none⟩ : Addr).add j) = some v := fun j v hj => by
 rw [addr_add]
 match j, hj with
 | 0, hj => simp at hj; subst hj; exact hx
 | 1, hj => simp at hj; subst hj; exact hy
 | j + 2, hj => simp at hj
theorem two_head0 {a b : Value} {X Y : Array Value} : ([a, b].toArray ++ X ++ Y)[0]? = some a := by simp [Array.getElem?_append]
theorem two_head1 {a b : Value} {X Y : Array Value} : ([a, b].toArray ++ X ++ Y)[1]? = some b := by simp [Array.getElem?_append]
theorem cell_same {W W' : World} {b o : Nat} {x : Value} (h : W'.heap[b]? = W.heap[b]?) (hx : W.cell? ⟨b, o, none⟩ = some x) : W'.cell? ⟨b, o, none⟩ = some x := by
 rw [← hx]; exact cell_of_same h
theorem wpList_app {P : Program} {ops : Array Oper} {rest : List Oper} {o : Oper} {a : Act} {w : World} {Q : Exit → Act → World → Prop} (hgd : o.guard = none) (x y : Operand) (t u : TypeId)
  (ho : o.op = .call { callee := .builtin .append, args := #[x, y], argTypes := #[t, u] }) (p q : Value) (hp : a.eval x = p) (hq : a.eval y = q) (v : Value) (W : World)
  (hr : ∀ ty, (Builtin.append_ #[t, u] ty #[p, q]).run P w = .ok v W) (h : wpList P ops Q rest (a.put o.dst v) W) : wpList P ops Q (o :: rest) a w :=
 wpList_plain hgd fun K hK => by
  unfold Oper.wp execOp
  simp only [ho, resolve, invoke, builtin, Sem.run_bind, Sem.run_pure, Result.andThen_ok, List.map_toArray, List.map_cons, List.map_nil, hp, hq, hr]
  exact hK _ _ h
theorem take6 {arr : Array Value} {l : List Value} (hl : l.length = 6) (h : ∀ (j : Nat) (v : Value), l[j]? = some v → arr[j]? = some v) : arr.toList.take 6 = l := by
 apply List.ext_getElem?
 intro j
 by_cases hj : j < 6
 ·have e : l[j]? = some (l[j]'(by omega)) := List.getElem?_eq_getElem _
  rw [List.getElem?_take, if_pos hj, e]
  simpa using h j _ e
 ·rw [List.getElem?_eq_none (by simp; omega), List.getElem?_eq_none (by omega)]
theorem lay_grow {ARR : Array Value} {a b c d x y : Value} (hA : 6 ≤ ARR.size) (h0 : ARR[0]? = some a) (h1 : ARR[1]? = some b) : (layFrom (layFrom ARR 2 [x, y]) 4 [c, d]).toList.take 6 = [a, b, x, y, c, d] := by
 refine take6 rfl fun j v hj => ?_
 simp only [layFrom]
 match j, hj with
 | 0, hj => simp at hj; subst hj; simpa [Array.getElem?_setIfInBounds] using h0
 | 1, hj => simp at hj; subst hj; simpa [Array.getElem?_setIfInBounds] using h1
 | 2, hj => simp at hj; subst hj; simp [Array.getElem?_setIfInBounds]; omega
 | 3, hj => simp at hj; subst hj; simp [Array.getElem?_setIfInBounds]; omega
 | 4, hj => simp at hj; subst hj; simp [Array.getElem?_setIfInBounds]; omega
 | 5, hj => simp at hj; subst hj; simp [Array.getElem?_setIfInBounds]; omega
 | j + 6, hj => simp at hj
theorem mixedD : Tryz.prog.follows .mixedOrders = true := by kernel_rfl
set_option maxHeartbeats 2000000 in
set_option maxRecDepth 1000000 in
theorem Tryz.ins_grow (g : Nat) (a b c d x y : Value) (g2 o2 c2 : Nat) (w : World) (hgs : g < w.heap.size) (hg2 : g2 < w.heap.size)
  (h0 : w.cell? ⟨g, 0, none⟩ = some a) (h1 : w.cell? ⟨g, 1, none⟩ = some b) (h2 : w.cell? ⟨g, 2, none⟩ = some c) (h3 : w.cell? ⟨g, 3, none⟩ = some d) (hx : w.cell? ⟨g2, o2, none⟩ = some x) (hy : w.cell? ⟨g2, o2 + 1, none⟩ = some y)
  (k0 : ∀ v ∈ [a, b, c, d, x, y], v.oneCell' = true) :
  Calls Tryz.prog 114 #[.slice (some ⟨g, 0, none⟩) 2 2, .int .i64 1, .slice (some ⟨g2, o2, none⟩) 1 c2] w fun e w' => ∃ cap' cur', e = .returned (.slice (some ⟨w.heap.size, 0, none⟩) 3 cap') ∧ w'.heap[w.heap.size]? = some (.cells cur' 152 (0, 0)) ∧ cur'.size = cap' * 2 ∧ 3 ≤ cap' ∧ cap' ≤ maxLen ∧ cur'.toList.take 6 = [a, b, x, y, c, d] ∧
   (∀ k, k < w.heap.size → w'.heap[k]? = w.heap[k]?) ∧ w.heap.size ≤ w'.heap.size ∧ w'.os = w.os ∧ w'.tape = w.tape ∧ w'.output = w.output := by
 have hold : (Builtin.firstCells 2 1 (.slice (some ⟨g, 0, none⟩) 1 2)).run Tryz.prog w.drew = .ok [a, b].toArray w.drew :=
  run_firstCells_some _ 2 1 _ 1 2 [a, b] rfl (pair_src h0 h1)
 obtain ⟨i0, hi0, hs0, hb0, hz0⟩ := Tryz.layer_info
 rw [← hs0] at hold
 have happ : ∃ C ARR W, (∀ ty, (Builtin.append_ #[79, 3] ty #[.slice (some ⟨g, 0, none⟩) 1 2, .int .i64 2]).run Tryz.prog w = .ok (.slice (some ⟨w.heap.size, 0, none⟩) 3 C) W) ∧ 3 ≤ C ∧ C ≤ maxLen ∧ W.heap[w.heap.size]? = some (.cells ARR 152 (0, 0)) ∧ ARR.size = C * 2 ∧ ARR[0]? = some a ∧ ARR[1]? = some b ∧
   (∀ k, k < w.heap.size → W.heap[k]? = w.heap[k]?) ∧ W.heap.size = w.heap.size + 1 ∧ W.os = w.os ∧ W.tape = w.tape ∧ W.output = w.output := by
  refine ⟨_, _, _, fun ty => Lib.run_append_grow_zeros w 79 3 ty 152 i0 _ .i64 .i64 Tryz.underlying79 Tryz.underlying3 hi0 hz0 (some ⟨g, 0, none⟩) 1 2 [a, b] hold 2 (by decide) (by omega) (by decide) (by decide) (by rw [hb0]; decide) (by rw [hb0]; decide), grownCap_ge w 3 2 _, grownCap_le_maxLen w 3 2 _ (by decide), heap_new w.drew _, ?_, two_head0, two_head1, fun k hk => heap_old w.drew _ k hk, by simp, rfl, rfl, rfl⟩
  have := grownCap_ge w 3 2 152
  simp [Builtin.zeroCells, Value.cells]
  omega
 obtain ⟨C, ARR, W1, happ, hC, hCm, hW1, hA, hA0, hA1, hk1, hsz1, os1, tp1, ou1⟩ := happ
 have zL : ∀ w, (sizeOf 152).run Tryz.prog w = .ok 2 w := fun w => by simp [sizeOf, typeInfo, hi0, hs0]
 obtain ⟨W2, hc2, hW2, ho2, hsz2, os2, tp2, ou2⟩ := copy_ok (P := Tryz.prog) (sT := 79) Tryz.underlying79 zL hW1 2 2 (C - 1) ⟨g2, o2, none⟩ 1 c2 1 [x, y] rfl rfl (pair_src (cell_same (hk1 g2 hg2) hx) (cell_same (hk1 g2 hg2) hy)) (by rw [hA]; simp; omega) (fun v hv => k0 v (by simp at hv ⊢; rcases hv with rfl | rfl <;> simp))
 have hgn : g ≠ w.heap.size := by omega
 have hh2 : ∀ k, k < w.heap.size → W2.drew.heap[k]? = w.heap[k]? := fun k hk => (ho2 k (by omega)).trans (hk1 k hk)
 obtain ⟨W3, hc3, hW3, ho3, hsz3, os3, tp3, ou3⟩ := copy_ok (P := Tryz.prog) (W := W2.drew) (sT := 79) Tryz.underlying79 zL hW2 4 1 (C - 2) ⟨g, 2, none⟩ 1 1 1 [c, d] rfl rfl (pair_src (cell_same (hh2 g hgs) h2) (cell_same (hh2 g hgs) h3)) (by rw [size_layFrom, hA]; simp; omega) (fun v hv => k0 v (by simp at hv ⊢; rcases hv with rfl | rfl <;> simp))
 have key : Calls Tryz.prog 114 #[.slice (some ⟨g, 0, none⟩) 2 2, .int .i64 1, .slice (some ⟨g2, o2, none⟩) 1 c2] w fun e w' => e = .returned (.slice (some ⟨w.heap.size, 0, none⟩) 3 C) ∧ w' = W3 := by
  clear hold hz0 hb0 hs0 hi0 zL h0 h1 h2 h3 hx hy hk1 hh2 ho2 ho3 hW1 hW2 hW3
  have hmix := mixedD
  go_enter Tryz.func114, Tryz.ntmps114
  go_wp2_with (at_builtin; refine wpList_app rfl _ _ _ _ rfl _ _ rfl rfl _ _ happ ?_)
  go_region
  go_wp2
  go_ret
  exact ⟨rfl, rfl⟩
 refine key.mono ?_
 rintro e w' ⟨rfl, rfl⟩
 refine ⟨C, _, rfl, hW3, by rw [size_layFrom, size_layFrom, hA], hC, hCm, ?_, fun k hk => (ho3 k (by omega)).trans (hh2 k hk), by have : W2.drew.heap.size = W2.heap.size := rfl; omega, os3.trans (os2.trans os1), tp3.trans (tp2.trans tp1), ou3.trans (ou2.trans ou1)⟩
 exact lay_grow (by rw [hA]; omega) hA0 hA1
theorem lay_room {cur : Array Value} {a b c d x y : Value} (hA : 6 ≤ cur.size) (h0 : cur[0]? = some a) (h1 : cur[1]? = some b) : (layFrom (layFrom cur 4 [c, d]) 2 [x, y]).toList.take 6 = [a, b, x, y, c, d] := by
 refine take6 rfl fun j v hj => ?_
 simp only [layFrom]
 match j, hj with
 | 0, hj => simp at hj; subst hj; simpa [Array.getElem?_setIfInBounds] using h0
 | 1, hj => simp at hj; subst hj; simpa [Array.getElem?_setIfInBounds] using h1
 | 2, hj => simp at hj; subst hj; simp [Array.getElem?_setIfInBounds]; omega
 | 3, hj => simp at hj; subst hj; simp [Array.getElem?_setIfInBounds]; omega
 | 4, hj => simp at hj; subst hj; simp [Array.getElem?_setIfInBounds]; omega
 | 5, hj => simp at hj; subst hj; simp [Array.getElem?_setIfInBounds]; omega
 | j + 6, hj => simp at hj
set_option maxHeartbeats 2000000 in
set_option maxRecDepth 1000000 in
theorem Tryz.ins_room (g cap : Nat) (cur : Array Value) (a b c d x y : Value) (g2 o2 c2 : Nat) (cur2 : Array Value) (t2 : TypeId) (w : World) (hg : w.heap[g]? = some (.cells cur 152 (0, 0))) (hcs : cur.size = cap * 2) (hcap : 3 ≤ cap) (hcm : cap ≤ maxLen) (hg2 : w.heap[g2]? = some (.cells cur2 t2 (0, 0)))
  (h0 : cur[0]? = some a) (h1 : cur[1]? = some b) (h2 : cur[2]? = some c) (h3 : cur[3]? = some d) (hx : w.cell? ⟨g2, o2, none⟩ = some x) (hy : w.cell? ⟨g2, o2 + 1, none⟩ = some y) (hne : g2 ≠ g)
  (k0 : ∀ v ∈ [a, b, c, d, x, y], v.oneCell' = true) :
  Calls Tryz.prog 114 #[.slice (some ⟨g, 0, none⟩) 2 cap, .int .i64 1, .slice (some ⟨g2, o2, none⟩) 1 c2] w fun e w' => ∃ cur', e = .returned (.slice (some ⟨g, 0, none⟩) 3 cap) ∧ w'.heap[g]? = some (.cells cur' 152 (0, 0)) ∧ cur'.size = cap * 2 ∧ cur'.toList.take 6 = [a, b, x, y, c, d] ∧
   (∀ k, k ≠ g → w'.heap[k]? = w.heap[k]?) ∧ w'.heap.size = w.heap.size ∧ w'.os = w.os ∧ w'.tape = w.tape ∧ w'.output = w.output := by
 obtain ⟨i0, hi0, hs0, hb0, hz0⟩ := Tryz.layer_info
 have zL : ∀ w, (sizeOf 152).run Tryz.prog w = .ok 2 w := fun w => by simp [sizeOf, typeInfo, hi0, hs0]
 have hov : ∀ lb cb, (callFunc 141 #[.slice (some ⟨g2, o2, none⟩) 1 c2, .slice (some ⟨g, 4, none⟩) lb cb]).run Tryz.prog w = .ok (.value (.bool false)) w := fun lb cb => by
  rw [run_callFunc_extern Tryz.func141 (by kernel_rfl) (by kernel_rfl) (by kernel_rfl) (e := Extern.SlicesOverlaps.overlaps #[79, 79] #[4]) (by kernel_rfl),
   Lib.run_overlaps_apart w 79 4 152 Tryz.underlying79 2 zL ⟨g2, o2, none⟩ ⟨g, 4, none⟩ 1 c2 lb cb hne t2 152 cur2.size cur.size (by simp [World.shape?, hg2]) (by simp [World.shape?, hg]) (by omega) (frozen_of_row w g2 _ cur2 t2 hg2) (frozen_of_row w g2 _ cur2 t2 hg2)]
  rfl
 have hgd : w.drew.heap[g]? = some (.cells cur 152 (0, 0)) := hg
 have hc : ∀ (i : Nat) (v : Value), cur[i]? = some v → w.drew.cell? ⟨g, i, none⟩ = some v := fun i v hv => by rw [cell_of_row w.drew g i cur _ _ hgd, hv]
 obtain ⟨W2, hc2, hW2, ho2, hsz2, os2, tp2, ou2⟩ := copy_ok (P := Tryz.prog) (W := w.drew) (sT := 79) Tryz.underlying79 zL hgd 4 1 (cap - 2) ⟨g, 2, none⟩ 2 (cap - 1) 1 [c, d] rfl rfl (pair_src (hc 2 c h2) (hc 3 d h3)) (by rw [hcs]; simp; omega) (fun v hv => k0 v (by simp at hv ⊢; rcases hv with rfl | rfl <;> simp))
 obtain ⟨W3, hc3, hW3, ho3, hsz3, os3, tp3, ou3⟩ := copy_ok (P := Tryz.prog) (W := W2) (sT := 79) Tryz.underlying79 zL hW2 2 2 (cap - 1) ⟨g2, o2, none⟩ 1 c2 1 [x, y] rfl rfl (pair_src (cell_same (ho2 g2 hne) hx) (cell_same (ho2 g2 hne) hy)) (by rw [size_layFrom, hcs]; simp; omega) (fun v hv => k0 v (by simp at hv ⊢; rcases hv with rfl | rfl <;> simp))
 have key : Calls Tryz.prog 114 #[.slice (some ⟨g, 0, none⟩) 2 cap, .int .i64 1, .slice (some ⟨g2, o2, none⟩) 1 c2] w fun e w' => e = .returned (.slice (some ⟨g, 0, none⟩) 3 cap) ∧ w' = W3 := by
  clear hz0 hb0 hs0 hi0 zL h0 h1 h2 h3 hx hy ho2 ho3 hW2 hW3 hc hg hgd hg2 hcs k0
  have hmix := mixedD
  go_enter Tryz.func114, Tryz.ntmps114
  go_wp2_with (simp only [hov])
  go_region
  go_wp2
  go_ret
  exact ⟨rfl, rfl⟩
 refine key.mono ?_
 rintro e w' ⟨rfl, rfl⟩
 refine ⟨_, rfl, hW3, by rw [size_layFrom, size_layFrom, hcs], ?_, fun k hk => (ho3 k hk).trans (ho2 k hk), hsz3.trans hsz2, os3.trans os2, tp3.trans tp2, ou3.trans ou2⟩
 exact lay_room (by rw [hcs]; omega) h0 h1
end Go.Proofs
namespace Go.Ev
open Go Go.Proofs
def specInsert : Spec := fun args h => match args with
 | [.one (.sl true id 0 2 0 2), .one (.lit (.int .i64 1)), .one (.sl _ id2 k2 2 0 1)] => match h.blk id, h.blk id2 with
  | some ⟨false, e, .flat [a, b, c, d]⟩, some ⟨false, _, .flat cs2⟩ => match Nat.beq e 152 && !Nat.beq id id2, cs2.drop (k2 * 2) with
   | true, x :: y :: _ => (Hp.alloc { h with heap := h.heap.set D id none, low := min h.low id } ⟨false, e, .flat [a, b, x, y, c, d]⟩).bind fun p => .leaf (.one (.sl true p.1 0 2 0 3), p.2)
   | _, _ => .fail 301
  | _, _ => .fail 301
 | _ => .fail 302
theorem specInsert_ok : SpecOk Tryz.prog 114 specInsert := by
 intro args h v h' hr E w vals rh hargs
 unfold specInsert at hr
 split at hr
 ·rename_i id1 own2 id2 k2
  split at hr
  ·rename_i e ca cb cc cd e2 cs2 hb1 hb2
   split at hr
   ·rename_i cx cy rest hcond hdrop
    simp only [Bool.and_eq_true, Bool.not_eq_true'] at hcond
    obtain rfl := Nat.eq_of_beq_eq_true hcond.1
    obtain ⟨⟨id, h1⟩, hal, hr⟩ := Tree.bind_some hr
    simp only [Tree.run, Option.some.injEq, Prod.mk.injEq] at hr
    obtain ⟨rfl, rfl⟩ := hr
    match vals, hargs with
    | [p, q, r], ⟨hy1, ⟨hq, _⟩, hy2, _⟩ =>
     obtain ⟨bn1, sz1, o1, cap1, hE1, hp, hnc1, hcm1, ho1, hown1⟩ := sl_some hy1 (.inl rfl)
     obtain ⟨bn2, sz2, o2, cap2, hE2, hrr, hnc2, hcm2, ho2, _⟩ := sl_some hy2 (.inr (by omega))
     subst hp; subst hq; subst hrr
     obtain ⟨rfl, _, _, hs1⟩ := hown1 rfl
     have ho2 := ho2 (by omega)
     obtain ⟨p1, hp1, arr1, fz1, ⟨ty1, hh1, hty1⟩, hsz1, hbd1, hfz1⟩ := rh.cells hb1 rfl
     obtain rfl : p1 = (bn1, sz1) := Option.some.inj (hp1.symm.trans hE1)
     obtain ⟨p2, hp2, arr2, fz2, ⟨ty2, hh2, hty2⟩, hsz2, hbd2, hfz2⟩ := rh.cells hb2 rfl
     obtain rfl : p2 = (bn2, sz2) := Option.some.inj (hp2.symm.trans hE2)
     obtain rfl := hty1 rfl
     rw [roIs_fz hfz1 rfl] at hh1
     rw [roIs_fz hfz2 rfl] at hh2
     obtain ⟨_, hbd1⟩ := hbd1.own rfl
     obtain ⟨hz2, hbd2⟩ := hbd2.own rfl
     have hz2 : sz2.2 = 0 := hz2
     rw [hz2, Nat.zero_add] at ho2
     obtain ⟨va, ha, ia⟩ := hbd1 0 ca rfl
     obtain ⟨vb, hb, ib⟩ := hbd1 1 cb rfl
     obtain ⟨vc, hc, ic⟩ := hbd1 2 cc rfl
     obtain ⟨vd, hd, id'⟩ := hbd1 3 cd rfl
     have d0 : cs2[k2 * 2 + 0]? = some cx := by rw [← List.getElem?_drop, hdrop]; rfl
     have d1 : cs2[k2 * 2 + 1]? = some cy := by rw [← List.getElem?_drop, hdrop]; rfl
     obtain ⟨vx, hx, ix⟩ := hbd2 (k2 * 2 + 0) cx (by rw [nth_eq]; exact d0)
     obtain ⟨vy, hy, iy⟩ := hbd2 (k2 * 2 + 1) cy (by rw [nth_eq]; exact d1)
     have hne : bn2 ≠ bn1 := fun he => by
      have := rh.inj id1 id2 _ _ _ _ hb1 hb2 rfl hE1 hE2 he.symm
      subst this
      have h2 := hcond.2
      rw [Nat.beq_refl] at h2
      cases h2
     have hcx : w.cell? ⟨bn2, o2, none⟩ = some vx := by rw [cell_of_row w bn2 _ arr2 _ _ hh2, ho2]; exact hx
     have hcy : w.cell? ⟨bn2, o2 + 1, none⟩ = some vy := by rw [cell_of_row w bn2 _ arr2 _ _ hh2, ho2]; exact hy
     have k0 : ∀ u ∈ [va, vb, vc, vd, vx, vy], u.oneCell' = true := fun u hu => by
      simp only [List.mem_cons, List.not_mem_nil, or_false] at hu
      rcases hu with rfl | rfl | rfl | rfl | rfl | rfl
      ·exact ia.oneCell
      ·exact ib.oneCell
      ·exact ic.oneCell
      ·exact id'.oneCell
      ·exact ix.oneCell
      ·exact iy.oneCell
     have hid1 : id1 < lim := by
      rcases Nat.lt_or_ge id1 h.next with hlt | hge
      ·exact Nat.lt_of_lt_of_le hlt rh.nlim
      ·rw [rh.dom id1 hge] at hE1; cases hE1
     have hlt1 : bn1 < w.heap.size := rh.lt id1 _ hE1
     have hlt2 : bn2 < w.heap.size := rh.lt id2 _ hE2
     have hall : All2 (C.Is E) [ca, cb, cx, cy, cc, cd] [va, vb, vx, vy, vc, vd] := ⟨ia, ib, ix, iy, ic, id', trivial⟩
     have fin : ∀ (g cap' : Nat) (cur' : Array Value) (w' : World), (g = bn1 ∨ g = w.heap.size) → w'.heap[g]? = some (.cells cur' 152 (0, 0)) → cur'.size = cap' * 2 → 3 ≤ cap' → cap' ≤ maxLen → cur'.toList.take 6 = [va, vb, vx, vy, vc, vd] →
       (∀ k, k < w.heap.size → k ≠ bn1 → w'.heap[k]? = w.heap[k]?) → w.heap.size ≤ w'.heap.size → w'.os = w.os → w'.tape = w.tape → w'.output = w.output →
       ∃ x E', Ending.returned (.slice (some ⟨g, 0, none⟩) 3 cap') = .returned x ∧ (A.one (.sl true id 0 2 0 3)).Is E' x ∧ Stp E h w E' h1 w' := fun g cap' cur' w' hgn hg hcs hc3 hcm htake hkeep hsize hos htape hout => by
      obtain ⟨hst, hE'⟩ := name_stp (b := ⟨false, 152, .flat [ca, cb, cx, cy, cc, cd]⟩) (g := g) (arr := cur') (h1 := { h with heap := h.heap.set D id1 none, low := min h.low id1 }) (fun k => k = bn1) rh rfl rfl rfl
       (fun k hk o ho => by subst hk; rw [hh1] at ho; injection ho with ho; subst ho; rfl) (Nat.min_le_left _ _)
       (fun i b' hb' => by
        have hb3 : (Tr.set D h.heap id1 none).get D i = some b' := hb'
        rw [Tr.get_set_D _ _ _ _ hid1] at hb3
        split at hb3
        ·cases hb3
        ·rename_i hne'
         refine ⟨hb3, fun pp hpp => ?_⟩
         have hpn : pp.1 ≠ bn1 := fun he => hne' (rh.inj id1 i _ b' _ pp hb1 hb3 rfl hE1 hpp he.symm)
         refine ⟨hpn, fun he => ?_⟩
         rcases hgn with hgn | hgn
         ·exact hpn (he.trans hgn)
         ·have := rh.lt i pp hpp; omega)
       hg (flat_of_take hall htake) hkeep hsize hos htape hout (fun k hk => ⟨id1, _, hE1, hk.symm, Nat.min_le_right _ _⟩) (hgn.elim (fun e => .inr e) fun e => .inl (by omega)) hal
      exact ⟨_, _, rfl, .inl ⟨_, _, 0, cap', hE', rfl, hc3, hcm, fun _ => by simp, fun _ => ⟨rfl, rfl, rfl, by rw [hcs]⟩⟩, hst⟩
     by_cases hcap : cap1 = 2
     ·subst hcap
      refine (Tryz.ins_grow bn1 va vb vc vd vx vy bn2 o2 cap2 w hlt1 hlt2 (by rw [cell_of_row w bn1 _ arr1 _ _ hh1]; exact ha) (by rw [cell_of_row w bn1 _ arr1 _ _ hh1]; exact hb) (by rw [cell_of_row w bn1 _ arr1 _ _ hh1]; exact hc) (by rw [cell_of_row w bn1 _ arr1 _ _ hh1]; exact hd) hcx hcy k0).mono ?_
      rintro e w' ⟨cap', cur', rfl, q1, q2, q3, q4, q5, q6, q7, q8, q9, q10⟩
      exact fin _ cap' cur' w' (.inr rfl) q1 q2 q3 q4 q5 (fun k hk _ => q6 k hk) q7 q8 q9 q10
     ·refine (Tryz.ins_room bn1 cap1 arr1 va vb vc vd vx vy bn2 o2 cap2 arr2 _ w hh1 (by rw [hsz1, hs1]) (by omega) hcm1 hh2 ha hb hc hd hcx hcy hne k0).mono ?_
      rintro e w' ⟨cur', rfl, q1, q2, q3, q4, q5, q6, q7, q8⟩
      exact fin _ cap1 cur' w' (.inl rfl) q1 q2 (by omega) hcm1 q3 (fun k _ hk => q4 k hk) (Nat.le_of_eq q5.symm) q6 q7 q8
   ·cases hr
  ·cases hr
 ·cases hr
def tabS : List (FuncId × Spec) := [(114, specInsert), (146, specItoa), (144, specJoin)]
theorem tabS_ok : TabOk Tryz.prog (tabOf tabS) := tabOf_ok fun e he => by
 simp only [tabS, List.mem_cons, List.not_mem_nil, or_false] at he
 rcases he with rfl | rfl | rfl
 ·exact specInsert_ok
 ·exact specItoa_ok
 ·exact specJoin_ok
end Go.Ev
