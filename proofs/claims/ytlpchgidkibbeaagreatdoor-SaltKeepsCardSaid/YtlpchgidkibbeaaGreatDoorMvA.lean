/- slices.Insert of one layer into a row of layers, at any place. Conditions: few layers. slices.Insert of one layer into a list of layers, at any place: its entry. Conditions: few layers; the list lies by itself. SaltMoves: the first layer that is not colder than another one, and the first layer of nothing (slices.IndexFunc). Conditions: few layers. (Printed by gen_midx.py.) SaltMoves: layers that are turned, by the reference. Conditions: few layers. -/
import Derived.Test.YtlpchgidkibbeaaGreatDoorIns
import Derived.Test.YtlpchgidkibbeaaGreatDoorTank3
import Derived.Test.YtlpchgidkibbeaaGreatDoorTog
namespace Go.Proofs
open Go.RowKit Go.Ev
set_option maxHeartbeats 2000000 in
set_option maxRecDepth 1000000 in
theorem Tryz.ins_end (g n cap : Nat) (cur : Array Value) (xs : List Value) (x y : Value) (g2 o2 c2 : Nat) (w : World) (hn : n ≤ 1000) (hg : w.heap[g]? = some (.cells cur 152 (0, 0))) (hcs : cur.size = cap * 2) (hcap : n ≤ cap) (hcm : cap ≤ maxLen) (hxs : cur.toList.take (n * 2) = xs) (hxl : xs.length = n * 2)
  (hx : w.cell? ⟨g2, o2, none⟩ = some x) (hy : w.cell? ⟨g2, o2 + 1, none⟩ = some y) (k0 : ∀ v ∈ [x, y], v.oneCell' = true) :
  Calls Tryz.prog 114 #[.slice (some ⟨g, 0, none⟩) n cap, .int .i64 n, .slice (some ⟨g2, o2, none⟩) 1 c2] w fun e w' => ∃ v', e = .returned v' ∧ w'.ownsRow 0 152 2 v' (n + 1) (xs ++ [x, y]) ∧ w.grownBy w' (some g) ∧ v' ≠ .slice none 0 0 ∧ (v'.ownBlock = some g ∨ v'.ownBlock = some w.heap.size) := by
 obtain ⟨i0, hi0, hs0, hb0, hz0⟩ := Tryz.layer_info
 have hor : w.ownsRow 0 152 2 (.slice (some ⟨g, 0, none⟩) n cap) n xs := ⟨hxl, .inr ⟨g, cap, cur, rfl, Nat.zero_le _, hg, hcap, hcm, hcs, hxs⟩⟩
 obtain ⟨v', W, happ, hown, hgrow, hnil, hat⟩ := run_append_own_at (P := Tryz.prog) w 0 79 79 152 i0 _ 2 16 Tryz.underlying79 hi0 hz0 hs0 hb0 rfl (by decide) _ n xs hor ⟨g2, o2, none⟩ 1 c2 [x, y] rfl (pair_src hx hy) k0 (by simp only [maxLen]; omega) (by omega) (Nat.zero_le _)
 have happ' : ∀ ty, (Builtin.append_ #[79, 79] ty #[.slice (some ⟨g, 0, none⟩) n cap, .slice (some ⟨g2, o2, none⟩) 1 c2]).run Tryz.prog w = .ok v' W := fun ty => happ
 have key : Calls Tryz.prog 114 #[.slice (some ⟨g, 0, none⟩) n cap, .int .i64 n, .slice (some ⟨g2, o2, none⟩) 1 c2] w fun e w' => e = .returned v' ∧ w' = W := by
  clear hz0 hb0 hs0 hi0 hx hy k0 hor hown hgrow hnil hat happ hg hcs hxs hxl
  have hmix := mixedD
  go_enter Tryz.func114, Tryz.ntmps114
  go_wp2_with (at_builtin; refine wpList_app rfl _ _ _ _ rfl _ _ rfl rfl _ _ happ' ?_)
  all_goals
   go_ret
   exact ⟨rfl, rfl⟩
 refine key.mono ?_
 rintro e w' ⟨rfl, rfl⟩
 exact ⟨v', rfl, hown, by simpa [Value.ownBlock] using hgrow, (fun e => by have := (hnil.1 e).1; cases this), by simpa [Value.ownBlock] using hat⟩
theorem layFrom_list : ∀ (vs : List Value) (o : Nat) (arr : Array Value), o + vs.length ≤ arr.size → (layFrom arr o vs).toList = arr.toList.take o ++ vs ++ arr.toList.drop (o + vs.length)
 | [], o, arr, _ => by simp [layFrom]
 | v :: r, o, arr, h => by
  have h : o + (r.length + 1) ≤ arr.size := h
  show (layFrom (arr.setIfInBounds o v) (o + 1) r).toList = _
  rw [layFrom_list r (o + 1) _ (by simp; omega)]
  have e : (arr.setIfInBounds o v).toList = arr.toList.set o v := by simp
  rw [e]
  have hl : o < arr.toList.length := by simp; omega
  rw [List.set_eq_take_append_cons_drop, if_pos hl]
  have h1 : (arr.toList.take o).length = o := by rw [List.length_take]; omega
  have t1 : (arr.toList.take o ++ v :: arr.toList.drop (o + 1)).take (o + 1) = arr.toList.take o ++ [v] := by
   rw [List.take_append, h1, List.take_of_length_le (by omega), show o + 1 - o = 1 by omega]; rfl
  have t2 : (arr.toList.take o ++ v :: arr.toList.drop (o + 1)).drop (o + 1 + r.length) = arr.toList.drop (o + (v :: r).length) := by
   rw [List.drop_append, h1, List.drop_of_length_le (by omega), show o + 1 + r.length - o = r.length + 1 by omega, List.nil_append, List.drop_succ_cons, List.drop_drop]
   congr 1
   simp only [List.length_cons]; omega
  rw [t1, t2, List.append_assoc, List.append_assoc, List.append_assoc, List.singleton_append]
  rfl
theorem lay_ins {arr : Array Value} {xs : List Value} {x y : Value} {i n : Nat} (hi : i ≤ n) (hxl : xs.length = n * 2) (hA : (n + 1) * 2 ≤ arr.size) (h : arr.toList.take (i * 2) = xs.take (i * 2)) :
  (layFrom (layFrom arr (i * 2) [x, y]) ((i + 1) * 2) (xs.drop (i * 2))).toList.take ((n + 1) * 2) = xs.take (i * 2) ++ [x, y] ++ xs.drop (i * 2) := by
 have hs1 : (layFrom arr (i * 2) [x, y]).size = arr.size := size_layFrom _ _ _
 have hd : (xs.drop (i * 2)).length = (n - i) * 2 := by rw [List.length_drop, hxl, Nat.sub_mul]
 have h1 : (arr.toList.take (i * 2)).length = i * 2 := by rw [List.length_take, Array.length_toList]; omega
 have hb : (i + 1) * 2 + (n - i) * 2 = (n + 1) * 2 := by omega
 rw [layFrom_list _ _ _ (by rw [hd, hs1]; omega), layFrom_list _ _ _ (by simp only [List.length_cons, List.length_nil]; omega)]
 have t1 : (arr.toList.take (i * 2) ++ [x, y] ++ arr.toList.drop (i * 2 + [x, y].length)).take ((i + 1) * 2) = xs.take (i * 2) ++ [x, y] := by
  rw [List.take_append, List.take_of_length_le (by simp only [List.length_append, List.length_cons, List.length_nil]; omega), show (i + 1) * 2 - (arr.toList.take (i * 2) ++ [x, y]).length = 0 by simp only [List.length_append, List.length_cons, List.length_nil]; omega, List.take_zero, List.append_nil, h]
 rw [t1]
 refine List.take_left' ?_
 simp only [List.length_append, List.length_cons, List.length_nil, hd]
 rw [← h, h1]
 omega
theorem lay_ins2 {arr : Array Value} {xs : List Value} {x y : Value} {i n : Nat} (hi : i ≤ n) (hxl : xs.length = n * 2) (hA : (n + 1) * 2 ≤ arr.size) (h : arr.toList.take (i * 2) = xs.take (i * 2)) :
  (layFrom (layFrom arr ((i + 1) * 2) (xs.drop (i * 2))) (i * 2) [x, y]).toList.take ((n + 1) * 2) = xs.take (i * 2) ++ [x, y] ++ xs.drop (i * 2) := by
 have hs1 : (layFrom arr ((i + 1) * 2) (xs.drop (i * 2))).size = arr.size := size_layFrom _ _ _
 have hd : (xs.drop (i * 2)).length = (n - i) * 2 := by rw [List.length_drop, hxl, Nat.sub_mul]
 have hb : (i + 1) * 2 + (n - i) * 2 = (n + 1) * 2 := by omega
 have h1 : (arr.toList.take (i * 2)).length = i * 2 := by rw [List.length_take, Array.length_toList]; omega
 have h2 : (arr.toList.take ((i + 1) * 2)).length = (i + 1) * 2 := by rw [List.length_take, Array.length_toList]; omega
 rw [layFrom_list _ _ _ (by simp only [List.length_cons, List.length_nil]; omega), layFrom_list _ _ _ (by rw [hd]; omega)]
 have t1 : (arr.toList.take ((i + 1) * 2) ++ xs.drop (i * 2) ++ arr.toList.drop ((i + 1) * 2 + (xs.drop (i * 2)).length)).take (i * 2) = xs.take (i * 2) := by
  rw [List.append_assoc, List.take_append, h2, show i * 2 - (i + 1) * 2 = 0 by omega, List.take_zero, List.append_nil, List.take_take, Nat.min_eq_left (by omega), h]
 have t2 : (arr.toList.take ((i + 1) * 2) ++ xs.drop (i * 2) ++ arr.toList.drop ((i + 1) * 2 + (xs.drop (i * 2)).length)).drop (i * 2 + [x, y].length) = xs.drop (i * 2) ++ arr.toList.drop ((i + 1) * 2 + (xs.drop (i * 2)).length) := by
  rw [List.append_assoc, List.drop_append, h2, List.drop_of_length_le (by simp only [List.length_cons, List.length_nil]; omega), show i * 2 + [x, y].length - (i + 1) * 2 = 0 by simp only [List.length_cons, List.length_nil]; omega, List.nil_append, List.drop_zero]
 rw [t1, t2, ← List.append_assoc]
 refine List.take_left' ?_
 simp only [List.length_append, List.length_cons, List.length_nil, hd]
 rw [← h, h1]
 omega
theorem drop_src {W : World} {g n i : Nat} {cur : Array Value} {t : TypeId} {xs : List Value} (hg : W.heap[g]? = some (.cells cur t (0, 0))) (hxs : cur.toList.take (n * 2) = xs) : ∀ j v, (xs.drop (i * 2))[j]? = some v → W.cell? ((⟨g, i * 2, none⟩ : Addr).add j) = some v := fun j v hj => by
 rw [addr_add, cell_of_row W g _ cur t _ hg]
 rw [List.getElem?_drop, ← hxs, List.getElem?_take] at hj
 split at hj
 ·rw [Array.getElem?_toList] at hj; exact hj
 ·cases hj
set_option maxHeartbeats 4000000 in
set_option maxRecDepth 1000000 in
theorem Tryz.ins_growG (g n i : Nat) (cur : Array Value) (xs : List Value) (x y : Value) (g2 o2 c2 : Nat) (w : World) (hn : n ≤ 1000) (hi : i < n) (hg : w.heap[g]? = some (.cells cur 152 (0, 0))) (hcs : cur.size = n * 2) (hxs : cur.toList.take (n * 2) = xs) (hxl : xs.length = n * 2) (hg2 : g2 < w.heap.size)
  (hx : w.cell? ⟨g2, o2, none⟩ = some x) (hy : w.cell? ⟨g2, o2 + 1, none⟩ = some y) (k0 : ∀ v ∈ [x, y], v.oneCell' = true) (k1 : ∀ v ∈ xs, v.oneCell' = true) :
  Calls Tryz.prog 114 #[.slice (some ⟨g, 0, none⟩) n n, .int .i64 i, .slice (some ⟨g2, o2, none⟩) 1 c2] w fun e w' => ∃ cap' cur', e = .returned (.slice (some ⟨w.heap.size, 0, none⟩) (n + 1) cap') ∧ w'.heap[w.heap.size]? = some (.cells cur' 152 (0, 0)) ∧ cur'.size = cap' * 2 ∧ n + 1 ≤ cap' ∧ cap' ≤ maxLen ∧ cur'.toList.take ((n + 1) * 2) = xs.take (i * 2) ++ [x, y] ++ xs.drop (i * 2) ∧
   (∀ k, k < w.heap.size → w'.heap[k]? = w.heap[k]?) ∧ w.heap.size ≤ w'.heap.size ∧ w'.os = w.os ∧ w'.tape = w.tape ∧ w'.output = w.output := by
 have hgs : g < w.heap.size := (Array.getElem?_eq_some_iff.1 hg).1
 obtain ⟨i0, hi0, hs0, hb0, hz0⟩ := Tryz.layer_info
 have htl : (xs.take (i * 2)).length = i * 2 := by rw [List.length_take]; omega
 have hdl : (xs.drop (i * 2)).length = (n - i) * 2 := by rw [List.length_drop, hxl, Nat.sub_mul]
 have hold : (Builtin.firstCells i0.size i (.slice (some ⟨g, 0, none⟩) i n)).run Tryz.prog w.drew = .ok (xs.take (i * 2)).toArray w.drew :=
  run_firstCells_some _ _ i _ i n _ (by rw [htl, hs0]) (fun j v hj => by
   have hd : w.drew.heap[g]? = some (.cells cur 152 (0, 0)) := hg
   rw [addr_add, cell_of_row w.drew g _ cur _ _ hd, Nat.zero_add]
   rw [List.getElem?_take, ← hxs] at hj
   split at hj
   ·rw [List.getElem?_take] at hj
    split at hj
    ·rw [Array.getElem?_toList] at hj; exact hj
    ·cases hj
   ·cases hj)
 have hik : i + (n + 1 - i) = n + 1 := by omega
 have happ : ∃ C ARR W, (∀ ty, (Builtin.append_ #[79, 3] ty #[.slice (some ⟨g, 0, none⟩) i n, .int .i64 ((n : Int) + 1 - (i : Int))]).run Tryz.prog w = .ok (.slice (some ⟨w.heap.size, 0, none⟩) (n + 1) C) W) ∧ n + 1 ≤ C ∧ C ≤ maxLen ∧ W.heap[w.heap.size]? = some (.cells ARR 152 (0, 0)) ∧ ARR.size = C * 2 ∧ ARR.toList.take (i * 2) = xs.take (i * 2) ∧
   (∀ k, k < w.heap.size → W.heap[k]? = w.heap[k]?) ∧ W.heap.size = w.heap.size + 1 ∧ W.os = w.os ∧ W.tape = w.tape ∧ W.output = w.output := by
  have hge := grownCap_ge w (n + 1) n 152
  have hle := grownCap_le_maxLen w (n + 1) n 152 (by simp only [maxLen]; omega)
  refine ⟨_, _, _, fun ty => by
   have h := Lib.run_append_grow_zeros w 79 3 ty 152 i0 _ .i64 .i64 Tryz.underlying79 Tryz.underlying3 hi0 hz0 (some ⟨g, 0, none⟩) i n (xs.take (i * 2)) hold (n + 1 - i) (by omega) (by omega) (by omega) (by omega) (by rw [hb0]; omega) (by rw [hb0, hik]; exact growslice_fits (by omega) (by omega))
   rw [hik, show ((n + 1 - i : Nat) : Int) = (n : Int) + 1 - (i : Int) by omega] at h
   exact h, hge, hle, heap_new w.drew _, ?_, ?_, fun k hk => by show (w.drew.heap.push _)[k]? = _; rw [Array.getElem?_push_lt (show k < w.drew.heap.size from hk)]; exact (Array.getElem?_eq_getElem hk).symm, by simp [World.alloc], rfl, rfl, rfl⟩
  ·simp [Builtin.zeroCells, Value.cells]
   omega
  ·rw [Array.toList_append, Array.toList_append, List.append_assoc]
   exact List.take_left' htl
 obtain ⟨C, ARR, W1, happ, hC, hCm, hW1, hA, hA0, hk1, hsz1, os1, tp1, ou1⟩ := happ
 have zL : ∀ w, (sizeOf 152).run Tryz.prog w = .ok 2 w := fun w => by simp [sizeOf, typeInfo, hi0, hs0]
 have hAs : (n + 1) * 2 ≤ ARR.size := by omega
 obtain ⟨W2, hc2, hW2, ho2, hsz2, os2, tp2, ou2⟩ := copy_ok (P := Tryz.prog) (sT := 79) Tryz.underlying79 zL hW1 (i * 2) (n + 1 - i) (C - i) ⟨g2, o2, none⟩ 1 c2 1 [x, y] (Nat.min_eq_left (by omega)) rfl (pair_src (cell_same (hk1 g2 hg2) hx) (cell_same (hk1 g2 hg2) hy)) (by simp only [List.length_cons, List.length_nil]; omega) k0
 have hgn : g ≠ w.heap.size := by omega
 have hh2 : ∀ k, k < w.heap.size → W2.drew.heap[k]? = w.heap[k]? := fun k hk => (ho2 k (by omega)).trans (hk1 k hk)
 obtain ⟨W3, hc3, hW3, ho3, hsz3, os3, tp3, ou3⟩ := copy_ok (P := Tryz.prog) (W := W2.drew) (sT := 79) Tryz.underlying79 zL hW2 ((i + 1) * 2) (n - i) (C - (i + 1)) ⟨g, i * 2, none⟩ (n - i) (n - i) (n - i) (xs.drop (i * 2)) (Nat.min_self _) hdl (drop_src ((hh2 g hgs).trans hg) hxs) (by rw [size_layFrom, hA, hdl]; omega) (fun v hv => k1 v (List.mem_of_mem_drop hv))
 have key : Calls Tryz.prog 114 #[.slice (some ⟨g, 0, none⟩) n n, .int .i64 i, .slice (some ⟨g2, o2, none⟩) 1 c2] w fun e w' => e = .returned (.slice (some ⟨w.heap.size, 0, none⟩) (n + 1) C) ∧ w' = W3 := by
  clear hold hz0 hb0 hs0 hi0 zL hx hy hk1 hh2 ho2 ho3 hW1 hW2 hW3 k0 k1 hxs hg hcs hA0 hA hAs htl hdl hxl
  have hmix := mixedD
  have w1 : IntKind.i64.wrap ((n : Int) + 1) = ((n + 1 : Nat) : Int) := by rw [IntKind.wrap_i64]; omega
  have w2 : IntKind.i64.wrap (((n + 1 : Nat) : Int) - (i : Int)) = ((n + 1 - i : Nat) : Int) := by rw [IntKind.wrap_i64]; omega
  have w3 : IntKind.i64.wrap ((i : Int) + 1) = ((i + 1 : Nat) : Int) := by rw [IntKind.wrap_i64]; omega
  go_enter Tryz.func114, Tryz.ntmps114
  go_wp2_with (at_builtin; refine wpList_app rfl _ _ _ _ rfl _ _ rfl rfl _ _ happ ?_)
  go_region
  go_wp2
  all_goals
   go_ret
   exact ⟨rfl, rfl⟩
 refine key.mono ?_
 rintro e w' ⟨rfl, rfl⟩
 exact ⟨C, _, rfl, hW3, by rw [size_layFrom, size_layFrom, hA], hC, hCm, lay_ins (by omega) hxl hAs hA0, fun k hk => (ho3 k (by omega)).trans (hh2 k hk), by have : W2.drew.heap.size = W2.heap.size := rfl; omega, os3.trans (os2.trans os1), tp3.trans (tp2.trans tp1), ou3.trans (ou2.trans ou1)⟩
set_option maxHeartbeats 4000000 in
set_option maxRecDepth 1000000 in
theorem Tryz.ins_roomG (g n i cap : Nat) (cur : Array Value) (xs : List Value) (x y : Value) (g2 o2 c2 : Nat) (cur2 : Array Value) (t2 : TypeId) (w : World) (hn : n ≤ 1000) (hi : i < n) (hg : w.heap[g]? = some (.cells cur 152 (0, 0))) (hcs : cur.size = cap * 2) (hcap : n + 1 ≤ cap) (_hcm : cap ≤ maxLen) (hxs : cur.toList.take (n * 2) = xs) (hxl : xs.length = n * 2) (hg2 : w.heap[g2]? = some (.cells cur2 t2 (0, 0))) (hne : g2 ≠ g)
  (hx : w.cell? ⟨g2, o2, none⟩ = some x) (hy : w.cell? ⟨g2, o2 + 1, none⟩ = some y) (k0 : ∀ v ∈ [x, y], v.oneCell' = true) (k1 : ∀ v ∈ xs, v.oneCell' = true) :
  Calls Tryz.prog 114 #[.slice (some ⟨g, 0, none⟩) n cap, .int .i64 i, .slice (some ⟨g2, o2, none⟩) 1 c2] w fun e w' => ∃ cur', e = .returned (.slice (some ⟨g, 0, none⟩) (n + 1) cap) ∧ w'.heap[g]? = some (.cells cur' 152 (0, 0)) ∧ cur'.size = cap * 2 ∧ cur'.toList.take ((n + 1) * 2) = xs.take (i * 2) ++ [x, y] ++ xs.drop (i * 2) ∧
   (∀ k, k ≠ g → w'.heap[k]? = w.heap[k]?) ∧ w'.heap.size = w.heap.size ∧ w'.os = w.os ∧ w'.tape = w.tape ∧ w'.output = w.output := by
 obtain ⟨i0, hi0, hs0, hb0, hz0⟩ := Tryz.layer_info
 have zL : ∀ w, (sizeOf 152).run Tryz.prog w = .ok 2 w := fun w => by simp [sizeOf, typeInfo, hi0, hs0]
 have hdl : (xs.drop (i * 2)).length = (n - i) * 2 := by rw [List.length_drop, hxl, Nat.sub_mul]
 have hov : ∀ lb cb, (callFunc 141 #[.slice (some ⟨g2, o2, none⟩) 1 c2, .slice (some ⟨g, (i + 1) * 2, none⟩) lb cb]).run Tryz.prog w = .ok (.value (.bool false)) w := fun lb cb => by
  rw [run_callFunc_extern Tryz.func141 (by kernel_rfl) (by kernel_rfl) (by kernel_rfl) (e := Extern.SlicesOverlaps.overlaps #[79, 79] #[4]) (by kernel_rfl),
   Lib.run_overlaps_apart w 79 4 152 Tryz.underlying79 2 zL ⟨g2, o2, none⟩ ⟨g, (i + 1) * 2, none⟩ 1 c2 lb cb hne t2 152 cur2.size cur.size (by simp [World.shape?, hg2]) (by simp [World.shape?, hg]) (by omega) (frozen_of_row w g2 _ cur2 t2 hg2) (frozen_of_row w g2 _ cur2 t2 hg2)]
  rfl
 have hgd : w.drew.heap[g]? = some (.cells cur 152 (0, 0)) := hg
 have htk : cur.toList.take (i * 2) = xs.take (i * 2) := by rw [← hxs, List.take_take, Nat.min_eq_left (by omega)]
 obtain ⟨W2, hc2, hW2, ho2, hsz2, os2, tp2, ou2⟩ := copy_ok (P := Tryz.prog) (W := w.drew) (sT := 79) Tryz.underlying79 zL hgd ((i + 1) * 2) (n - i) (cap - (i + 1)) ⟨g, i * 2, none⟩ (n + 1 - i) (cap - i) (n - i) (xs.drop (i * 2)) (Nat.min_eq_right (by omega)) hdl (drop_src hgd hxs) (by rw [hdl, hcs]; omega) (fun v hv => k1 v (List.mem_of_mem_drop hv))
 obtain ⟨W3, hc3, hW3, ho3, hsz3, os3, tp3, ou3⟩ := copy_ok (P := Tryz.prog) (W := W2) (sT := 79) Tryz.underlying79 zL hW2 (i * 2) (n + 1 - i) (cap - i) ⟨g2, o2, none⟩ 1 c2 1 [x, y] (Nat.min_eq_left (by omega)) rfl (pair_src (cell_same (ho2 g2 hne) hx) (cell_same (ho2 g2 hne) hy)) (by rw [size_layFrom, hcs]; simp; omega) k0
 have key : Calls Tryz.prog 114 #[.slice (some ⟨g, 0, none⟩) n cap, .int .i64 i, .slice (some ⟨g2, o2, none⟩) 1 c2] w fun e w' => e = .returned (.slice (some ⟨g, 0, none⟩) (n + 1) cap) ∧ w' = W3 := by
  clear hz0 hb0 hs0 hi0 zL hx hy ho2 ho3 hW2 hW3 hg hgd hg2 hcs k0 k1 hxs hxl hdl htk
  have hmix := mixedD
  go_enter Tryz.func114, Tryz.ntmps114
  go_wp2_with (simp only [hov])
  go_region
  go_wp2
  all_goals
   go_ret
   exact ⟨rfl, rfl⟩
 refine key.mono ?_
 rintro e w' ⟨rfl, rfl⟩
 exact ⟨_, rfl, hW3, by rw [size_layFrom, size_layFrom, hcs], lay_ins2 (by omega) hxl (by omega) htk, fun k hk => (ho3 k hk).trans (ho2 k hk), hsz3.trans hsz2, os3.trans os2, tp3.trans tp2, ou3.trans ou2⟩
set_option maxHeartbeats 2000000 in
set_option maxRecDepth 1000000 in
theorem Tryz.ins_nil (x y : Value) (g2 o2 c2 : Nat) (w : World) (hx : w.cell? ⟨g2, o2, none⟩ = some x) (hy : w.cell? ⟨g2, o2 + 1, none⟩ = some y) (k0 : ∀ v ∈ [x, y], v.oneCell' = true) :
  Calls Tryz.prog 114 #[.slice none 0 0, .int .i64 0, .slice (some ⟨g2, o2, none⟩) 1 c2] w fun e w' => ∃ v', e = .returned v' ∧ w'.ownsRow 0 152 2 v' 1 [x, y] ∧ w.grownBy w' none ∧ v' ≠ .slice none 0 0 ∧ v'.ownBlock = some w.heap.size := by
 obtain ⟨i0, hi0, hs0, hb0, hz0⟩ := Tryz.layer_info
 obtain ⟨v', W, happ, hown, hgrow, hnil, hat⟩ := run_append_own_at (P := Tryz.prog) w 0 79 79 152 i0 _ 2 16 Tryz.underlying79 hi0 hz0 hs0 hb0 rfl (by decide) _ 0 [] (World.ownsRow_nil w 0 152 2) ⟨g2, o2, none⟩ 1 c2 [x, y] rfl (pair_src hx hy) k0 (by decide) (by omega) (Nat.zero_le _)
 have happ' : ∀ ty, (Builtin.append_ #[79, 79] ty #[.slice none 0 0, .slice (some ⟨g2, o2, none⟩) 1 c2]).run Tryz.prog w = .ok v' W := fun ty => happ
 have key : Calls Tryz.prog 114 #[.slice none 0 0, .int .i64 0, .slice (some ⟨g2, o2, none⟩) 1 c2] w fun e w' => e = .returned v' ∧ w' = W := by
  clear hz0 hb0 hs0 hi0 hx hy k0 hown hgrow hnil hat happ
  have hmix := mixedD
  go_enter Tryz.func114, Tryz.ntmps114
  go_wp2_with (at_builtin; refine wpList_app rfl _ _ _ _ rfl _ _ rfl rfl _ _ happ' ?_)
  all_goals
   go_ret
   exact ⟨rfl, rfl⟩
 refine key.mono ?_
 rintro e w' ⟨rfl, rfl⟩
 have hne : v' ≠ .slice none 0 0 := fun e => by have := (hnil.1 e).2; cases this
 refine ⟨v', rfl, hown, by simpa [Value.ownBlock] using hgrow, hne, ?_⟩
 rcases hat with hat | hat
 ·rcases hown.2 with ⟨rfl, _⟩ | ⟨g', cap', cur', rfl, _⟩
  ·exact absurd rfl hne
  ·simp [Value.ownBlock] at hat
 ·exact hat
theorem Tryz.ins_any (g n i cap : Nat) (cur : Array Value) (xs : List Value) (x y : Value) (g2 o2 c2 : Nat) (cur2 : Array Value) (t2 : TypeId) (w : World) (hn : n ≤ 1000) (hi : i ≤ n) (hg : w.heap[g]? = some (.cells cur 152 (0, 0))) (hcs : cur.size = cap * 2) (hcap : n ≤ cap) (hcm : cap ≤ maxLen) (hxs : cur.toList.take (n * 2) = xs) (hxl : xs.length = n * 2) (hg2 : w.heap[g2]? = some (.cells cur2 t2 (0, 0))) (hne : g2 ≠ g)
  (hx : w.cell? ⟨g2, o2, none⟩ = some x) (hy : w.cell? ⟨g2, o2 + 1, none⟩ = some y) (k0 : ∀ v ∈ [x, y], v.oneCell' = true) (k1 : ∀ v ∈ xs, v.oneCell' = true) :
  Calls Tryz.prog 114 #[.slice (some ⟨g, 0, none⟩) n cap, .int .i64 i, .slice (some ⟨g2, o2, none⟩) 1 c2] w fun e w' => ∃ v', e = .returned v' ∧ w'.ownsRow 0 152 2 v' (n + 1) (xs.take (i * 2) ++ [x, y] ++ xs.drop (i * 2)) ∧ w.grownBy w' (some g) ∧ v' ≠ .slice none 0 0 ∧ (v'.ownBlock = some g ∨ v'.ownBlock = some w.heap.size) := by
 have hlen : (xs.take (i * 2) ++ [x, y] ++ xs.drop (i * 2)).length = (n + 1) * 2 := by
  simp only [List.length_append, List.length_take, List.length_drop, List.length_cons, List.length_nil, hxl]; omega
 rcases Nat.lt_or_eq_of_le hi with hi | rfl
 ·by_cases hc : n + 1 ≤ cap
  ·refine (Tryz.ins_roomG g n i cap cur xs x y g2 o2 c2 cur2 t2 w hn hi hg hcs hc hcm hxs hxl hg2 hne hx hy k0 k1).mono ?_
   rintro e w' ⟨cur', rfl, q1, q2, q3, q4, q5, q6, q7, q8⟩
   exact ⟨_, rfl, ⟨hlen, .inr ⟨g, cap, cur', rfl, Nat.zero_le _, q1, hc, hcm, q2, q3⟩⟩, ⟨q6, q7, q8, Nat.le_of_eq q5.symm, fun k _ hk => q4 k (fun e => hk (by rw [e]))⟩, by simp, .inl rfl⟩
  ·obtain rfl : cap = n := by omega
   refine (Tryz.ins_growG g cap i cur xs x y g2 o2 c2 w hn hi hg hcs hxs hxl (Array.getElem?_eq_some_iff.1 hg2).1 hx hy k0 k1).mono ?_
   rintro e w' ⟨cap', cur', rfl, q1, q2, q3, q4, q5, q6, q7, q8, q9, q10⟩
   exact ⟨_, rfl, ⟨hlen, .inr ⟨_, cap', cur', rfl, Nat.zero_le _, q1, q3, q4, q2, q5⟩⟩, ⟨q8, q9, q10, q7, fun k hk _ => q6 k hk⟩, by simp, .inr rfl⟩
 ·rw [List.take_of_length_le (by omega), List.drop_of_length_le (by omega), List.append_nil]
  exact Tryz.ins_end g i cap cur xs x y g2 o2 c2 w hn hg hcs hcap hcm hxs hxl hx hy k0
end Go.Proofs
namespace Go.Ev
open Go Go.Proofs
set_option maxRecDepth 100000
def insF (z : Nat → Int) (i : Nat) (x : Int) : Nat → Int := fun k => match Nat.blt k i with
 | true => z k
 | false => match Nat.beq k i with
  | true => x
  | false => z (k - 1)
def insSp : Spec := fun args h => match args with
 | [.one (.sl true id 0 2 0 n), .one (.lit (.int .i64 i)), .one (.sl _ id2 k2 2 0 1)] => match h.blk id, h.blk id2 with
  | some ⟨false, e, .rows n' [.int .i64 z1, .int .i64 z2]⟩, some ⟨false, _, .flat cs2⟩ => match Nat.beq e 152 && !Nat.beq id id2, cs2.drop (k2 * 2) with
   | true, .lit (.int .i64 x) :: .lit (.int .i64 y) :: _ => .need (Nat.ble n n' && Nat.ble n 1000 && (decide (0 ≤ i) && decide (i ≤ (n : Int)))) ((Hp.alloc { h with heap := h.heap.set D id none, low := min h.low id } ⟨false, e, .rows (n + 1) [.int .i64 (insF z1 i.toNat x), .int .i64 (insF z2 i.toNat y)]⟩).bind fun p => .leaf (.one (.sl true p.1 0 2 0 (n + 1)), p.2))
   | _, _ => .fail 420
  | _, _ => .fail 421
 | [.one (.lit (.slice none 0 0)), .one (.lit (.int .i64 i)), .one (.sl _ id2 k2 2 0 1)] => match h.blk id2 with
  | some ⟨false, _, .flat cs2⟩ => match cs2.drop (k2 * 2) with
   | .lit (.int .i64 x) :: .lit (.int .i64 y) :: _ => .need (i == 0) ((h.alloc ⟨false, 152, .rows 1 [.int .i64 fun _ => x, .int .i64 fun _ => y]⟩).bind fun p => .leaf (.one (.sl true p.1 0 2 0 1), p.2))
   | _ => .fail 422
  | _ => .fail 422
 | _ => .fail 423
theorem list_ins {E : Env} {n i : Nat} {z1 z2 : Nat → Int} {x y : Int} {xs : List Value} (hi : i ≤ n) (hl : xs.length = n * 2) (h : ListIs E n [.int .i64 z1, .int .i64 z2] xs) :
  ListIs E (n + 1) [.int .i64 (insF z1 i x), .int .i64 (insF z2 i y)] (xs.take (i * 2) ++ [.int .i64 x, .int .i64 y] ++ xs.drop (i * 2)) := by
 have ht : (xs.take (i * 2)).length = i * 2 := by rw [List.length_take]; omega
 have key : ∀ (k j : Nat) (c : Col), k < n + 1 → nth [Col.int .i64 (insF z1 i x), .int .i64 (insF z2 i y)] j = some c → j < 2 ∧ ∃ z : Nat → Int, ∃ u : Int, c = .int .i64 (insF z i u) ∧ nth [Col.int .i64 z1, .int .i64 z2] j = some (.int .i64 z) ∧ [Value.int .i64 x, .int .i64 y][j]? = some (.int .i64 u) := fun k j c _ hj => by
  match j, hj with
  | 0, hj => injection hj with hj; exact ⟨by omega, z1, x, hj.symm, rfl, rfl⟩
  | 1, hj => injection hj with hj; exact ⟨by omega, z2, y, hj.symm, rfl, rfl⟩
  | j + 2, hj => cases hj
 intro k j c hk hj
 obtain ⟨hj2, z, u, rfl, hz, hu⟩ := key k j c hk hj
 show ∃ v, (xs.take (i * 2) ++ [.int .i64 x, .int .i64 y] ++ xs.drop (i * 2))[k * 2 + j]? = some v ∧ C.Is E (.lit (.int .i64 (insF z i u k))) v
 unfold insF
 rcases Nat.lt_or_ge k i with h1 | h1
 ·rw [show Nat.blt k i = true by rw [Nat.blt_eq]; exact h1]
  obtain ⟨v, hv, hi'⟩ := h k j _ (by omega) hz
  refine ⟨v, ?_, hi'⟩
  rw [List.append_assoc, List.getElem?_append_left (by omega), List.getElem?_take, if_pos (by omega)]
  exact hv
 ·rw [show Nat.blt k i = false by rw [← Bool.not_eq_true, Nat.blt_eq]; omega]
  rcases Nat.lt_or_eq_of_le h1 with h2 | rfl
  ·rw [show Nat.beq k i = false by rw [← Bool.not_eq_true, Nat.beq_eq]; omega]
   obtain ⟨v, hv, hi'⟩ := h (k - 1) j _ (by omega) hz
   refine ⟨v, ?_, hi'⟩
   have hv : xs[(k - 1) * 2 + j]? = some v := hv
   rw [List.getElem?_append_right (by simp only [List.length_append, ht, List.length_cons, List.length_nil]; omega), List.getElem?_drop, ← hv]
   congr 1
   simp only [List.length_append, ht, List.length_cons, List.length_nil]; omega
  ·rw [Nat.beq_refl]
   refine ⟨.int .i64 u, ?_, rfl, rfl⟩
   rw [List.getElem?_append_left (by simp only [List.length_append, ht, List.length_cons, List.length_nil]; omega), List.getElem?_append_right (by omega), ht, Nat.add_sub_cancel_left]
   exact hu
theorem insSp_ok : SpecOk Tryz.prog 114 insSp := by
 intro args h v h' hr E w vals rh hargs
 unfold insSp at hr
 split at hr
 ·rename_i id1 n i own2 id2 k2
  split at hr
  ·rename_i e n' z1 z2 e2 cs2 hb1 hb2
   split at hr
   ·rename_i x y rest hcond hdrop
    simp only [Bool.and_eq_true, Bool.not_eq_true'] at hcond
    obtain rfl := Nat.eq_of_beq_eq_true hcond.1
    obtain ⟨hnd, hr⟩ := Tree.need_some hr
    simp only [Bool.and_eq_true, decide_eq_true_eq] at hnd
    have hnn := Nat.le_of_ble_eq_true hnd.1.1
    have hnk := Nat.le_of_ble_eq_true hnd.1.2
    obtain ⟨⟨id, h1⟩, hal, hr⟩ := Tree.bind_some hr
    simp only [Tree.run, Option.some.injEq, Prod.mk.injEq] at hr
    obtain ⟨rfl, rfl⟩ := hr
    match vals, hargs with
    | [p, q, r], ⟨hy1, ⟨hq, _⟩, hy2, _⟩ =>
     obtain ⟨bn1, sz1, o1, cap1, hE1, hp, hnc1, hcm1, ho1, hown1⟩ := sl_some hy1 (.inl rfl)
     obtain ⟨bn2, sz2, o2, cap2, hE2, hrr, hnc2, hcm2, ho2, _⟩ := sl_some hy2 (.inr (by omega))
     subst hp; subst hq; subst hrr
     obtain ⟨rfl, _, _, hs1⟩ := hown1 rfl
     have ho2 := ho2 (by omega)
     obtain ⟨p1, hp1, arr1, fz1, ⟨ty1, hh1, hty1⟩, hsz1, hbd1, hfz1⟩ := rh.cells hb1 rfl
     obtain rfl : p1 = (bn1, sz1) := Option.some.inj (hp1.symm.trans hE1)
     obtain ⟨p2, hp2, arr2, fz2, ⟨ty2, hh2, hty2⟩, hsz2, hbd2, hfz2⟩ := rh.cells hb2 rfl
     obtain rfl : p2 = (bn2, sz2) := Option.some.inj (hp2.symm.trans hE2)
     obtain rfl := hty1 rfl
     rw [roIs_fz hfz1 rfl] at hh1
     rw [roIs_fz hfz2 rfl] at hh2
     obtain ⟨_, hbd1⟩ := hbd1.own rfl
     obtain ⟨hz2, hbd2⟩ := hbd2.own rfl
     have hz2 : sz2.2 = 0 := hz2
     rw [hz2, Nat.zero_add] at ho2
     have d0 : cs2[k2 * 2 + 0]? = some (.lit (.int .i64 x)) := by rw [← List.getElem?_drop, hdrop]; rfl
     have d1 : cs2[k2 * 2 + 1]? = some (.lit (.int .i64 y)) := by rw [← List.getElem?_drop, hdrop]; rfl
     obtain ⟨vx, hx, ix⟩ := hbd2 (k2 * 2 + 0) _ (by rw [nth_eq]; exact d0)
     obtain ⟨vy, hy, iy⟩ := hbd2 (k2 * 2 + 1) _ (by rw [nth_eq]; exact d1)
     obtain ⟨rfl, o1x⟩ := ix
     obtain ⟨rfl, o1y⟩ := iy
     have hne : bn2 ≠ bn1 := fun he => by
      have := rh.inj id1 id2 _ _ _ _ hb1 hb2 rfl hE1 hE2 he.symm
      subst this
      have h2 := hcond.2
      rw [Nat.beq_refl] at h2
      cases h2
     have hcx : w.cell? ⟨bn2, o2, none⟩ = some (.int .i64 x) := by rw [cell_of_row w bn2 _ arr2 _ _ hh2, ho2]; exact hx
     have hcy : w.cell? ⟨bn2, o2 + 1, none⟩ = some (.int .i64 y) := by rw [cell_of_row w bn2 _ arr2 _ _ hh2, ho2]; exact hy
     obtain ⟨i', rfl⟩ : ∃ i' : Nat, i = (i' : Int) := ⟨i.toNat, by omega⟩
     rw [Int.toNat_natCast] at hal
     obtain ⟨t1, t2⟩ := rows_take (k0 := 0) (n := n) hbd1 (by omega) (by show 0 < 2; omega)
     simp only [Nat.zero_mul, List.drop_zero, List.length_cons, List.length_nil, Nat.zero_add] at t1 t2
     have hli : ListIs E n [.int .i64 z1, .int .i64 z2] (arr1.toList.take (n * 2)) := t1
     have hone := hli.one (by show _ = n * 2; exact t2)
     refine (Tryz.ins_any bn1 n i' cap1 arr1 _ (.int .i64 x) (.int .i64 y) bn2 o2 cap2 arr2 _ w hnk (by omega) hh1 (by rw [hsz1, hs1]) hnc1 hcm1 rfl t2 hh2 hne hcx hcy (fun u hu => by
      simp only [List.mem_cons, List.not_mem_nil, or_false] at hu
      rcases hu with rfl | rfl <;> rfl) hone).mono ?_
     rintro e w' ⟨v', rfl, hown, hgrow, hnn', hat⟩
     obtain ⟨E', hv, hst⟩ := append_named rh hb1 rfl hE1 hh1 hown hgrow hnn' hat (list_ins (by omega) t2 hli) hal
     exact ⟨v', E', rfl, hv, hst⟩
   ·cases hr
  ·cases hr
 ·rename_i i own2 id2 k2
  split at hr
  ·rename_i e2 cs2 hb2
   split at hr
   ·rename_i x y rest hdrop
    obtain ⟨hnd, hr⟩ := Tree.need_some hr
    obtain rfl := eq_of_beq hnd
    obtain ⟨⟨id, h1⟩, hal, hr⟩ := Tree.bind_some hr
    simp only [Tree.run, Option.some.injEq, Prod.mk.injEq] at hr
    obtain ⟨rfl, rfl⟩ := hr
    match vals, hargs with
    | [p, q, r], ⟨⟨hp, _⟩, ⟨hq, _⟩, hy2, _⟩ =>
     obtain ⟨bn2, sz2, o2, cap2, hE2, hrr, hnc2, hcm2, ho2, _⟩ := sl_some hy2 (.inr (by omega))
     subst hp; subst hq; subst hrr
     have ho2 := ho2 (by omega)
     obtain ⟨p2, hp2, arr2, fz2, ⟨ty2, hh2, hty2⟩, hsz2, hbd2, hfz2⟩ := rh.cells hb2 rfl
     obtain rfl : p2 = (bn2, sz2) := Option.some.inj (hp2.symm.trans hE2)
     rw [roIs_fz hfz2 rfl] at hh2
     obtain ⟨hz2, hbd2⟩ := hbd2.own rfl
     have hz2 : sz2.2 = 0 := hz2
     rw [hz2, Nat.zero_add] at ho2
     have d0 : cs2[k2 * 2 + 0]? = some (.lit (.int .i64 x)) := by rw [← List.getElem?_drop, hdrop]; rfl
     have d1 : cs2[k2 * 2 + 1]? = some (.lit (.int .i64 y)) := by rw [← List.getElem?_drop, hdrop]; rfl
     obtain ⟨vx, hx, ix⟩ := hbd2 (k2 * 2 + 0) _ (by rw [nth_eq]; exact d0)
     obtain ⟨vy, hy, iy⟩ := hbd2 (k2 * 2 + 1) _ (by rw [nth_eq]; exact d1)
     obtain ⟨rfl, o1x⟩ := ix
     obtain ⟨rfl, o1y⟩ := iy
     have hcx : w.cell? ⟨bn2, o2, none⟩ = some (.int .i64 x) := by rw [cell_of_row w bn2 _ arr2 _ _ hh2, ho2]; exact hx
     have hcy : w.cell? ⟨bn2, o2 + 1, none⟩ = some (.int .i64 y) := by rw [cell_of_row w bn2 _ arr2 _ _ hh2, ho2]; exact hy
     refine (Tryz.ins_nil (.int .i64 x) (.int .i64 y) bn2 o2 cap2 w hcx hcy (fun u hu => by
      simp only [List.mem_cons, List.not_mem_nil, or_false] at hu
      rcases hu with rfl | rfl <;> rfl)).mono ?_
     rintro e w' ⟨v', rfl, hown, hgrow, hne, hat⟩
     obtain ⟨g, cap, cur, rfl, hg, hnc, hcm, hcs, htake, hnl⟩ := own_some hown hne
     have hgn : g = w.heap.size := by simpa [Value.ownBlock] using hat
     subst hgn
     have hli : ListIs E 1 [.int .i64 fun _ => x, .int .i64 fun _ => y] [Value.int .i64 x, .int .i64 y] := fun k j c hk hj => by
      obtain rfl : k = 0 := by omega
      match j, hj with
      | 0, hj => injection hj with hj; subst hj; exact ⟨_, rfl, rfl, rfl⟩
      | 1, hj => injection hj with hj; subst hj; exact ⟨_, rfl, rfl, rfl⟩
      | j + 2, hj => cases hj
     obtain ⟨hst, hE'⟩ := name_stp (b := { ro := false, elem := 152, body := .rows 1 [.int .i64 fun _ => x, .int .i64 fun _ => y] }) (g := w.heap.size) (arr := cur) (fun _ => False) rh rfl rfl rfl (fun _ hf => hf.elim) (Nat.le_refl _)
      (fun i b' hb' => ⟨hb', fun pp hpp => ⟨fun hf => hf, fun e => by have := rh.lt i pp hpp; omega⟩⟩) hg (hli.rows htake)
      (fun k hk _ => hgrow.block k hk (by simp)) hgrow.size hgrow.os hgrow.tape hgrow.output (fun _ hf => hf.elim) (.inl (Nat.le_refl _)) hal
     exact ⟨_, _, rfl, .inl ⟨_, _, 0, cap, hE', rfl, hnc, hcm, fun _ => by simp, fun _ => ⟨rfl, rfl, rfl, by rw [hcs]⟩⟩, hst⟩
   ·cases hr
  ·cases hr
 ·cases hr
end Go.Ev
namespace Go.Ev
open Go Go.Proofs
set_option maxRecDepth 100000
def fstO (p : Nat → Bool) : Nat → Nat → Option Nat
 | 0, _ => none
 | m + 1, k => match p k with
  | true => some k
  | false => fstO p m (k + 1)
def fstI (p : Nat → Bool) (n : Nat) : Int := match fstO p n 0 with
 | some i => (i : Int)
 | none => -1
theorem fstO_some {p : Nat → Bool} : ∀ {m k i : Nat}, fstO p m k = some i → k ≤ i ∧ i < k + m ∧ p i = true ∧ ∀ j, k ≤ j → j < i → p j = false
 | 0, _, _, h => by cases h
 | m + 1, k, i, h => by
  unfold fstO at h
  split at h
  ·rename_i hp
   injection h with h; subst h
   exact ⟨Nat.le_refl _, by omega, hp, fun j h1 h2 => by omega⟩
  ·rename_i hp
   obtain ⟨a1, a2, a3, a4⟩ := fstO_some (m := m) h
   refine ⟨by omega, by omega, a3, fun j h1 h2 => ?_⟩
   rcases Nat.lt_or_eq_of_le h1 with h3 | rfl
   ·exact a4 j h3 h2
   ·exact hp
theorem fstO_none {p : Nat → Bool} : ∀ {m k : Nat}, fstO p m k = none → ∀ j, k ≤ j → j < k + m → p j = false
 | 0, _, _, _, _, _ => by omega
 | m + 1, k, h, j, h1, h2 => by
  unfold fstO at h
  split at h
  ·cases h
  ·rename_i hp
   rcases Nat.lt_or_eq_of_le h1 with h3 | rfl
   ·exact fstO_none (m := m) h j h3 (by omega)
   ·exact hp
def finO (Y : Int → St) (Y0 : St) (n : Nat) (p : Nat → Bool) (k : Nat) : X × St := match fstO p (n - k) k with
 | some i => (.ret, Y (i : Int))
 | none => (.exit 0, Y0)
theorem finO_next {Y : Int → St} {Y0 : St} {n : Nat} {p : Nat → Bool} {k : Nat} (hk : k < n) (h : p k = false) : finO Y Y0 n p (k + 1) = finO Y Y0 n p k := by
 unfold finO
 rw [show n - k = (n - (k + 1)) + 1 by omega, fstO, h]
theorem finO_ret {Y : Int → St} {Y0 : St} {n : Nat} {p : Nat → Bool} {k : Nat} (hk : k < n) (h : p k = true) : finO Y Y0 n p k = (.ret, Y (k : Int)) := by
 unfold finO
 rw [show n - k = (n - (k + 1)) + 1 by omega, fstO, h]
theorem finO_end {Y : Int → St} {Y0 : St} {n : Nat} {p : Nat → Bool} : finO Y Y0 n p n = (.exit 0, Y0) := by
 unfold finO
 rw [Nat.sub_self]
 rfl
def warmP (z1 z2 : Nat → Int) (a b : Int) (k : Nat) : Bool := !(decide (w64 (z2 k * a) < w64 (b * z1 k)))
def nilP (z1 z2 : Nat → Int) (k : Nat) : Bool := z1 k == 0 && (z2 k == 0 && true)
def two2 (a b : Int) : Nat → Int := putF (putF (fun _ => 0) 0 a) 1 b
section
variable (n : Nat) (z1 z2 : Nat → Int) (a b : Int)
def xaTs : List TA := [⟨some 0, n, [.int .i64 z1, .int .i64 z2]⟩, ⟨some 1, 2, [.int .i64 (two2 a b)]⟩]
def xaHp : Hp := hpT (xaTs n z1 z2 a b) [] []
def xaFn : A := .one (.fn 113 [(1, 0, 1, 0)])
def xaB : St := { baseB 19 [slT 0 2 n, xaFn] (xaHp n z1 z2 a b) with keep := true }
def xaN (env : List (Nat × A)) : St := { stN 19 (envL env) (bsS (xaTs n z1 z2 a b) []) [] [] with keep := true }
def xaH (i : Int) : St := xaN n z1 z2 a b [(0, slT 0 2 n), (1, xaFn), (4, int 0), (6, slT 0 2 n), (7, int n), (8, int i)]
def xaX (e : Int) : St := xaN n z1 z2 a b [(4, int e)]
def xaX0 : St := xaX n z1 z2 a b 0
noncomputable def xaRe : Code → St → Tree (X × St) := recT Tryz.prog noTab
noncomputable def xaT (k : Nat) : Tree (X × St) := (xaRe (loopF Tryz.f112) (xaH n z1 z2 a b (k : Int))).bind (canonT [0, 1, 4, 6, 7, 8] [4] (xaB n z1 z2 a b))
noncomputable def xaO : Tree ((X × St) ⊕ (List Bool × St)) := evO xaRe (bodyOf Tryz.f112) [0, 1, 4, 6, 7, 8] [4] (xaB n z1 z2 a b)
noncomputable def xaP (q : X × St) : Tree ((X × St) ⊕ (List Bool × St)) := evO2 xaRe true (bodyOf Tryz.f112) (pathF Tryz.f112) [] [4] (xaB n z1 z2 a b) q
def xaR (e : Int) : St := xaN n z1 z2 a b [(4, int e)]
noncomputable def xaSk (k : Nat) : Sk (X × St) := .node (decide ((k : Int) < (n : Int))) (.need (decide (0 ≤ (k : Int)) && decide ((k : Int) < (n : Int))) (.need (Nat.blt (0 + Int.toNat (k : Int)) n) (.need (Nat.blt (0 + Int.toNat (k : Int)) n) (.node (warmP z1 z2 a b (0 + Int.toNat (k : Int))) (.leaf (.ret, xaX n z1 z2 a b (k : Int))) (.leaf (.normal, xaH n z1 z2 a b (IntKind.i64.wrap ((k : Int) + 1)))))))) (.leaf (.exit 0, xaX0 n z1 z2 a b))
theorem xaT_into (k : Nat) : xaT n z1 z2 a b k = into (xaT n z1 z2 a b k) (xaSk n z1 z2 a b k) := by kernel_rfl
theorem xaT_fits (k : Nat) : fits (xaT n z1 z2 a b k) (xaSk n z1 z2 a b k) = true := by kernel_rfl
theorem xaO_into : xaO n z1 z2 a b = into (xaO n z1 z2 a b) (.leaf (.inr (pathF Tryz.f112, xaH n z1 z2 a b ((0 : Nat) : Int)))) := by kernel_rfl
theorem xaO_fits : fits (xaO n z1 z2 a b) (.leaf (.inr (pathF Tryz.f112, xaH n z1 z2 a b ((0 : Nat) : Int)))) = true := by kernel_rfl
theorem xaP0_into : xaP n z1 z2 a b (.exit 0, xaX0 n z1 z2 a b) = into (xaP n z1 z2 a b (.exit 0, xaX0 n z1 z2 a b)) (.leaf (.inl (.ret, xaR n z1 z2 a b (-1)))) := by kernel_rfl
theorem xaP0_fits : fits (xaP n z1 z2 a b (.exit 0, xaX0 n z1 z2 a b)) (.leaf (.inl (.ret, xaR n z1 z2 a b (-1)))) = true := by kernel_rfl
theorem xaP1_into (e : Int) : xaP n z1 z2 a b (.ret, xaX n z1 z2 a b e) = into (xaP n z1 z2 a b (.ret, xaX n z1 z2 a b e)) (.leaf (.inl (.ret, xaR n z1 z2 a b e))) := by kernel_rfl
theorem xaP1_fits (e : Int) : fits (xaP n z1 z2 a b (.ret, xaX n z1 z2 a b e)) (.leaf (.inl (.ret, xaR n z1 z2 a b e))) = true := by kernel_rfl
theorem xa_loop (hn : n ≤ 1000000) : ComesF Tryz.prog (.loop (loopF Tryz.f112)) (xaB n z1 z2 a b) (xaH n z1 z2 a b ((0 : Nat) : Int)) fun q => q = finO (xaX n z1 z2 a b) (xaX0 n z1 z2 a b) n (warmP z1 z2 a b) 0 := by
 refine loop_count (recT_ok noTab_ok) rfl [0, 1, 4, 6, 7, 8] [4] (fun k => xaH n z1 z2 a b (k : Int)) (finO (xaX n z1 z2 a b) (xaX0 n z1 z2 a b) n (warmP z1 z2 a b)) n (xaT n z1 z2 a b) (xaSk n z1 z2 a b) (fun _ => rfl) (xaT_into n z1 z2 a b) (xaT_fits n z1 z2 a b) (fun k hk => ?_) (sk_no (rnd_end n) (sk_leaf finO_end.symm))
 obtain ⟨a1, a2, a3⟩ := rnd_lt hk
 refine sk_yes a1 (sk_need a2 (sk_need a3 (sk_need a3 ?_)))
 rw [idx_nat]
 refine sk_either (fun h => sk_leaf (rnd_ret ?_)) fun h => sk_leaf (rnd_next (by rw [wrap_succ (by omega)]; exact St.Le.refl _) (finO_next hk h))
 rw [finO_ret hk h]
theorem xa_left (e : Int) : Left2 Tryz.prog Tryz.f112 (xaHp n z1 z2 a b) (int e) (xaHp n z1 z2 a b) (.ret, xaR n z1 z2 a b e) := left_of (b := true) (by kernel_rfl)
theorem xa_call (hn : n ≤ 1000000) : CallAt Tryz.prog 112 [slT 0 2 n, xaFn] (xaHp n z1 z2 a b) (int (fstI (warmP z1 z2 a b) n)) (xaHp n z1 z2 a b) := by
 refine call_base (rec := xaRe) (recT_ok noTab_ok) (c := bodyOf Tryz.f112) (fn := Tryz.f112) Tryz.func112 (by kernel_rfl) (by kernel_rfl) (false, true) 1 [0, 1, 4, 6, 7, 8] [4] (sB := xaB n z1 z2 a b) (by kernel_rfl) (t := xaO n z1 z2 a b) (by delta xaO; rfl) (all_into (xaO_into n z1 z2 a b) (xaO_fits n z1 z2 a b) (SkLeads.all ?_))
 refine sk_leaf ⟨_, true, [], [4], xa_loop n z1 z2 a b hn, fun q hq => Leads.all ?_⟩
 subst hq
 unfold finO fstI
 rw [Nat.sub_zero]
 cases fstO (warmP z1 z2 a b) n 0 with
 | some i => exact leads_in (show _ = xaP n z1 z2 a b (.ret, xaX n z1 z2 a b (i : Int)) by delta xaP; rfl) (xaP1_into n z1 z2 a b (i : Int)) (xaP1_fits n z1 z2 a b (i : Int)) (sk_leaf (cutF_dn (xa_left n z1 z2 a b (i : Int))))
 | none => exact leads_in (show _ = xaP n z1 z2 a b (.exit 0, xaX0 n z1 z2 a b) by delta xaP; rfl) (xaP0_into n z1 z2 a b) (xaP0_fits n z1 z2 a b) (sk_leaf (cutF_dn (xa_left n z1 z2 a b (-1))))
end
section
variable (n : Nat) (z1 z2 : Nat → Int)
def xbTs : List TA := [⟨some 0, n, [.int .i64 z1, .int .i64 z2]⟩]
def xbHp : Hp := hpT (xbTs n z1 z2) [] []
def xbFn : A := .one (.fn 118 [])
def xbB : St := { baseB 19 [slT 0 2 n, xbFn] (xbHp n z1 z2) with keep := true }
def xbN (env : List (Nat × A)) : St := { stN 19 (envL env) (bsS (xbTs n z1 z2) []) [] [] with keep := true }
def xbH (i : Int) : St := xbN n z1 z2 [(0, slT 0 2 n), (1, xbFn), (4, int 0), (6, slT 0 2 n), (7, int n), (8, int i)]
def xbX (e : Int) : St := xbN n z1 z2 [(4, int e)]
def xbX0 : St := xbX n z1 z2 0
noncomputable def xbRe : Code → St → Tree (X × St) := recT Tryz.prog noTab
noncomputable def xbT (k : Nat) : Tree (X × St) := (xbRe (loopF Tryz.f112) (xbH n z1 z2 (k : Int))).bind (canonT [0, 1, 4, 6, 7, 8] [4] (xbB n z1 z2))
noncomputable def xbO : Tree ((X × St) ⊕ (List Bool × St)) := evO xbRe (bodyOf Tryz.f112) [0, 1, 4, 6, 7, 8] [4] (xbB n z1 z2)
noncomputable def xbP (q : X × St) : Tree ((X × St) ⊕ (List Bool × St)) := evO2 xbRe true (bodyOf Tryz.f112) (pathF Tryz.f112) [] [4] (xbB n z1 z2) q
def xbR (e : Int) : St := xbN n z1 z2 [(4, int e)]
noncomputable def xbSk (k : Nat) : Sk (X × St) := .node (decide ((k : Int) < (n : Int))) (.need (decide (0 ≤ (k : Int)) && decide ((k : Int) < (n : Int))) (.need (Nat.blt (0 + Int.toNat (k : Int)) n) (.need (Nat.blt (0 + Int.toNat (k : Int)) n) (.node (nilP z1 z2 (0 + Int.toNat (k : Int))) (.leaf (.ret, xbX n z1 z2 (k : Int))) (.leaf (.normal, xbH n z1 z2 (IntKind.i64.wrap ((k : Int) + 1)))))))) (.leaf (.exit 0, xbX0 n z1 z2))
theorem xbT_into (k : Nat) : xbT n z1 z2 k = into (xbT n z1 z2 k) (xbSk n z1 z2 k) := by kernel_rfl
theorem xbT_fits (k : Nat) : fits (xbT n z1 z2 k) (xbSk n z1 z2 k) = true := by kernel_rfl
theorem xbO_into : xbO n z1 z2 = into (xbO n z1 z2) (.leaf (.inr (pathF Tryz.f112, xbH n z1 z2 ((0 : Nat) : Int)))) := by kernel_rfl
theorem xbO_fits : fits (xbO n z1 z2) (.leaf (.inr (pathF Tryz.f112, xbH n z1 z2 ((0 : Nat) : Int)))) = true := by kernel_rfl
theorem xbP0_into : xbP n z1 z2 (.exit 0, xbX0 n z1 z2) = into (xbP n z1 z2 (.exit 0, xbX0 n z1 z2)) (.leaf (.inl (.ret, xbR n z1 z2 (-1)))) := by kernel_rfl
theorem xbP0_fits : fits (xbP n z1 z2 (.exit 0, xbX0 n z1 z2)) (.leaf (.inl (.ret, xbR n z1 z2 (-1)))) = true := by kernel_rfl
theorem xbP1_into (e : Int) : xbP n z1 z2 (.ret, xbX n z1 z2 e) = into (xbP n z1 z2 (.ret, xbX n z1 z2 e)) (.leaf (.inl (.ret, xbR n z1 z2 e))) := by kernel_rfl
theorem xbP1_fits (e : Int) : fits (xbP n z1 z2 (.ret, xbX n z1 z2 e)) (.leaf (.inl (.ret, xbR n z1 z2 e))) = true := by kernel_rfl
theorem xb_loop (hn : n ≤ 1000000) : ComesF Tryz.prog (.loop (loopF Tryz.f112)) (xbB n z1 z2) (xbH n z1 z2 ((0 : Nat) : Int)) fun q => q = finO (xbX n z1 z2) (xbX0 n z1 z2) n (nilP z1 z2) 0 := by
 refine loop_count (recT_ok noTab_ok) rfl [0, 1, 4, 6, 7, 8] [4] (fun k => xbH n z1 z2 (k : Int)) (finO (xbX n z1 z2) (xbX0 n z1 z2) n (nilP z1 z2)) n (xbT n z1 z2) (xbSk n z1 z2) (fun _ => rfl) (xbT_into n z1 z2) (xbT_fits n z1 z2) (fun k hk => ?_) (sk_no (rnd_end n) (sk_leaf finO_end.symm))
 obtain ⟨a1, a2, a3⟩ := rnd_lt hk
 refine sk_yes a1 (sk_need a2 (sk_need a3 (sk_need a3 ?_)))
 rw [idx_nat]
 refine sk_either (fun h => sk_leaf (rnd_ret ?_)) fun h => sk_leaf (rnd_next (by rw [wrap_succ (by omega)]; exact St.Le.refl _) (finO_next hk h))
 rw [finO_ret hk h]
theorem xb_left (e : Int) : Left2 Tryz.prog Tryz.f112 (xbHp n z1 z2) (int e) (xbHp n z1 z2) (.ret, xbR n z1 z2 e) := left_of (b := true) (by kernel_rfl)
theorem xb_call (hn : n ≤ 1000000) : CallAt Tryz.prog 112 [slT 0 2 n, xbFn] (xbHp n z1 z2) (int (fstI (nilP z1 z2) n)) (xbHp n z1 z2) := by
 refine call_base (rec := xbRe) (recT_ok noTab_ok) (c := bodyOf Tryz.f112) (fn := Tryz.f112) Tryz.func112 (by kernel_rfl) (by kernel_rfl) (false, true) 1 [0, 1, 4, 6, 7, 8] [4] (sB := xbB n z1 z2) (by kernel_rfl) (t := xbO n z1 z2) (by delta xbO; rfl) (all_into (xbO_into n z1 z2) (xbO_fits n z1 z2) (SkLeads.all ?_))
 refine sk_leaf ⟨_, true, [], [4], xb_loop n z1 z2 hn, fun q hq => Leads.all ?_⟩
 subst hq
 unfold finO fstI
 rw [Nat.sub_zero]
 cases fstO (nilP z1 z2) n 0 with
 | some i => exact leads_in (show _ = xbP n z1 z2 (.ret, xbX n z1 z2 (i : Int)) by delta xbP; rfl) (xbP1_into n z1 z2 (i : Int)) (xbP1_fits n z1 z2 (i : Int)) (sk_leaf (cutF_dn (xb_left n z1 z2 (i : Int))))
 | none => exact leads_in (show _ = xbP n z1 z2 (.exit 0, xbX0 n z1 z2) by delta xbP; rfl) (xbP0_into n z1 z2) (xbP0_fits n z1 z2) (sk_leaf (cutF_dn (xb_left n z1 z2 (-1))))
end
def midSp : Spec := fun args h => match args with
 | [.one (.sl _ id 0 2 0 n), .one (.fn g [(jd, 0, 1, 0)])] => match Nat.beq g 113, h.blk id, h.blk jd with
  | true, some ⟨_, _, .rows n' [.int .i64 z1, .int .i64 z2]⟩, some ⟨_, _, .flat [.lit (.int .i64 a), .lit (.int .i64 b)]⟩ => .need (Nat.ble n n' && Nat.ble n 1000000) (.leaf (int (fstI (warmP z1 z2 a b) n), h))
  | _, _, _ => .fail 430
 | [.one (.lit (.slice none 0 0)), .one (.fn g [(jd, 0, 1, 0)])] => match Nat.beq g 113, h.blk jd with
  | true, some ⟨_, _, .flat [.lit (.int .i64 _), .lit (.int .i64 _)]⟩ => .leaf (int (-1), h)
  | _, _ => .fail 430
 | _ => .fail 431
theorem ptr_of {E E' : Env} {id j : Nat} (h : E' j = E id) {x : Value} (hx : ptrIs E (id, 0, 1, 0) x) : ptrIs E' (j, 0, 1, 0) x := by
 obtain ⟨b, s, he, hv⟩ := hx
 exact ⟨b, s, h.trans he, hv⟩
theorem put_two (a b : Int) : putRows 2 0 [.int .i64 fun _ => 0] [ci a, ci b] = some [.int .i64 (two2 a b)] := rfl
theorem layH_nil {φ : Nat → Nat} {h : Hp} : layH φ h [] = h := rfl
theorem midSp_ok : SpecOk Tryz.prog 112 midSp := by
 intro args h v h' hr E w vals rh hargs
 unfold midSp at hr
 split at hr
 ·rename_i own id n g jd
  split at hr
  ·rename_i ro e n' z1 z2 ro2 e2 a b hg hb hb2
   obtain rfl := Nat.eq_of_beq_eq_true hg
   obtain ⟨hnd, hr⟩ := Tree.need_some hr
   simp only [Bool.and_eq_true] at hnd
   have h1 := Nat.le_of_ble_eq_true hnd.1
   have h2 := Nat.le_of_ble_eq_true hnd.2
   simp only [Tree.run, Option.some.injEq, Prod.mk.injEq] at hr
   obtain ⟨rfl, rfl⟩ := hr
   match vals, hargs with
   | [p, q], ⟨hp, hq, _⟩ =>
    obtain ⟨vs, rfl, hvs⟩ := hq
    match vs, hvs with
    | [u], ⟨hu, _⟩ =>
     have hE0 : subEnv E [id, jd] 0 = E id := rfl
     have hE1 : subEnv E [id, jd] 1 = E jd := rfl
     have h3 := lift_new (bs := [⟨true, 0, .rows n [.int .i64 z1, .int .i64 z2]⟩, ⟨true, 0, .rows 2 [.int .i64 (two2 a b)]⟩]) (globs := []) (news := []) (ids := [id, jd]) (xa_call n z1 z2 a b h2) (fun b hb => by cases hb) rh rfl (show 2 + 0 ≤ lim by decide) (show h.next + 0 ≤ lim from rh.nlim) (fun i k b1 hi hb1 => by
      match i, hi, hb1 with
      | 0, hi, hb1 => injection hi with hi; injection hb1 with hb1; subst hi; subst hb1; exact ⟨_, hb, subV_rows h1⟩
      | 1, hi, hb1 => injection hi with hi; injection hb1 with hb1; subst hi; subst hb1; exact ⟨_, hb2, subV_flatRows (put_two a b)⟩
      | i + 2, hi, _ => cases hi) (fun g i hg => by cases hg) (vals := [p, .func (.func 113) #[] [u].toArray]) ⟨by
       rcases hp with ⟨b0, s, o, cap, he, r1, r2, r3, r4, _⟩ | ⟨_, r1, r2⟩
       ·exact .inl ⟨b0, s, o, cap, hE0.trans he, r1, r2, r3, r4, fun e => by cases e⟩
       ·exact .inr ⟨rfl, r1, r2⟩, ⟨[u], rfl, ⟨ptr_of hE1 hu, trivial⟩⟩, trivial⟩
     rw [layH_nil] at h3
     exact h3
  ·cases hr
 ·rename_i g jd
  split at hr
  ·rename_i ro2 e2 a b hg hb2
   obtain rfl := Nat.eq_of_beq_eq_true hg
   simp only [Tree.run, Option.some.injEq, Prod.mk.injEq] at hr
   obtain ⟨rfl, rfl⟩ := hr
   match vals, hargs with
   | [p, q], ⟨⟨hp, _⟩, hq, _⟩ =>
    subst hp
    obtain ⟨vs, rfl, hvs⟩ := hq
    match vs, hvs with
    | [u], ⟨hu, _⟩ =>
     have hE0 : subEnv E [jd] 0 = E jd := rfl
     have hc : CallAt Tryz.prog 112 [nilA, .one (.fn 113 [(0, 0, 1, 0)])] (hpT [⟨some 0, 2, [.int .i64 (two2 a b)]⟩] [] []) (int (-1)) (hpT [⟨some 0, 2, [.int .i64 (two2 a b)]⟩] [] []) := call_ev noTab_ok (by kernel_rfl)
     have h3 := lift_new (bs := [⟨true, 0, .rows 2 [.int .i64 (two2 a b)]⟩]) (globs := []) (news := []) (ids := [jd]) hc (fun b hb => by cases hb) rh rfl (show 1 + 0 ≤ lim by decide) (show h.next + 0 ≤ lim from rh.nlim) (fun i k b1 hi hb1 => by
      match i, hi, hb1 with
      | 0, hi, hb1 => injection hi with hi; injection hb1 with hb1; subst hi; subst hb1; exact ⟨_, hb2, subV_flatRows (put_two a b)⟩
      | i + 1, hi, _ => cases hi) (fun g i hg => by cases hg) (vals := [.slice none 0 0, .func (.func 113) #[] [u].toArray]) ⟨⟨rfl, rfl⟩, ⟨[u], rfl, ⟨ptr_of hE0 hu, trivial⟩⟩, trivial⟩
     rw [layH_nil] at h3
     exact h3
  ·cases hr
 ·cases hr
end Go.Ev
namespace Go.Ev
open Go Go.Proofs
set_option maxRecDepth 100000
section
variable (n : Nat) (z1 z2 : Nat → Int)
end
end Go.Ev
