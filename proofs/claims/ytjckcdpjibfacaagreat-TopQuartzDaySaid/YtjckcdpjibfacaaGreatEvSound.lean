/- Every operation that the evaluator runs is run by the model to a value that it describes. Conditions: none. -/
import Derived.Test.YtjckcdpjibfacaaGreatEvOps
namespace Go.Ev
open Go
section
variable {P : Program} {E : Env} {ρA : Operand → Option A} {ρ : Operand → Value} {h h' : Hp} {w : World} {v : A}
theorem constCols_spec : ∀ {cs : List C} {cols : List Col}, constCols cs = some cols → cols.length = cs.length ∧ ∀ j c, nth cols j = some c → ∃ x, nth cs j = some x ∧ ∀ i, c.at i = x
 | [], cols, h => by
  simp only [constCols, Option.some.injEq] at h
  subst h
  exact ⟨rfl, fun j c hc => by simp [nth] at hc⟩
 | x :: xs, cols, h => by
  simp only [constCols] at h
  split at h
  ·rename_i y ys h1 h2
   injection h with h; subst h
   obtain ⟨l1, l2⟩ := constCols_spec h2
   refine ⟨by simp [l1], fun j c hc => ?_⟩
   cases j with
   | zero =>
    simp only [nth, Option.some.injEq] at hc
    subst hc
    refine ⟨x, rfl, fun i => ?_⟩
    unfold constCol at h1
    split at h1 <;> first | (injection h1 with h1; subst h1; rfl) | cases h1
   | succ j => exact l2 j c hc
  ·cases h
theorem nth_repC {z : List C} : ∀ {n k j : Nat}, k < n → j < z.length → nth (repC n z) (k * z.length + j) = nth z j
 | 0, _, _, h, _ => by omega
 | n + 1, 0, j, _, hj => by
  rw [Nat.zero_mul, Nat.zero_add, repC, nth_eq, nth_eq, List.getElem?_append_left hj]
 | n + 1, k + 1, j, hk, hj => by
  have e : (k + 1) * z.length + j = z.length + (k * z.length + j) := by rw [Nat.add_mul, Nat.one_mul]; omega
  rw [e, repC, nth_eq, List.getElem?_append_right (by omega), Nat.add_sub_cancel_left, ← nth_eq]
  exact nth_repC (by omega) hj
theorem const_rows {z : List C} {cols : List Col} {n : Nat} {arr : Array Value} (hc : constCols z = some cols) (h : (Body.flat (repC n z)).Is E arr) : (Body.rows n cols).Is E arr := by
 intro k j c hk hj
 obtain ⟨l1, l2⟩ := constCols_spec hc
 obtain ⟨x, hx, he⟩ := l2 j c hj
 obtain ⟨y, hy, hi⟩ := h (k * z.length + j) x (by rw [nth_repC hk (nth_lt hx)]; exact hx)
 exact ⟨y, by rw [l1]; exact hy, by rw [he]; exact hi⟩
theorem append_zeros {t tn ty e : TypeId} {i0 : TypeInfo} {zv : Value} {size : Nat} {kq kn : IntKind} (hu : P.underlying t = some (.slice e)) (hun : P.underlying tn = some (.int kn)) (hi0 : P.info? e = some i0) (hz0 : i0.zero = some zv) (hisz : i0.size = size) (hzvs : zv.cells.size = size) (hs0 : 0 < size) (hone : ∀ u ∈ zv.cells.toList, u.oneCell' = true)
  {g cap : Nat} {cur : Array Value} (hg : w.heap[g]? = some (.cells cur e (0, 0))) (hcs : cur.size = cap * size) (hcm : cap ≤ maxLen) {k : Nat} (h0 : 0 < k) (h63 : k ≤ 9223372036854775807) (hby : k * i0.bytes ≤ 140737488355328) :
  ∃ v' w', (Builtin.append_ #[t, tn] ty #[.slice (some ⟨g, 0, none⟩) 0 cap, .int kq k]).run P w = .ok v' w' ∧ w'.ownsRow 0 e size v' k (Builtin.zeroCells zv.cells k).toList ∧ w.grownBy w' (some g) ∧ v' ≠ .slice none 0 0 ∧ (v'.ownBlock = some g ∨ v'.ownBlock = some w.heap.size) := by
 subst hisz
 have hzl : (Builtin.zeroCells zv.cells k).toList.length = k * i0.size := by rw [Array.length_toList, size_zeroCells, hzvs]
 have hzone : ∀ u ∈ (Builtin.zeroCells zv.cells k).toList, u.oneCell' = true := fun u hu => by
  have hcells : (Builtin.zeroCells zv.cells k).toList = (List.replicate k zv.cells.toList).flatten := by
   unfold Builtin.zeroCells
   rw [rep_range zv.cells k zv.cells.size rfl (by omega)]
  rw [hcells, List.mem_flatten] at hu
  obtain ⟨l, hl, hu⟩ := hu
  rw [List.eq_of_mem_replicate hl] at hu
  exact hone u hu
 have hk : k ≠ 0 := by omega
 have hw : IntKind.i64.wrap (k : Int) = k := by rw [IntKind.wrap_i64]; omega
 have hneg : ¬ ((k : Int) < 0) := by omega
 have hns : ¬ (k * i0.size = 0) := Nat.mul_ne_zero (by omega) (by omega)
 have h48i : ¬ (281474976710656 < (k : Int) * (i0.bytes : Int)) := by rw [← Int.natCast_mul]; omega
 by_cases hroom : k ≤ cap
 ·have hfit : (Builtin.zeroCells zv.cells k).toList.length ≤ cur.size := by rw [hzl, hcs]; exact Nat.mul_le_mul_right _ hroom
  have hst := run_storeCells_at P g 0 e (Builtin.zeroCells zv.cells k).toList 0 cur w hg (by simpa using hfit) hzone
  simp only [Nat.add_zero, Nat.zero_add, List.take_zero, List.nil_append] at hst
  have hr : (Builtin.append_ #[t, tn] ty #[.slice (some ⟨g, 0, none⟩) 0 cap, .int kq k]).run P w = .ok (.slice (some ⟨g, 0, none⟩) k cap) (w.setRow g ((Builtin.zeroCells zv.cells k).toList ++ cur.toList.drop (Builtin.zeroCells zv.cells k).toList.length).toArray) := by
   simp [Builtin.append_, run_underlying hu, run_underlying hun, sizeOf, typeInfo, zeroValue, hi0, hz0, asInt, asIntOf, hw, hneg, hns, h48i, hroom, Addr.add_lit]
   rw [hst]
   simp
  refine ⟨_, _, hr, ⟨hzl, .inr ⟨g, cap, _, rfl, Nat.zero_le _, setRow_heap w g cur _ e _ hg, hroom, hcm, ?_, ?_⟩⟩, ⟨rfl, rfl, rfl, by simp, fun j _ hj => setRow_other w g j _ (fun e => hj (by simp [e]))⟩, by simp, Or.inl rfl⟩
  ·simp only [List.size_toArray, List.length_append, List.length_drop, Array.length_toList]
   rw [Array.length_toList] at hfit
   omega
  ·rw [← hzl]
   exact List.take_left
 ·have hn : ¬ (0 + k ≤ cap) := by omega
  have h63' : ¬ (9223372036854775807 < (k : Int)) := by omega
  have h48' : ¬ (281474976710656 < Builtin.nextslicecap k cap * i0.bytes) := by
   have := growslice_fits (need := k) (old := cap) (bytes := i0.bytes) (by omega) hby
   omega
  have hr : (Builtin.append_ #[t, tn] ty #[.slice (some ⟨g, 0, none⟩) 0 cap, .int kq k]).run P w = .ok (.slice (some ⟨w.heap.size, 0, none⟩) k (grownCap w k cap e)) (w.drew.alloc (.cells (Builtin.zeroCells zv.cells k ++ Builtin.zeroCells zv.cells (grownCap w k cap e - k)) e)) := by
   have hold : (Builtin.firstCells i0.size 0 (.slice (some ⟨g, 0, none⟩) 0 cap)).run P w.drew = .ok #[] w.drew := by simp [Builtin.firstCells, loadCells, loadCellsFrom]
   simp [Builtin.append_, run_underlying hu, run_underlying hun, sizeOf, typeInfo, zeroValue, hi0, hz0, asInt, asIntOf, hw, hroom, hneg, hns, h63', h48', h48i, Question.forced, hold, newRow, grownCap]
  have hge := grownCap_ge w k cap e
  have hgm : grownCap w k cap e ≤ maxLen := grownCap_le_maxLen w k cap e (by simp only [maxLen]; omega)
  refine ⟨_, _, hr, ⟨hzl, .inr ⟨w.heap.size, _, _, rfl, Nat.zero_le _, heap_alloc_new w.drew _, hge, hgm, ?_, ?_⟩⟩, ⟨rfl, rfl, rfl, by simp, fun j hj _ => heap_alloc_old w.drew _ hj⟩, by simp, Or.inr rfl⟩
  ·simp only [Array.size_append, size_zeroCells, hzvs, ← Nat.add_mul]
   congr 1
   omega
  ·rw [Array.toList_append, ← hzl]
   exact List.take_left
theorem appendZ_ok {t t2 : TypeId} {s x v : A} {h' : Hp} {p q : Value} (ha : (appendZ P h t t2 s x).run = some (v, h')) (r : RH E h w) (hs : s.Is E p) (hx : x.Is E q) (ty : TypeId) :
  ∃ y w', (Builtin.append_ #[t, t2] ty #[p, q]).run P w = .ok y w' ∧ Left E h w v h' y w' := by
 unfold appendZ at ha
 split at ha
 ·rename_i e kn id1 m1 kq n hu hun
  split at ha
  ·rename_i size' z i0 e1 cs1 hsz hz hi0 hb1
   split at ha
   ·rename_i cols hc hcols
    simp only [Bool.and_eq_true] at hc
    obtain rfl := Nat.eq_of_beq_eq_true hc.1.1
    obtain rfl := Nat.eq_of_beq_eq_true hc.1.2
    have hzl := Nat.eq_of_beq_eq_true hc.2
    obtain ⟨hnd, ha⟩ := Tree.need_some ha
    simp only [Bool.and_eq_true, decide_eq_true_eq] at hnd
    obtain ⟨⟨id, h1⟩, hal, ha⟩ := Tree.bind_some ha
    simp only [Tree.run, Option.some.injEq, Prod.mk.injEq] at ha
    obtain ⟨rfl, rfl⟩ := ha
    obtain ⟨zv, ⟨i1, hi1, hz0⟩, hzall⟩ := zero?_is hz E
    obtain rfl : i1 = i0 := Option.some.inj (hi1.symm.trans hi0)
    have hisz : i1.size = size' + 1 := by unfold size? at hsz; rw [hi0] at hsz; simpa using hsz
    have hzvs : zv.cells.size = size' + 1 := by rw [← hzl, hzall.length]; simp
    obtain ⟨k, rfl⟩ : ∃ k : Nat, n = (k : Int) := ⟨n.toNat, by omega⟩
    rw [Int.toNat_natCast] at hnd hal ⊢
    have hq : q = .int kq k := (show q = .int kq k ∧ (Value.int kq (k : Int)).oneCell' = true by simpa [A.Is, C.Is] using hx).1
    subst hq
    obtain ⟨bn1, sz1, o1, cap1, hE1, rfl, hnc1, hcm1, ho1, hown1⟩ := sl_some hs (.inl rfl)
    obtain ⟨rfl, _, _, hs1⟩ := hown1 rfl
    obtain ⟨p1, hp1, arr1, fz1, ⟨ty1, hh1, hty1⟩, hsz1, hbd1, hfz1⟩ := r.cells hb1 rfl
    obtain rfl := hty1 rfl
    obtain rfl : p1 = (bn1, sz1) := Option.some.inj (hp1.symm.trans hE1)
    rw [roIs_fz hfz1 rfl] at hh1
    obtain ⟨v', w', hrun, hown, hgrow, hne, hat⟩ := append_zeros (ty := ty) (kq := kq) hu hun hi0 hz0 hisz hzvs (Nat.succ_pos _) (all2_oneCell hzall) hh1 (by rw [hsz1, hs1]) hcm1 (k := k) (by omega) (Nat.le_of_ble_eq_true hnd.2) (Nat.le_of_ble_eq_true hnd.1.2)
    refine ⟨v', w', hrun, append_named r hb1 rfl hE1 hh1 hown hgrow hne hat ?_ hal⟩
    have hcells : (Builtin.zeroCells zv.cells k).toList = (List.replicate k zv.cells.toList).flatten := by
     unfold Builtin.zeroCells
     rw [rep_range zv.cells k zv.cells.size rfl (by omega)]
    have hrep := const_rows hcols (flat_is (repC_is hzall k))
    intro a j c ha' hj
    obtain ⟨y, hy, hyi⟩ := hrep a j c ha' hj
    exact ⟨y, by rw [hcells]; simpa using hy, hyi⟩
   ·cases ha
  ·cases ha
 ·cases ha
theorem callA_ok {evf : FuncId → Spec} (hev : EvfOk P evf) (hno : NoOwn P) {c : Call} (hf : Fits E ρA ρ c.operands.toList) (r : RH E h w) (hr : (callA P evf c ρA h).run = some (v, h')) (ty : TypeId) :
  OpOk P (do let d ← resolve ρ c ty; invoke d.target d.args) w (Left E h w v h') := by
 obtain ⟨callee, args, argTypes⟩ := c
 have hfa : Fits E ρA ρ args.toList := fun x hx => hf x (by unfold Call.operands; rw [Array.toList_append]; exact List.mem_append_right _ hx)
 unfold callA at hr
 simp only at hr
 split at hr
 ·rename_i as has
  have hargs := argsOf_is hfa has
  have emap : args.map ρ = (args.toList.map ρ).toArray := by apply Array.ext'; simp
  cases callee with
  | builtin b =>
   cases b <;> (try simp only at hr) <;> first | (cases hr; done) | skip
   case append =>
    split at hr
    ·rename_i s x t t2 hat
     split at hr
     ·rename_i ht
      have ht := Nat.eq_of_beq_eq_true ht
      subst ht
      match hl : args.toList.map ρ, hargs with
      | [p, q], hargs =>
       obtain ⟨y, w', hrun, hleft⟩ := appendA_ok hr r hargs.1 hargs.2.1 ty
       have hat' : argTypes = #[t, t] := by apply Array.ext'; simpa using hat
       refine OpOk.of_value (x := y) (w' := w') ?_ hleft
       simp only [resolve, emap, hl, hat', Sem.run_bind, Sem.run_pure, Result.andThen_ok, invoke, builtin, hrun]
     ·match hl : args.toList.map ρ, hargs with
      | [p, q], hargs =>
       obtain ⟨y, w', hrun, hleft⟩ := appendZ_ok hr r hargs.1 hargs.2.1 ty
       have hat' : argTypes = #[t, t2] := by apply Array.ext'; simpa using hat
       refine OpOk.of_value (x := y) (w' := w') ?_ hleft
       simp only [resolve, emap, hl, hat', Sem.run_bind, Sem.run_pure, Result.andThen_ok, invoke, builtin, hrun]
    ·cases hr
   case len =>
    split at hr
    ·rename_i x t ts hat
     obtain ⟨y, hy, hr⟩ := Tree.bind_some hr
     simp only [Tree.run, Option.some.injEq, Prod.mk.injEq] at hr
     obtain ⟨rfl, rfl⟩ := hr
     match hl : args.toList.map ρ, hargs with
     | [p], hargs =>
      obtain ⟨z, hz, hzi⟩ := lenA_run (P := P) hy hargs.1 ty
      refine OpOk.of_value (x := z) (w' := w) ?_ (Left.same r hzi)
      have h0 : argTypes[0]? = some t := by rw [← Array.getElem?_toList, hat]; rfl
      have hz' : (Builtin.len_ argTypes ty #[p]).run P w = .ok z w := by
       rw [← hz]; simp only [Builtin.len_, h0]; rfl
      simp only [resolve, emap, hl, Sem.run_bind, Sem.run_pure, Result.andThen_ok, invoke, builtin, hz']
    ·cases hr
   case max =>
    split at hr
    ·rename_i x rest
     split at hr
     ·rename_i z hz
      simp only [Tree.run, Option.some.injEq, Prod.mk.injEq] at hr
      obtain ⟨rfl, rfl⟩ := hr
      match hl : args.toList.map ρ, hargs with
      | p :: ps, hargs =>
       obtain ⟨y, hy, hyi⟩ := maxA_run (P := P) hz hargs.1 hargs.2 w
       refine OpOk.of_value (x := y) (w' := w) ?_ (Left.same r hyi)
       simp only [resolve, emap, hl, Sem.run_bind, Sem.run_pure, Result.andThen_ok, invoke, builtin, Builtin.max_, hy]
     ·cases hr
    ·cases hr
   case min =>
    split at hr
    ·rename_i x rest
     split at hr
     ·rename_i z hz
      simp only [Tree.run, Option.some.injEq, Prod.mk.injEq] at hr
      obtain ⟨rfl, rfl⟩ := hr
      match hl : args.toList.map ρ, hargs with
      | p :: ps, hargs =>
       obtain ⟨y, hy, hyi⟩ := minA_run (P := P) hz hargs.1 hargs.2 w
       refine OpOk.of_value (x := y) (w' := w) ?_ (Left.same r hyi)
       simp only [resolve, emap, hl, Sem.run_bind, Sem.run_pure, Result.andThen_ok, invoke, builtin, Builtin.min_, hy]
     ·cases hr
    ·cases hr
   case copy =>
    split at hr
    ·rename_i d s t ts hat
     match hl : args.toList.map ρ, hargs with
     | [p, q], hargs =>
      have h0 : argTypes[0]? = some t := by rw [← Array.getElem?_toList, hat]; rfl
      obtain ⟨y, w', hrun, hleft⟩ := copyA_ok hr r hargs.1 hargs.2.1 argTypes h0 ty
      refine OpOk.of_value (x := y) (w' := w') ?_ hleft
      simp only [resolve, emap, hl, Sem.run_bind, Sem.run_pure, Result.andThen_ok, invoke, builtin, hrun]
    ·cases hr
   case clear =>
    split at hr
    ·rename_i x t ts hat
     match hl : args.toList.map ρ, hargs with
     | [p], hargs =>
      have h0 : argTypes[0]? = some t := by rw [← Array.getElem?_toList, hat]; rfl
      obtain ⟨y, w', hrun, hleft⟩ := clearA_ok hr r hargs.1 argTypes h0 ty
      refine OpOk.of_value (x := y) (w' := w') ?_ hleft
      simp only [resolve, emap, hl, Sem.run_bind, Sem.run_pure, Result.andThen_ok, invoke, builtin, hrun]
    ·cases hr
  | value f =>
   simp only at hr
   split at hr
   ·rename_i g caps hg
    split at hr
    ·rename_i hbody
     rw [Bool.and_eq_true, Nat.blt_eq] at hbody
     obtain ⟨hbody, hglt⟩ := hbody
     obtain ⟨vs, hfv, hcaps⟩ := hf f (by simp [Call.operands]) _ hg
     have hall : All2 (A.Is E) (as ++ caps.map capA) (args.toList.map ρ ++ vs) := hargs.append (capA_is hcaps)
     have hcalls := (hev g _ h v h' hr E w _ r hall).1 hglt
     unfold hasBody at hbody
     split at hbody
     ·rename_i fn hfn
      have hb : fn.body.isNone = false := by cases hbo : fn.body <;> simp_all
      unfold OpOk
      have hrun : (do let d ← resolve ρ { callee := .value f, args, argTypes } ty; invoke d.target d.args : Sem Next).run P w = .ok (.enter g (args.toList.map ρ ++ vs).toArray) w := by
       have hn : fn.name ≠ "runtime.NumGoroutine" := by simpa using hno g fn hfn
       have hb' : ¬ fn.body = none := by intro e0; rw [e0] at hb; cases hb
       have hv : Array.map ρ args ++ vs.toArray = (List.map ρ args.toList ++ vs).toArray := by apply Array.ext'; simp
       simp [resolve, hfv, Deferred.ofValue, invoke, callFunc, hfn, hn, hb', hv]
      rw [hrun]
      exact hcalls.mono fun e w' ⟨x, E', he, hx, hs⟩ => ⟨x, he, E', hx, hs⟩
     ·cases hbody
    ·cases hr
   ·rename_i id hg
    obtain ⟨l, s, hE, hfv⟩ := hf f (by simp [Call.operands]) _ hg
    obtain ⟨fn, tmps, assign, body, hy, hround⟩ := (hev _ _ h v h' hr E w _ r hargs).2 id l s rfl hE
    unfold OpOk
    have hrun : (do let d ← resolve ρ { callee := .value f, args, argTypes } ty; invoke d.target d.args : Sem Next).run P w = .ok (.round l fn tmps assign body) w := by
     rw [← emap] at hy
     simp [resolve, hfv, Deferred.ofValue, invoke, hy]
    rw [hrun]
    refine hround.mono ?_
    rintro e w' ⟨x, E', he, hx, hs⟩
    exact ⟨x, he, E', hx, hs⟩
   ·rename_i g ls hg
    split at hr
    ·rename_i hbody
     rw [Bool.and_eq_true, Nat.blt_eq] at hbody
     obtain ⟨hbody, hglt⟩ := hbody
     obtain ⟨hfv, hone⟩ := hf f (by simp [Call.operands]) _ hg
     have hall : All2 (A.Is E) (ls.map firstA ++ as) (ls.map firstV ++ args.toList.map ρ) := (firstAs_is hone).append hargs
     have hcalls := (hev g _ h v h' hr E w _ r hall).1 hglt
     unfold hasBody at hbody
     split at hbody
     ·rename_i fn hfn
      have hb : fn.body.isNone = false := by cases hbo : fn.body <;> simp_all
      unfold OpOk
      have hrun : (do let d ← resolve ρ { callee := .value f, args, argTypes } ty; invoke d.target d.args : Sem Next).run P w = .ok (.enter g (ls.map firstV ++ args.toList.map ρ).toArray) w := by
       have hn : fn.name ≠ "runtime.NumGoroutine" := by simpa using hno g fn hfn
       have hb' : ¬ fn.body = none := by intro e0; rw [e0] at hb; cases hb
       have hv : (List.map firstV ls).toArray ++ Array.map ρ args ++ #[] = (List.map firstV ls ++ List.map ρ args.toList).toArray := by apply Array.ext'; simp
       simp only [Array.append_empty] at hv
       simp [resolve, hfv, Deferred.ofValue, invoke, callFunc, hfn, hn, hb', hv]
      rw [hrun]
      exact hcalls.mono fun e w' ⟨x, E', he, hx, hs⟩ => ⟨x, he, E', hx, hs⟩
     ·cases hbody
    ·cases hr
   ·rename_i g id k m j hg
    split at hr
    ·rename_i hbody
     rw [Bool.and_eq_true, Nat.blt_eq] at hbody
     obtain ⟨hbody, hglt⟩ := hbody
     obtain ⟨pv, hfv, hpv⟩ := hf f (by simp [Call.operands]) _ hg
     have hall : All2 (A.Is E) (.one (.ptr id k m j) :: as) (pv :: args.toList.map ρ) := ⟨hpv, hargs⟩
     have hcalls := (hev g _ h v h' hr E w _ r hall).1 hglt
     unfold hasBody at hbody
     split at hbody
     ·rename_i fn hfn
      have hb : fn.body.isNone = false := by cases hbo : fn.body <;> simp_all
      unfold OpOk
      have hrun : (do let d ← resolve ρ { callee := .value f, args, argTypes } ty; invoke d.target d.args : Sem Next).run P w = .ok (.enter g (pv :: args.toList.map ρ).toArray) w := by
       have hn : fn.name ≠ "runtime.NumGoroutine" := by simpa using hno g fn hfn
       have hb' : ¬ fn.body = none := by intro e0; rw [e0] at hb; cases hb
       have hv : #[pv] ++ Array.map ρ args ++ #[] = (pv :: List.map ρ args.toList).toArray := by apply Array.ext'; simp
       simp only [Array.append_empty] at hv
       simp [resolve, hfv, Deferred.ofValue, invoke, callFunc, hfn, hn, hb', hv]
      rw [hrun]
      exact hcalls.mono fun e w' ⟨x, E', he, hx, hs⟩ => ⟨x, he, E', hx, hs⟩
     ·cases hbody
    ·cases hr
   ·cases hr
  | invoke rv m => simp only at hr; cases hr
 ·cases hr
theorem ptr_load {id k m j : Nat} {x : Value} (r : RH E h w) {b : Blk} (hp : ptrIs E (id, k, m, j) x) (hb : h.blk id = some b) : ∃ p, E id = some p ∧ x = .pointer (some ⟨p.1, p.2.2 + (k * m + j), none⟩) ∧ blkIs E w p b := by
 obtain ⟨p, hp1, hi⟩ := r.blk id b hb
 obtain ⟨bn, s, hE, rfl⟩ := hp
 obtain rfl : p = (bn, s) := Option.some.inj (hp1.symm.trans hE)
 exact ⟨_, hE, rfl, hi⟩
theorem load_ok {t : TypeId} {x : A} {p : Value} (r : RH E h w) (hx : x.Is E p) (hr : (match some x with
  | some (.one (.ptr id k m j)) => match h.blk id, agg? P t, size? P t with
   | some b, some true, some s => (b.readN k m j s).bind fun cs => .leaf (.agg cs, h)
   | some b, some false, _ => (b.read k m j).bind fun c => .leaf (.one c, h)
   | _, _, _ => .fail 49
  | _ => .fail 50 : Tree (A × Hp)).run = some (v, h')) :
  h' = h ∧ ∃ y, (Instr.loadAt t p).run P w = .ok y w ∧ v.Is E y := by
 split at hr
 ·rename_i id k m j hxe
  injection hxe with hxe; subst hxe
  split at hr
  ·rename_i b s hb ha hs
   obtain ⟨cs, hc, hr⟩ := Tree.bind_some hr
   simp only [Tree.run, Option.some.injEq, Prod.mk.injEq] at hr
   obtain ⟨rfl, rfl⟩ := hr
   obtain ⟨q, _, rfl, hi⟩ := ptr_load r hx hb
   obtain ⟨y, hy, hyi⟩ := load_agg (P := P) hi hc ha hs
   exact ⟨rfl, y, by simp [Instr.loadAt, Instr.sureAddr, hy], hyi⟩
  ·rename_i b _ hb ha
   obtain ⟨c, hc, hr⟩ := Tree.bind_some hr
   simp only [Tree.run, Option.some.injEq, Prod.mk.injEq] at hr
   obtain ⟨rfl, rfl⟩ := hr
   obtain ⟨q, _, rfl, hi⟩ := ptr_load r hx hb
   obtain ⟨y, hy, hyi⟩ := load_one (P := P) (t := t) hi hc ha
   exact ⟨rfl, y, by simp [Instr.loadAt, Instr.sureAddr, hy], hyi⟩
  ·cases hr
 ·cases hr
theorem optA_is {o : Option Operand} {b : Option A} (h : optA ρA o = some b) (hf : Fits E ρA ρ o.toList) : (o = none ∧ b = none) ∨ ∃ x a, o = some x ∧ b = some a ∧ a.Is E (ρ x) := by
 cases o with
 | none => simp only [optA, Option.some.injEq] at h; exact .inl ⟨rfl, h.symm⟩
 | some x =>
  simp only [optA] at h
  split at h
  ·rename_i a ha
   simp only [Option.some.injEq] at h; subst h
   exact .inr ⟨x, a, rfl, rfl, hf x (by simp) a ha⟩
  ·cases h
theorem strBounds {P : Program} {E : Env} {ρA : Operand → Option A} {ρ : Operand → Value} {lo hi : Option Operand} {lo' hi' : Option A} {l u : Int} {n : Nat} (hlo : optA ρA lo = some lo') (hhi : optA ρA hi = some hi') (hfo : Fits E ρA ρ lo.toList) (hfh : Fits E ρA ρ hi.toList)
  (hl : (match (generalizing := false) lo' with | some a => intOf? a | none => some 0) = some l) (hu2 : (match (generalizing := false) hi' with | some a => intOf? a | none => some (n : Int)) = some u) (h1 : 0 ≤ l) (h2 : l ≤ u) (h3 : u ≤ n) (w : World) :
  (Instr.sliceBounds false n n (lo.map ρ) (hi.map ρ) none).run P w = .ok (l.toNat, u.toNat, n) w := by
 have hl2 : (match lo.map ρ with | some v => Instr.sliceBound v u.toNat .sliceB | none => pure 0 : Sem Nat).run P w = .ok l.toNat w := by
  rcases optA_is hlo hfo with ⟨rfl, rfl⟩ | ⟨z, a, rfl, rfl, ha⟩
  ·simp only [Option.some.injEq] at hl; subst hl; simp
  ·obtain ⟨kk, hz⟩ := intOf?_is hl ha
   simp [hz, Instr.sliceBound, asIntOf, h1]
   intro hh
   exfalso
   omega
 have hhigh : (match hi.map ρ with | some v => Instr.sliceBound v n .sliceAlen | none => pure n : Sem Nat).run P w = .ok u.toNat w := by
  rcases optA_is hhi hfh with ⟨rfl, rfl⟩ | ⟨z, a, rfl, rfl, ha⟩
  ·simp only [Option.some.injEq] at hu2; subst hu2; simp
  ·obtain ⟨kk, hz⟩ := intOf?_is hu2 ha
   simp [hz, Instr.sliceBound, asIntOf, show 0 ≤ u by omega, h3]
 unfold Instr.sliceBounds
 cases hlo' : lo.map ρ with
 | none =>
  rw [hlo'] at hl2
  cases hhi' : hi.map ρ with
  | none => rw [hhi'] at hhigh; simp at hl2 hhigh ⊢; omega
  | some hv => rw [hhi'] at hhigh; simp at hl2 hhigh ⊢; simp [hhigh]; omega
 | some lv =>
  rw [hlo'] at hl2
  cases hhi' : hi.map ρ with
  | none => rw [hhi'] at hhigh; simp at hl2 hhigh ⊢; rw [hhigh]; simp [hl2]
  | some hv => rw [hhi'] at hhigh; simp at hl2 hhigh ⊢; simp [hhigh, hl2]
theorem pick_ok {c x y : Operand} (hf : Fits E ρA ρ [c, x, y]) (r : RH E h w) (hr : (evOp P (fun _ _ _ => .fail 0) (.pick c x y) ρA h).run = some (v, h')) :
  ∃ z, (do pure (.value (if ← asBool (ρ c) then ρ x else ρ y)) : Sem Next).run P w = .ok (.value z) w ∧ Left E h w v h' z w := by
 simp only [evOp] at hr
 split at hr
 ·rename_i b p q hc hx hy
  simp only [Tree.run, Option.some.injEq, Prod.mk.injEq] at hr
  obtain ⟨rfl, rfl⟩ := hr
  obtain ⟨hc, _⟩ := hf c (by simp) _ hc
  obtain ⟨hx, _⟩ := hf x (by simp) _ hx
  obtain ⟨hy, _⟩ := hf y (by simp) _ hy
  refine ⟨.bool (cond b p q), ?_, Left.same r ?_⟩
  ·simp only [hc, hx, hy, asBool, Sem.run_bind, Sem.run_pure, Result.andThen_ok]
   cases b <;> rfl
  ·cases b <;> exact ⟨rfl, rfl⟩
 ·rename_i b u hc hx hy
  obtain ⟨hb, hr⟩ := Tree.need_some hr
  simp only [Tree.run, Option.some.injEq, Prod.mk.injEq] at hr
  obtain ⟨rfl, rfl⟩ := hr
  obtain ⟨hc, _⟩ := hf c (by simp) _ hc
  have hb : b = false := by cases b <;> simp_all
  subst hb
  exact ⟨ρ y, by simp [hc, asBool], Left.same r (hf y (by simp) _ hy)⟩
 ·rename_i b u hc hx hy
  obtain ⟨hb, hr⟩ := Tree.need_some hr
  simp only [Tree.run, Option.some.injEq, Prod.mk.injEq] at hr
  obtain ⟨rfl, rfl⟩ := hr
  obtain ⟨hc, _⟩ := hf c (by simp) _ hc
  subst hb
  exact ⟨ρ x, by simp [hc, asBool], Left.same r (hf x (by simp) _ hx)⟩
 ·rename_i b u u2 _ _ _ hc hx hy
  obtain ⟨hc, _⟩ := hf c (by simp) _ hc
  cases b with
  | true =>
   simp only [Tree.run, Option.some.injEq, Prod.mk.injEq] at hr
   obtain ⟨rfl, rfl⟩ := hr
   exact ⟨ρ x, by simp [hc, asBool], Left.same r (hf x (by simp) _ hx)⟩
  | false =>
   simp only [Tree.run, Option.some.injEq, Prod.mk.injEq] at hr
   obtain ⟨rfl, rfl⟩ := hr
   exact ⟨ρ y, by simp [hc, asBool], Left.same r (hf y (by simp) _ hy)⟩
 ·cases hr
theorem run_newVar (e : TypeId) (x : Value) (w : World) : (newVar e x).run P w = .ok ⟨w.heap.size, 0, none⟩ (w.alloc (.cells x.cells e)) := by
 simp [newVar, newRow]
theorem new_ptr {e : TypeId} {cs : List C} {x : Value} (r : RH E h w) (hc : All2 (C.Is E) cs x.cells.toList) {p : Nat × Hp} (ha : (h.alloc { ro := false, elem := e, body := .flat cs }).run = some p) :
  Left E h w (.one (.ptr p.1 0 1 0)) p.2 (.pointer (some ⟨w.heap.size, 0, none⟩)) (w.alloc (.cells x.cells e)) := by
 obtain ⟨id, h1⟩ := p
 have hb := flat_is hc
 simp only [Array.toArray_toList] at hb
 obtain ⟨hs, hE⟩ := alloc_stp r hb ha
 exact ⟨_, ⟨_, _, hE, rfl⟩, hs⟩
theorem placesOf_run : ∀ {fs : List Field} {ps : List (Nat × Nat)}, placesOf P fs = some ps → ∀ w, (fs.toArray.mapM fun (f : Field) => (do pure (f.offset, ← sizeOf f.type) : Sem (Nat × Nat))).run P w = .ok ps.toArray w := by
 intro fs ps h w
 rw [Array.mapM_eq_mapM_toList]
 have key : ∀ {fs : List Field} {ps : List (Nat × Nat)}, placesOf P fs = some ps → (fs.mapM fun (f : Field) => (do pure (f.offset, ← sizeOf f.type) : Sem (Nat × Nat))).run P w = .ok ps w := by
  intro fs
  induction fs with
  | nil => intro ps h; simp only [placesOf, Option.some.injEq] at h; subst h; rfl
  | cons f fs ih =>
   intro ps h
   simp only [placesOf] at h
   split at h
   ·rename_i s ps' hs hps
    simp only [Option.some.injEq] at h; subst h
    have ih' := ih hps
    simp only [List.mapM_cons, Sem.run_bind, size?_run hs w, Result.andThen_ok, Sem.run_pure] at ih' ⊢
    rw [ih']; rfl
   ·cases h
 have hk := key h
 rw [Sem.run_map]
 simp only
 rw [hk]; rfl
theorem evOp_ok {evf : FuncId → Spec} (hev : EvfOk P evf) (hno : NoOwn P) (o : Oper) (hf : Fits E ρA ρ o.op.operands.toList) (r : RH E h w) (hr : (evOp P evf o.op ρA h).run = some (v, h')) :
  OpOk P (execOp ρ o) w (Left E h w v h') := by
 obtain ⟨dst, op, type, pos, after, guard⟩ := o
 simp only at hf hr
 cases op with
 | move x =>
  simp only [evOp] at hr
  split at hr
  ·rename_i a ha
   simp only [Tree.run, Option.some.injEq, Prod.mk.injEq] at hr
   obtain ⟨rfl, rfl⟩ := hr
   exact OpOk.of_value (x := ρ x) (w' := w) rfl (Left.same r (hf x (by simp [Op.operands]) a ha))
  ·cases hr
 | assign x =>
  simp only [evOp] at hr
  split at hr
  ·rename_i a ha
   simp only [Tree.run, Option.some.injEq, Prod.mk.injEq] at hr
   obtain ⟨rfl, rfl⟩ := hr
   exact OpOk.of_value (x := ρ x) (w' := w) rfl (Left.same r (hf x (by simp [Op.operands]) a ha))
  ·cases hr
 | pick c x y =>
  obtain ⟨z, hz, hl⟩ := pick_ok (P := P) (v := v) (h' := h') (w := w) (ρ := ρ) (by simpa [Op.operands] using hf) r hr
  exact OpOk.of_value hz hl
 | alloc e =>
  simp only [evOp] at hr
  split at hr
  ·rename_i cs hz
   obtain ⟨p, ha, hr⟩ := Tree.bind_some hr
   simp only [Tree.run, Option.some.injEq, Prod.mk.injEq] at hr
   obtain ⟨rfl, rfl⟩ := hr
   obtain ⟨z, hzv, hzc⟩ := zero?_is hz E
   exact OpOk.of_value (by simp [execOp, Instr.alloc, zero?_run hzv w, run_newVar]) (new_ptr r hzc ha)
  ·cases hr
 | box e x =>
  simp only [evOp] at hr
  split at hr
  ·rename_i a hx
   split at hr
   ·rename_i cs hc
    obtain ⟨p, ha, hr⟩ := Tree.bind_some hr
    simp only [Tree.run, Option.some.injEq, Prod.mk.injEq] at hr
    obtain ⟨rfl, rfl⟩ := hr
    exact OpOk.of_value (by simp [execOp, Instr.box, run_newVar]) (new_ptr r ((hf x (by simp [Op.operands]) a hx).cells hc) ha)
   ·cases hr
  ·cases hr
 | build t parts =>
  simp only [evOp] at hr
  split at hr
  ·rename_i z ps hz hps
   obtain ⟨zv, hzv, hzc⟩ := zero?_is hz E
   have hpi := partsOf_is (ρ := ρ) (by simpa [Op.operands] using hf) hps
   have eparts : (parts.map fun (i, x) => (i, ρ x)).toList = parts.toList.map fun p => (p.1, ρ p.2) := by simp
   split at hr
   ·rename_i fs hu
    split at hr
    ·rename_i places hpl
     split at hr
     ·rename_i cs hcs
      simp only [Tree.run, Option.some.injEq, Prod.mk.injEq] at hr
      obtain ⟨rfl, rfl⟩ := hr
      obtain ⟨l', hl', ho⟩ := fill_is hpi hzc hcs
      have hp := placesOf_run (P := P) hpl w
      rw [Array.toArray_toList] at hp
      refine OpOk.of_value (x := .agg l'.toArray) (w' := w) ?_ (Left.same r ⟨l', rfl, ho⟩)
      simp only [Array.toArray_toList] at hl'
      have hfun : nth places = fun i => places.toArray[i]? := by funext i; rw [nth_eq]; simp
      rw [hfun] at hl'
      simp only [execOp, Instr.build, Sem.run_bind, zero?_run hzv w, Result.andThen_ok, run_underlying hu w, hp, eparts, hl', Sem.run_pure]
     ·cases hr
    ·cases hr
   ·rename_i n e hu
    split at hr
    ·rename_i s hs
     split at hr
     ·rename_i cs hcs
      simp only [Tree.run, Option.some.injEq, Prod.mk.injEq] at hr
      obtain ⟨rfl, rfl⟩ := hr
      obtain ⟨l', hl', ho⟩ := fill_is hpi hzc hcs
      refine OpOk.of_value (x := .agg l'.toArray) (w' := w) ?_ (Left.same r ⟨l', rfl, ho⟩)
      simp only [Array.toArray_toList] at hl'
      simp only [execOp, Instr.build, Sem.run_bind, zero?_run hzv w, Result.andThen_ok, run_underlying hu w, size?_run hs w, eparts, hl', Sem.run_pure]
     ·cases hr
    ·cases hr
   ·cases hr
  ·cases hr
 | buildSlice t n parts =>
  simp only [evOp] at hr
  split at hr
  ·rename_i e hu
   split at hr
   ·rename_i s z ps hs hz hps
    split at hr
    ·rename_i hc
     simp only [Bool.and_eq_true, Nat.blt_eq] at hc
     have hn1 := Nat.le_of_ble_eq_true hc.1.1
     have hzl := Nat.eq_of_beq_eq_true hc.1.2
     have hs0 := hc.2
     split at hr
     ·rename_i cs hcs
      obtain ⟨p, ha, hr⟩ := Tree.bind_some hr
      simp only [Tree.run, Option.some.injEq, Prod.mk.injEq] at hr
      obtain ⟨rfl, rfl⟩ := hr
      obtain ⟨zv, hzv, hzc⟩ := zero?_is hz E
      have hpi := partsOf_is (ρ := ρ) (by simpa [Op.operands] using hf) hps
      have eparts : (parts.map fun (i, x) => (i, ρ x)).toList = parts.toList.map fun p => (p.1, ρ p.2) := by simp
      obtain ⟨l', hl', ho⟩ := fill_is hpi (repC_is hzc n) hcs
      have hzs : zv.cells.size = s := by rw [← hzl, hzc.length]; simp
      have hrep := rep_range zv.cells n s hzs hs0
      have hcl : cs.length = n * s := by
       have : ∀ {place : Nat → Option (Nat × Nat)} {qs : List (Nat × List C)} {zs out : List C}, fillC place zs qs = some out → out.length = zs.length := by
        intro place qs
        induction qs with
        | nil => intro zs out h; simp only [fillC, Option.some.injEq] at h; rw [h]
        | cons q qs ih =>
         intro zs out h
         obtain ⟨i, c⟩ := q
         simp only [fillC] at h
         split at h
         ·cases h
         ·split at h
          ·rename_i hc
           simp only [Bool.and_eq_true] at hc
           have := Nat.le_of_ble_eq_true hc.2
           rw [ih h]; simp; omega
          ·cases h
       rw [this hcs]
       have : ∀ n, (repC n z).length = n * z.length := by
        intro n
        induction n with
        | zero => simp [repC]
        | succ n ih => simp [repC, ih, Nat.add_mul]; omega
       rw [this, hzl]
      have hll : l'.length = n * s := by rw [← ho.length, hcl]
      obtain ⟨id, h1⟩ := p
      have hb := flat_is ho
      obtain ⟨hst, hE⟩ := alloc_stp r hb ha
      refine OpOk.of_value (x := .slice (some ⟨w.heap.size, 0, none⟩) n n) (w' := w.alloc (.cells l'.toArray e)) ?_ ⟨_, .inl ⟨_, _, 0, n, hE, rfl, Nat.le_refl _, ?_, fun _ => by simp, fun _ => ⟨rfl, rfl, rfl, by simp [hll]⟩⟩, hst⟩
      ·by_cases hne : n * s = 0
       ·have h0 : ((Array.range (n * s)).map fun i => (#[] : Array Value)[i % (#[] : Array Value).size]!) = ((List.replicate n zv.cells.toList).flatten).toArray := by
         have hn0 : n = 0 := by
          rcases Nat.mul_eq_zero.1 hne with h0 | h0
          ·exact h0
          ·omega
         subst hn0
         simp
        simp only [execOp, Instr.buildSlice, Sem.run_bind, run_underlying hu w, Result.andThen_ok, size?_run hs w, if_neg (show ¬ n * s > 2 ^ 24 by omega), if_pos hne, Sem.run_pure, h0, eparts, hl']
        simp [newRow]
       ·simp only [execOp, Instr.buildSlice, Sem.run_bind, run_underlying hu w, Result.andThen_ok, size?_run hs w, if_neg (show ¬ n * s > 2 ^ 24 by omega), if_neg hne, zero?_run hzv w, Sem.run_pure, hrep, eparts, hl']
        simp [newRow]
      ·have : n ≤ n * s := Nat.le_mul_of_pos_right n hs0
       unfold maxLen; omega
     ·cases hr
    ·cases hr
   ·cases hr
  ·cases hr
 | load t x =>
  simp only [evOp] at hr
  cases hx : ρA x with
  | none => rw [hx] at hr; cases hr
  | some a =>
   rw [hx] at hr
   obtain ⟨rfl, y, hy, hyi⟩ := load_ok (P := P) (v := v) (h' := h') r (hf x (by simp [Op.operands]) a hx) hr
   exact OpOk.of_value (x := y) (w' := w) (by simp [execOp, hy]) (Left.same r hyi)
 | store t x y =>
  simp only [evOp] at hr
  split at hr
  ·rename_i id k m j a hx hy
   split at hr
   ·rename_i cs s b hcs hs hb
    split at hr
    ·rename_i hlen
     obtain ⟨b', hw, hr⟩ := Tree.bind_some hr
     simp only [Tree.run, Option.some.injEq, Prod.mk.injEq] at hr
     obtain ⟨rfl, rfl⟩ := hr
     obtain ⟨p, hp, hxp, hi⟩ := ptr_load r (hf x (by simp [Op.operands]) _ hx) hb
     obtain ⟨w', hrun, hst⟩ := store_stp (P := P) r hb hp hs ((hf y (by simp [Op.operands]) a hy).cells hcs) (Nat.eq_of_beq_eq_true hlen) hw
     exact OpOk.of_skip (w' := w') (by simp [execOp, hxp, Instr.storeAt, Instr.sureAddr, hrun]) ⟨E, undefA_is E, hst⟩
    ·cases hr
   ·cases hr
  ·cases hr
 | nilCheck x =>
  simp only [evOp] at hr
  split at hr
  ·rename_i id k m j hx
   simp only [Tree.run, Option.some.injEq, Prod.mk.injEq] at hr
   obtain ⟨rfl, rfl⟩ := hr
   have hi := hf x (by simp [Op.operands]) _ hx
   obtain ⟨bn, s, hE, hxp⟩ := hi
   exact OpOk.of_value (x := ρ x) (w' := w) (by simp [execOp, hxp]) (Left.same r ⟨bn, s, hE, hxp⟩)
  ·rename_i f cs hx
   simp only [Tree.run, Option.some.injEq, Prod.mk.injEq] at hr
   obtain ⟨rfl, rfl⟩ := hr
   have hi := hf x (by simp [Op.operands]) _ hx
   obtain ⟨vs, hxp, ha⟩ := hi
   exact OpOk.of_value (x := ρ x) (w' := w) (by simp [execOp, hxp]) (Left.same r ⟨vs, hxp, ha⟩)
  ·rename_i id hx
   simp only [Tree.run, Option.some.injEq, Prod.mk.injEq] at hr
   obtain ⟨rfl, rfl⟩ := hr
   have hi := hf x (by simp [Op.operands]) _ hx
   obtain ⟨l, s, hE, hxp⟩ := hi
   exact OpOk.of_value (x := ρ x) (w' := w) (by simp [execOp, hxp]) (Left.same r ⟨l, s, hE, hxp⟩)
  ·rename_i f ls hx
   simp only [Tree.run, Option.some.injEq, Prod.mk.injEq] at hr
   obtain ⟨rfl, rfl⟩ := hr
   have hi := hf x (by simp [Op.operands]) _ hx
   obtain ⟨hxp, ha⟩ := hi
   exact OpOk.of_value (x := ρ x) (w' := w) (by simp [execOp, hxp]) (Left.same r ⟨hxp, ha⟩)
  ·rename_i f id k m j hx
   simp only [Tree.run, Option.some.injEq, Prod.mk.injEq] at hr
   obtain ⟨rfl, rfl⟩ := hr
   have hi := hf x (by simp [Op.operands]) _ hx
   obtain ⟨v, hxp, ha⟩ := hi
   exact OpOk.of_value (x := ρ x) (w' := w) (by simp [execOp, hxp]) (Left.same r ⟨v, hxp, ha⟩)
  ·cases hr
 | binOp op t x y yt =>
  simp only [evOp] at hr
  split at hr
  ·rename_i u u2 hx hy
   obtain ⟨a, ha, hr⟩ := Tree.bind_some hr
   simp only [Tree.run, Option.some.injEq, Prod.mk.injEq] at hr
   obtain ⟨rfl, rfl⟩ := hr
   obtain ⟨z, hz, hzi⟩ := binary_run (P := P) ha (hf x (by simp [Op.operands]) _ hx) (hf y (by simp [Op.operands]) _ hy) w x y
   exact OpOk.of_value (x := z) (w' := w) (by simp only [execOp, Sem.run_bind, Sem.run_pure] at hz ⊢; rw [hz]; rfl) (Left.same r hzi)
  ·cases hr
 | unOp op t x =>
  simp only [evOp] at hr
  split at hr
  ·rename_i u hx
   obtain ⟨a, ha, hr⟩ := Tree.bind_some hr
   simp only [Tree.run, Option.some.injEq, Prod.mk.injEq] at hr
   obtain ⟨rfl, rfl⟩ := hr
   obtain ⟨hxp, _⟩ := hf x (by simp [Op.operands]) _ hx
   obtain ⟨z, hz, hzi⟩ := pureC_run ha E w
   exact OpOk.of_value (x := z) (w' := w) (by simp [execOp, hxp, hz]) (Left.same r hzi)
  ·cases hr
 | convert s d x =>
  simp only [evOp] at hr
  split at hr
  ·rename_i u hx
   obtain ⟨a, ha, hr⟩ := Tree.bind_some hr
   simp only [Tree.run, Option.some.injEq, Prod.mk.injEq] at hr
   obtain ⟨rfl, rfl⟩ := hr
   obtain ⟨hxp, _⟩ := hf x (by simp [Op.operands]) _ hx
   obtain ⟨z, hz0, hzi⟩ := convA_all ha E
   have hz := hz0 w
   exact OpOk.of_value (x := z) (w' := w) (by simp [execOp, hxp, hz]) (Left.same r hzi)
  ·cases hr
 | makeFunc fn first caps =>
  simp only [evOp] at hr
  split at hr
  ·rename_i f as hfirst has
   split at hr
   ·rename_i l hl
    simp only [Tree.run, Option.some.injEq, Prod.mk.injEq] at hr
    obtain ⟨rfl, rfl⟩ := hr
    have hargs := argsOf_is (ρ := ρ) (fun x hx => hf x (by simp [Op.operands]; exact .inr (by simpa using hx))) has
    have hc := capsOf_is hargs hl
    have hf0 : first = #[] := by apply Array.ext'; simpa using hfirst
    exact OpOk.of_value (x := .func (.func f) #[] (caps.toList.map ρ).toArray) (w' := w) (by simp [execOp, Instr.makeFunc, hf0]; apply Array.ext'; simp) (Left.same r ⟨_, rfl, hc⟩)
   ·cases hr
  ·rename_i f x xs hfirst has
   split at hr
   ·rename_i as hxs
    split at hr
    ·rename_i ls hls
     simp only [Tree.run, Option.some.injEq, Prod.mk.injEq] at hr
     obtain ⟨rfl, rfl⟩ := hr
     have hargs := argsOf_is (ρ := ρ) (fun y hy => hf y (by simp [Op.operands]; exact .inl (by rw [← Array.mem_toList_iff, hfirst]; exact hy))) hxs
     obtain ⟨hv, hone⟩ := firstsOf_is hls hargs
     have hcaps := argsOf_is (ρ := ρ) (fun y hy => hf y (by simp [Op.operands]; exact .inr (by simpa using hy))) has
     have hc0 : caps = #[] := by
      apply Array.ext'
      match hcl : caps.toList, hcaps with
      | [], _ => rfl
     have hf0 : first.map ρ = (ls.map firstV).toArray := by apply Array.ext'; rw [Array.toList_map, hfirst]; exact hv
     exact OpOk.of_value (x := .func (.func f) (ls.map firstV).toArray #[]) (w' := w) (by simp [execOp, Instr.makeFunc, hf0, hc0]) (Left.same r ⟨rfl, hone⟩)
    ·split at hr
     ·rename_i id k m j _
      simp only [Tree.run, Option.some.injEq, Prod.mk.injEq] at hr
      obtain ⟨rfl, rfl⟩ := hr
      have hargs := argsOf_is (ρ := ρ) (fun y hy => hf y (by simp [Op.operands]; exact .inl (by rw [← Array.mem_toList_iff, hfirst]; exact hy))) hxs
      have hcaps := argsOf_is (ρ := ρ) (fun y hy => hf y (by simp [Op.operands]; exact .inr (by simpa using hy))) has
      have hc0 : caps = #[] := by
       apply Array.ext'
       match hcl : caps.toList, hcaps with
       | [], _ => rfl
      obtain ⟨v, hv, hp⟩ := one_of hargs
      have hf0 : first.map ρ = #[v] := by apply Array.ext'; rw [Array.toList_map, hfirst]; exact hv
      exact OpOk.of_value (x := .func (.func f) #[v] #[]) (w' := w) (by simp [execOp, Instr.makeFunc, hf0, hc0]) (Left.same r ⟨v, rfl, hp⟩)
     ·cases hr
   ·cases hr
  ·cases hr
 | slice t x lo hi mx =>
  simp only [evOp] at hr
  split at hr
  ·rename_i id k m j hx
   split at hr
   ·rename_i n e hu
    split at hr
    ·rename_i s hs
     split at hr
     ·rename_i hc
      simp only [Bool.and_eq_true] at hc
      have hmod := Nat.eq_of_beq_eq_true hc.1
      have hn := Nat.le_of_ble_eq_true hc.2
      simp only [Tree.run, Option.some.injEq, Prod.mk.injEq] at hr
      obtain ⟨rfl, rfl⟩ := hr
      obtain ⟨bn, sz, hE, hxp⟩ := hf x (by simp [Op.operands]) _ hx
      refine OpOk.of_value (x := .slice (some ⟨bn, sz.2 + (k * m + j), none⟩) n n) (w' := w) ?_ (Left.same r (.inl ⟨bn, sz, sz.2 + (k * m + j), n, hE, rfl, Nat.le_refl _, by unfold maxLen; omega, fun _ => ?_, fun hh => by cases hh⟩))
      ·simp [execOp, Instr.sliceAt, run_underlying hu w, hxp, Instr.sureAddr, Instr.sliceBounds, size?_run hs w, addr_add]
      ·have := Nat.div_add_mod (k * m + j) (s + 1)
       rw [hmod, Nat.mul_comm] at this
       exact congrArg (sz.snd + ·) this.symm
     ·cases hr
    ·cases hr
   ·rename_i n e lo0 hi0 hu
    split at hr
    ·rename_i s kl l ku u hs hl0 hu0
     split at hr
     ·rename_i hc
      simp only [Bool.and_eq_true] at hc
      have hmod := Nat.eq_of_beq_eq_true hc.1
      have hn := Nat.le_of_ble_eq_true hc.2
      obtain ⟨hnd, hr⟩ := Tree.need_some hr
      simp only [Bool.and_eq_true, decide_eq_true_eq] at hnd
      obtain ⟨⟨h1, h2⟩, h3⟩ := hnd
      simp only [Tree.run, Option.some.injEq, Prod.mk.injEq] at hr
      obtain ⟨rfl, rfl⟩ := hr
      obtain ⟨bn, sz, hE, hxp⟩ := hf x (by simp [Op.operands]) _ hx
      obtain ⟨hlp, _⟩ := hf lo0 (by simp [Op.operands]) _ hl0
      obtain ⟨hup, _⟩ := hf hi0 (by simp [Op.operands]) _ hu0
      have hne : ¬ n = l.toNat := by omega
      have hdm : (k * m + j) + l.toNat * (s + 1) = ((k * m + j) / (s + 1) + l.toNat) * (s + 1) := by
       have := Nat.div_add_mod (k * m + j) (s + 1)
       rw [hmod, Nat.mul_comm] at this
       rw [Nat.add_mul]
       omega
      refine OpOk.of_value (x := .slice (some ⟨bn, sz.2 + (k * m + j) + l.toNat * (s + 1), none⟩) (u.toNat - l.toNat) (n - l.toNat)) (w' := w) ?_ (Left.same r (.inl ⟨bn, sz, sz.2 + (k * m + j) + l.toNat * (s + 1), n - l.toNat, hE, rfl, by omega, by unfold maxLen; omega, fun _ => by rw [← hdm]; omega, fun hh => by cases hh⟩))
      simp [execOp, Instr.sliceAt, run_underlying hu w, hxp, hlp, hup, Instr.sureAddr, Instr.sliceBounds, Instr.sliceBound, asIntOf, size?_run hs w, addr_add, h1, show l ≤ max u 0 by omega, show ¬ max u 0 < l by omega, show 0 ≤ u by omega, h3, hne]
     ·cases hr
    ·cases hr
   ·cases hr
  ·rename_i own id k m j n hx
   split at hr
   ·rename_i e lo' hi' hu hlo hhi
    split at hr
    ·rename_i s l u hs hl hu2
     split at hr
     ·rename_i hc
      simp only [Bool.and_eq_true] at hc
      have hsm := Nat.eq_of_beq_eq_true hc.1
      have hj0 := Nat.eq_of_beq_eq_true hc.2
      subst hsm; subst hj0
      obtain ⟨hnd, hr⟩ := Tree.need_some hr
      simp only [Bool.and_eq_true, decide_eq_true_eq] at hnd
      obtain ⟨⟨h1, h2⟩, h3⟩ := hnd
      simp only [Tree.run, Option.some.injEq, Prod.mk.injEq] at hr
      obtain ⟨rfl, rfl⟩ := hr
      have hfx := hf x (by simp [Op.operands]) _ hx
      have hfo : Fits E ρA ρ lo.toList := fun y hy => hf y (by simp [Op.operands]; cases lo <;> simp_all)
      have hfh : Fits E ρA ρ hi.toList := fun y hy => hf y (by simp [Op.operands]; cases hi <;> simp_all)
      have hu3 : u.toNat ≤ n := by omega
      have hlow : ∀ y : Nat, l ≤ y → (match lo.map ρ with | some v => Instr.sliceBound v y .sliceB | none => pure 0 : Sem Nat).run P w = .ok l.toNat w := by
       intro y hy
       rcases optA_is hlo hfo with ⟨rfl, rfl⟩ | ⟨z, a, rfl, rfl, ha⟩
       ·simp only [Option.some.injEq] at hl; subst hl; simp
       ·obtain ⟨kk, hz⟩ := intOf?_is hl ha
        simp [hz, Instr.sliceBound, asIntOf, h1, hy]
      have hhigh : ∀ cap, n ≤ cap → (match hi.map ρ with | some v => Instr.sliceBound v cap .sliceAcap | none => pure n : Sem Nat).run P w = .ok u.toNat w := by
       intro cap hnc
       rcases optA_is hhi hfh with ⟨rfl, rfl⟩ | ⟨z, a, rfl, rfl, ha⟩
       ·simp only [Option.some.injEq] at hu2; subst hu2; simp
       ·obtain ⟨kk, hz⟩ := intOf?_is hu2 ha
        simp [hz, Instr.sliceBound, asIntOf, show 0 ≤ u by omega, show u ≤ cap by omega]
      have hbounds : ∀ cap, n ≤ cap → (Instr.sliceBounds true n cap (lo.map ρ) (hi.map ρ) none).run P w = .ok (l.toNat, u.toNat, cap) w := by
       intro cap hnc
       have hl2 := hlow u.toNat (by omega)
       have hhigh := hhigh cap hnc
       unfold Instr.sliceBounds
       cases hlo' : lo.map ρ with
       | none =>
        rw [hlo'] at hl2
        cases hhi' : hi.map ρ with
        | none => rw [hhi'] at hhigh; simp at hl2 hhigh ⊢; omega
        | some hv => rw [hhi'] at hhigh; simp at hl2 hhigh ⊢; simp [hhigh]; omega
       | some lv =>
        rw [hlo'] at hl2
        cases hhi' : hi.map ρ with
        | none => rw [hhi'] at hhigh; simp at hl2 hhigh ⊢; rw [hhigh]; simp [hl2]
        | some hv => rw [hhi'] at hhigh; simp at hl2 hhigh ⊢; simp [hhigh, hl2]
      rcases hfx with ⟨bn, sz, o, cap, hE, hxp, hnc, hcm, ho, hown⟩ | ⟨rfl, rfl, hxp⟩
      rotate_left
      ·have hl0 : l.toNat = 0 := by omega
       have hu0 : u.toNat = 0 := by omega
       refine OpOk.of_value (x := .slice none 0 0) (w' := w) ?_ (Left.same r (.inr ⟨by cases lo <;> rfl, by omega, rfl⟩))
       simp [execOp, Instr.sliceAt, run_underlying hu w, hxp, Instr.slice, hbounds 0 (Nat.le_refl _), size?_run hs w, hl0, hu0]
      have hbounds := hbounds cap hnc
      refine OpOk.of_value (x := .slice (if cap = l.toNat then some ⟨bn, o, none⟩ else (some (⟨bn, o, none⟩ : Addr)).map (·.add (l.toNat * s))) (u.toNat - l.toNat) (cap - l.toNat)) (w' := w) ?_ ?_
      ·simp only [execOp, Instr.sliceAt, Sem.run_bind, run_underlying hu w, Result.andThen_ok, hxp, Instr.slice, Option.map_none, hbounds, size?_run hs w, Sem.run_pure]
      ·refine Left.same r ?_
       have hown' : keepOwn lo own = true → o = 0 ∧ k + l.toNat = 0 ∧ 0 = 0 ∧ sz = ((cap - l.toNat) * s, 0) := fun hh => by
        rcases optA_is hlo hfo with ⟨rfl, rfl⟩ | ⟨z, a, rfl, rfl, ha⟩
        ·simp only [Option.some.injEq] at hl; subst hl
         obtain ⟨q1, q2, _, q3⟩ := hown hh
         exact ⟨q1, by simpa using q2, rfl, by simpa using q3⟩
        ·cases hh
       have hown2 : keepOwn lo own = true → o + l.toNat * s = 0 ∧ k + l.toNat = 0 ∧ 0 = 0 ∧ sz = ((cap - l.toNat) * s, 0) := fun hh => by
        obtain ⟨q1, q2, q3, q4⟩ := hown' hh
        have q5 : l.toNat = 0 := by omega
        exact ⟨by rw [q1, q5]; simp, q2, q3, q4⟩
       by_cases hcap : cap = l.toNat
       ·rw [if_pos hcap]
        exact .inl ⟨bn, sz, o, cap - l.toNat, hE, rfl, by omega, by unfold maxLen at hcm ⊢; omega, fun h0 => by omega, hown'⟩
       ·rw [if_neg hcap]
        refine .inl ⟨bn, sz, o + l.toNat * s, cap - l.toNat, hE, ?_, by omega, by unfold maxLen at hcm ⊢; omega, fun h0 => ?_, hown2⟩
        ·simp [addr_add]
        ·rw [ho (by omega), Nat.add_mul]; omega
     ·cases hr
    ·cases hr
   ·cases hr
  ·rename_i hx
   split at hr
   ·rename_i e lo' hi' hu hlo hhi
    split at hr
    ·rename_i s l u hs hl hu2
     obtain ⟨hnd, hr⟩ := Tree.need_some hr
     simp only [Bool.and_eq_true, decide_eq_true_eq] at hnd
     obtain ⟨rfl, rfl⟩ := hnd
     simp only [Tree.run, Option.some.injEq, Prod.mk.injEq] at hr
     obtain ⟨rfl, rfl⟩ := hr
     obtain ⟨hxp, _⟩ := hf x (by simp [Op.operands]) _ hx
     have hfo : Fits E ρA ρ lo.toList := fun y hy => hf y (by simp [Op.operands]; cases lo <;> simp_all)
     have hfh : Fits E ρA ρ hi.toList := fun y hy => hf y (by simp [Op.operands]; cases hi <;> simp_all)
     have hlow : ∀ v, lo.map ρ = some v → ∃ kk, v = .int kk 0 := fun v hv => by
      rcases optA_is hlo hfo with ⟨rfl, rfl⟩ | ⟨z, a, rfl, rfl, ha⟩
      ·cases hv
      ·obtain ⟨kk, hz⟩ := intOf?_is hl ha
       simp only [Option.map_some, Option.some.injEq] at hv
       exact ⟨kk, by rw [← hv, hz]⟩
     have hhigh : ∀ v, hi.map ρ = some v → ∃ kk, v = .int kk 0 := fun v hv => by
      rcases optA_is hhi hfh with ⟨rfl, rfl⟩ | ⟨z, a, rfl, rfl, ha⟩
      ·cases hv
      ·obtain ⟨kk, hz⟩ := intOf?_is hu2 ha
       simp only [Option.map_some, Option.some.injEq] at hv
       exact ⟨kk, by rw [← hv, hz]⟩
     have hbounds : ∀ w : World, (Instr.sliceBounds true 0 0 (lo.map ρ) (hi.map ρ) none).run P w = .ok (0, 0, 0) w := fun w => by
      unfold Instr.sliceBounds
      cases hlo' : lo.map ρ with
      | none =>
       cases hhi' : hi.map ρ with
       | none => simp
       | some hv => obtain ⟨kk, rfl⟩ := hhigh _ hhi'; simp [Instr.sliceBound, asIntOf]
      | some lv =>
       obtain ⟨k1, rfl⟩ := hlow _ hlo'
       cases hhi' : hi.map ρ with
       | none => simp [Instr.sliceBound, asIntOf]
       | some hv => obtain ⟨kk, rfl⟩ := hhigh _ hhi'; simp [Instr.sliceBound, asIntOf]
     refine OpOk.of_value (x := .slice none 0 0) (w' := w) ?_ (Left.same r ⟨rfl, rfl⟩)
     simp [execOp, Instr.sliceAt, run_underlying hu w, hxp, Instr.slice, hbounds w, size?_run hs w]
    ·cases hr
   ·cases hr
  ·rename_i z0 hx
   split at hr
   ·rename_i lo' hi' hu hlo hhi
    split at hr
    ·rename_i l u hl hu2
     obtain ⟨hnd, hr⟩ := Tree.need_some hr
     simp only [Bool.and_eq_true, decide_eq_true_eq] at hnd
     obtain ⟨⟨h1, h2⟩, h3⟩ := hnd
     simp only [Tree.run, Option.some.injEq, Prod.mk.injEq] at hr
     obtain ⟨rfl, rfl⟩ := hr
     obtain ⟨hxp, _⟩ := hf x (by simp [Op.operands]) _ hx
     have hfo : Fits E ρA ρ lo.toList := fun y hy => hf y (by simp [Op.operands]; cases lo <;> simp_all)
     have hfh : Fits E ρA ρ hi.toList := fun y hy => hf y (by simp [Op.operands]; cases hi <;> simp_all)
     have hbounds := fun w => strBounds (P := P) hlo hhi hfo hfh hl hu2 h1 h2 h3 w
     refine OpOk.of_value (x := .string (z0.extract l.toNat u.toNat)) (w' := w) ?_ (Left.same r ⟨rfl, rfl⟩)
     simp [execOp, Instr.sliceAt, run_underlying hu w, hxp, Instr.slice, hbounds w]
    ·cases hr
   ·cases hr
  ·cases hr
 | fieldAddr s x f =>
  simp only [evOp] at hr
  split at hr
  ·rename_i id k m j fs hx hu
   split at hr
   ·rename_i fd hfd
    split at hr
    ·rename_i sz hs
     simp only [Tree.run, Option.some.injEq, Prod.mk.injEq] at hr
     obtain ⟨rfl, rfl⟩ := hr
     obtain ⟨bn, s', hE, hxp⟩ := hf x (by simp [Op.operands]) _ hx
     refine OpOk.of_value (x := .pointer (some ⟨bn, s'.2 + (k * m + j) + fd.offset, none⟩)) (w' := w) ?_ (Left.same r ⟨bn, s', hE, by simp [Nat.add_assoc]⟩)
     simp [execOp, Instr.fieldAt, run_underlying hu w, hfd, hxp, Instr.sureAddr, fieldPlace, size?_run hs w, addr_add]
    ·cases hr
   ·cases hr
  ·cases hr
 | field t x f =>
  simp only [evOp] at hr
  split at hr
  ·rename_i cs fs hx hu
   obtain ⟨l, hxp, hl⟩ := hf x (by simp [Op.operands]) _ hx
   split at hr
   ·rename_i fd hfd
    split at hr
    ·rename_i sz hs ha
     split at hr
     ·rename_i hle
      simp only [Tree.run, Option.some.injEq, Prod.mk.injEq] at hr
      obtain ⟨rfl, rfl⟩ := hr
      obtain ⟨y, l', hy, hl', b, hb, ho⟩ := partC_run (P := P) (t := fd.type) (off := fd.offset) (part' := (cs.drop fd.offset).take sz) hl (by unfold partC; simp [ha, hs, hle]) w
      obtain rfl : b = true := Option.some.inj (hb.symm.trans ha)
      exact OpOk.of_value (x := y) (w' := w) (by simp [execOp, Instr.field, run_underlying hu w, hfd, hxp, asAgg, hy]) (Left.same r ⟨l', ho, hl'⟩)
     ·cases hr
    ·rename_i sz hs ha
     split at hr
     ·rename_i c hc
      simp only [Tree.run, Option.some.injEq, Prod.mk.injEq] at hr
      obtain ⟨rfl, rfl⟩ := hr
      obtain ⟨y, l', hy, hl', b, hb, ho⟩ := partC_run (P := P) (t := fd.type) (off := fd.offset) (part' := [c]) hl (by unfold partC; simp [ha, hs, hc]) w
      obtain rfl : b = false := Option.some.inj (hb.symm.trans ha)
      simp only [ofCells] at ho
      subst ho
      exact OpOk.of_value (x := y) (w' := w) (by simp [execOp, Instr.field, run_underlying hu w, hfd, hxp, asAgg, hy]) (Left.same r hl'.1)
     ·cases hr
    ·cases hr
   ·cases hr
  ·cases hr
 | indexAddr t x ix =>
  simp only [evOp] at hr
  split at hr
  ·rename_i id k m j kk i hx hix
   split at hr
   ·rename_i n e hu
    split at hr
    ·rename_i s hs
     obtain ⟨hnd, hr⟩ := Tree.need_some hr
     simp only [Bool.and_eq_true, decide_eq_true_eq] at hnd
     simp only [Tree.run, Option.some.injEq, Prod.mk.injEq] at hr
     obtain ⟨rfl, rfl⟩ := hr
     obtain ⟨bn, sz, hE, hxp⟩ := hf x (by simp [Op.operands]) _ hx
     obtain ⟨hip, _⟩ := hf ix (by simp [Op.operands]) _ hix
     refine OpOk.of_value (x := .pointer (some ⟨bn, sz.2 + (k * m + j) + i.toNat * s, none⟩)) (w' := w) ?_ (Left.same r ⟨bn, sz, hE, by simp [Nat.add_assoc]⟩)
     simp [execOp, Instr.indexAt, run_underlying hu w, hip, hxp, asIntOf, Instr.sureAddr, hnd.1, hnd.2, size?_run hs w, addr_add]
    ·cases hr
   ·cases hr
  ·rename_i own id k m j n kk i hx hix
   split at hr
   ·rename_i e hu
    split at hr
    ·rename_i s hs
     split at hr
     ·rename_i hc
      simp only [Bool.and_eq_true] at hc
      have hsm := Nat.eq_of_beq_eq_true hc.1
      have hj0 := Nat.eq_of_beq_eq_true hc.2
      subst hsm; subst hj0
      obtain ⟨hnd, hr⟩ := Tree.need_some hr
      simp only [Bool.and_eq_true, decide_eq_true_eq] at hnd
      simp only [Tree.run, Option.some.injEq, Prod.mk.injEq] at hr
      obtain ⟨rfl, rfl⟩ := hr
      obtain ⟨bn, sz, o, cap, hE, hxp, hnc, hcm, ho, _⟩ := sl_some (hf x (by simp [Op.operands]) _ hx) (.inr (by omega))
      obtain ⟨hip, _⟩ := hf ix (by simp [Op.operands]) _ hix
      have ho := ho (by omega)
      subst ho
      refine OpOk.of_value (x := .pointer (some ⟨bn, sz.2 + (k * s + 0) + i.toNat * s, none⟩)) (w' := w) ?_ (Left.same r ⟨bn, sz, hE, by simp [Nat.add_mul]⟩)
      simp [execOp, Instr.indexAt, run_underlying hu w, hip, hxp, asIntOf, hnd.1, hnd.2, size?_run hs w, addr_add]
     ·cases hr
    ·cases hr
   ·cases hr
  ·cases hr
 | index t x ix =>
  simp only [evOp] at hr
  split at hr
  ·rename_i cs kk i hx hix
   obtain ⟨l, hxp, hl⟩ := hf x (by simp [Op.operands]) _ hx
   obtain ⟨hip, _⟩ := hf ix (by simp [Op.operands]) _ hix
   split at hr
   ·rename_i n e hu
    split at hr
    ·rename_i s hs ha
     obtain ⟨hnd, hr⟩ := Tree.need_some hr
     simp only [Bool.and_eq_true, decide_eq_true_eq] at hnd
     split at hr
     ·rename_i hle
      simp only [Tree.run, Option.some.injEq, Prod.mk.injEq] at hr
      obtain ⟨rfl, rfl⟩ := hr
      obtain ⟨y, l', hy, hl', b, hb, ho⟩ := partC_run (P := P) (t := e) (off := i.toNat * s) (part' := (cs.drop (i.toNat * s)).take s) hl (by unfold partC; simp [ha, hs, hle]) w
      obtain rfl : b = true := Option.some.inj (hb.symm.trans ha)
      exact OpOk.of_value (x := y) (w' := w) (by simp [execOp, Instr.index, run_underlying hu w, hip, hxp, asIntOf, hnd.1, hnd.2, size?_run hs w, hy]) (Left.same r ⟨l', ho, hl'⟩)
     ·cases hr
    ·rename_i s hs ha
     obtain ⟨hnd, hr⟩ := Tree.need_some hr
     simp only [Bool.and_eq_true, decide_eq_true_eq] at hnd
     split at hr
     ·rename_i c hc
      simp only [Tree.run, Option.some.injEq, Prod.mk.injEq] at hr
      obtain ⟨rfl, rfl⟩ := hr
      obtain ⟨y, l', hy, hl', b, hb, ho⟩ := partC_run (P := P) (t := e) (off := i.toNat * s) (part' := [c]) hl (by unfold partC; simp [ha, hs, hc]) w
      obtain rfl : b = false := Option.some.inj (hb.symm.trans ha)
      simp only [ofCells] at ho
      subst ho
      exact OpOk.of_value (x := y) (w' := w) (by simp [execOp, Instr.index, run_underlying hu w, hip, hxp, asIntOf, hnd.1, hnd.2, size?_run hs w, hy]) (Left.same r hl'.1)
     ·cases hr
    ·cases hr
   ·cases hr
  ·rename_i z0 kk i hx hix
   obtain ⟨hxp, _⟩ := hf x (by simp [Op.operands]) _ hx
   obtain ⟨hip, _⟩ := hf ix (by simp [Op.operands]) _ hix
   split at hr
   ·rename_i hu
    obtain ⟨hnd, hr⟩ := Tree.need_some hr
    simp only [Bool.and_eq_true, decide_eq_true_eq] at hnd
    simp only [Tree.run, Option.some.injEq, Prod.mk.injEq] at hr
    obtain ⟨rfl, rfl⟩ := hr
    have hlt : i.toNat < z0.size := by omega
    have hget : z0[i.toNat]? = some (z0.get! i.toNat) := by
     have e : z0.get! i.toNat = z0[i.toNat]'hlt := by
      simp [ByteArray.get!, getElem!_pos, hlt]
      rfl
     rw [e]
     exact getElem?_pos z0 i.toNat hlt
    refine OpOk.of_value (x := .int .u8 (z0.get! i.toNat).toNat) (w' := w) ?_ (Left.same r ⟨rfl, rfl⟩)
    simp [execOp, Instr.index, run_underlying hu w, hip, hxp, asIntOf, hnd.1, hget]
   ·cases hr
  ·cases hr
 | extract x i =>
  simp only [evOp] at hr
  split at hr
  ·rename_i vs hx
   obtain ⟨l, hxp, hl⟩ := hf x (by simp [Op.operands]) _ hx
   split at hr
   ·rename_i c hc
    split at hr
    ·rename_i a ha
     simp only [Tree.run, Option.some.injEq, Prod.mk.injEq] at hr
     obtain ⟨rfl, rfl⟩ := hr
     obtain ⟨y, hy, hyi⟩ := hl.get i c hc
     exact OpOk.of_value (x := y) (w' := w) (by simp [execOp, Instr.extract, hxp, hy]) (Left.same r (ofComp_is hyi ha))
    ·cases hr
   ·cases hr
  ·cases hr
 | call c => exact callA_ok hev hno (by simpa [Op.operands] using hf) r hr type
 | makeMap t res =>
  cases res with
  | some _ => simp only [evOp] at hr; cases hr
  | none =>
   simp only [evOp] at hr
   split at hr
   ·obtain ⟨⟨id, h1⟩, ha, hr⟩ := Tree.bind_some hr
    simp only [Tree.run, Option.some.injEq, Prod.mk.injEq] at hr
    obtain ⟨rfl, rfl⟩ := hr
    obtain ⟨E', hst, hE'⟩ := newimap_stp r ha
    exact OpOk.of_value (x := .map (some w.heap.size)) (w' := w.alloc (.map #[] 0)) (by simp [execOp, Instr.makeMap, newObj, Sem.run]) ⟨E', ⟨_, _, hE', rfl⟩, hst⟩
   ·obtain ⟨⟨id, h1⟩, ha, hr⟩ := Tree.bind_some hr
    simp only [Tree.run, Option.some.injEq, Prod.mk.injEq] at hr
    obtain ⟨rfl, rfl⟩ := hr
    obtain ⟨E', hst, hE'⟩ := newmap_stp r ha
    exact OpOk.of_value (x := .map (some w.heap.size)) (w' := w.alloc (.map #[] 0)) (by simp [execOp, Instr.makeMap, newObj, Sem.run]) ⟨E', ⟨_, _, hE', rfl⟩, hst⟩
 | range t x =>
  simp only [evOp] at hr
  split at hr
  ·rename_i id kt vt hx hu
   split at hr
   ·rename_i e n f b lst hb
    obtain ⟨⟨id', h1⟩, ha, hr⟩ := Tree.bind_some hr
    simp only [Tree.run, Option.some.injEq, Prod.mk.injEq] at hr
    obtain ⟨rfl, rfl⟩ := hr
    obtain ⟨bn, sz, hE, hxe⟩ := hf x (by simp [Op.operands]) _ hx
    obtain ⟨p, hp, hbi⟩ := r.blk id _ hb
    obtain rfl : p = (bn, sz) := Option.some.inj (hp.symm.trans hE)
    rcases hbi with ⟨arr, fz, _, _, hf, _⟩ | ⟨es', l, he, _⟩ | ⟨n', f', b', lst', he, _, ks, h1, h2, h3⟩ | ⟨_, _, he, _⟩
    ·exact hf.2.elim
    ·cases he
    rotate_left
    ·cases he
    have he : Body.imap n f b lst = Body.imap n' f' b' lst' := he
    injection he with e1 e2 e3 e4
    subst e1; subst e2; subst e3; subst e4
    obtain ⟨E', hst, hE'⟩ := newiter_stp r hE ha
    refine OpOk.of_value (x := .pointer (some ⟨w.heap.size, 0, none⟩)) (w' := w.alloc (.mapIter (some bn) n #[] n)) ?_ ⟨E', ⟨_, _, hE', by simp⟩, hst⟩
    simp only [execOp, hxe, Instr.range, Sem.run_bind, run_underlying hu w, Result.andThen_ok]
    rw [run_getObj_map w _ _ _ h1]
    simp [newObj, Sem.run]
   ·cases hr
  ·cases hr
 | mapEntry t m k =>
  simp only [evOp] at hr
  obtain ⟨z, w', hrun, hz, hst⟩ := entryA_ok hr r (fun a ha => hf m (by simp [Op.operands]) a ha) (fun a ha => hf k (by simp [Op.operands]) a ha)
  exact OpOk.of_value (x := z) (w' := w') (by simp [execOp, hrun]) ⟨E, hz, hst⟩
 | entryStore t m k x =>
  simp only [evOp] at hr
  obtain ⟨rfl, w', hrun, hst⟩ := entryStA_ok (P := P) (t := t) hr r (fun a ha => hf m (by simp [Op.operands]) a ha) (fun a ha => hf k (by simp [Op.operands]) a ha) (fun a ha => hf x (by simp [Op.operands]) a ha)
  exact OpOk.of_skip (w' := w') (by simp [execOp, hrun]) ⟨E, undefA_is E, hst⟩
 | insert t m k x =>
  simp only [evOp] at hr
  obtain ⟨rfl, w', hrun, hst⟩ := insertA_ok hr r (fun a ha => hf m (by simp [Op.operands]) a ha) (fun a ha => hf k (by simp [Op.operands]) a ha) (fun a ha => hf x (by simp [Op.operands]) a ha)
  exact OpOk.of_skip (w' := w') (by simp [execOp, hrun]) ⟨E, undefA_is E, hst⟩
 | mapUpdate t m k x =>
  simp only [evOp] at hr
  obtain ⟨rfl, w', hrun, hst⟩ := insertA_ok hr r (fun a ha => hf m (by simp [Op.operands]) a ha) (fun a ha => hf k (by simp [Op.operands]) a ha) (fun a ha => hf x (by simp [Op.operands]) a ha)
  exact OpOk.of_skip (w' := w') (by simp [execOp, hrun]) ⟨E, undefA_is E, hst⟩
 | lookup t x ix ok =>
  simp only [evOp] at hr
  obtain ⟨rfl, z, hrun, hz⟩ := lookupA_ok hr r (fun a ha => hf x (by simp [Op.operands]) a ha) (fun a ha => hf ix (by simp [Op.operands]) a ha)
  exact OpOk.of_value (x := z) (w' := w) (by simp [execOp, hrun]) (Left.same r hz)
 | sliceToArrayPointer t x =>
  simp only [evOp] at hr
  split at hr
  ·rename_i own id k m j n n' e hx hu
   split at hr
   ·rename_i s hs
    split at hr
    ·rename_i hc
     simp only [Bool.and_eq_true, Nat.blt_eq] at hc
     have hsm := Nat.eq_of_beq_eq_true hc.1.1
     have hj0 := Nat.eq_of_beq_eq_true hc.1.2
     subst hsm; subst hj0
     obtain ⟨hnd, hr⟩ := Tree.need_some hr
     have hnd := Nat.le_of_ble_eq_true hnd
     simp only [Tree.run, Option.some.injEq, Prod.mk.injEq] at hr
     obtain ⟨rfl, rfl⟩ := hr
     obtain ⟨bn, sz, o, cap, hE, hxp, hnc, hcm, ho, _⟩ := sl_some (hf x (by simp [Op.operands]) _ hx) (.inr (by omega))
     have ho := ho (by omega)
     subst ho
     refine OpOk.of_value (x := .pointer (some ⟨bn, sz.2 + (k * s + 0), none⟩)) (w' := w) ?_ (Left.same r ⟨bn, sz, hE, rfl⟩)
     have hlt : ¬ n < n' := by omega
     simp [execOp, Instr.arrayAt, run_underlying hu w, hxp, hlt]
    ·cases hr
   ·cases hr
  ·cases hr
 | makeSlice t x y =>
  simp only [evOp] at hr
  split at hr
  ·split at hr
   ·rename_i kl n kc n' e hx hy hu
    split at hr
    ·rename_i s z i hs hz hi
     split at hr
     ·rename_i cols hc hcols
      simp only [Bool.and_eq_true, Nat.blt_eq] at hc
      have c1 := Nat.eq_of_beq_eq_true hc.1
      have c2 := hc.2
      obtain ⟨hnd, hr2⟩ := Tree.need_some hr
      simp only [Bool.and_eq_true, decide_eq_true_eq] at hnd
      obtain ⟨⟨⟨c3, c4⟩, c5⟩, c6⟩ := hnd
      have c5 := Nat.le_of_ble_eq_true c5
      have c6 := Nat.le_of_ble_eq_true c6
      subst c3
      obtain ⟨⟨id, h1⟩, ha, hr2⟩ := Tree.bind_some hr2
      simp only [Tree.run, Option.some.injEq, Prod.mk.injEq] at hr2
      obtain ⟨rfl, rfl⟩ := hr2
      obtain ⟨hxp, _⟩ := hf x (by simp [Op.operands]) _ hx
      obtain ⟨hyp, _⟩ := hf y (by simp [Op.operands]) _ hy
      obtain ⟨zv, ⟨i0, hi0, hz0⟩, hzall⟩ := zero?_is hz E
      obtain rfl : i0 = i := Option.some.inj (hi0.symm.trans hi)
      have hisz : i0.size = s := by unfold size? at hs; rw [hi0] at hs; simpa using hs
      have hzvs : zv.cells.size = s := by rw [← c1, hzall.length]; simp
      have hb : (i0.bytes : Int) * n ≤ 281474976710656 := by
       have h5 : ((n.toNat * i0.bytes : Nat) : Int) ≤ 140737488355328 := by omega
       rw [Int.natCast_mul, Int.toNat_of_nonneg (by omega), Int.mul_comm] at h5
       omega
      have hrun := run_make (P := P) w t e i0 zv hu hi0 hz0 kl kc n n (by omega) (Int.le_refl _) hb (by omega)
      have hmade : (madeCells zv.cells (n.toNat * i0.size)) = ((List.replicate n.toNat zv.cells.toList).flatten).toArray := by
       rw [hisz]; unfold madeCells; exact rep_range zv.cells n.toNat s hzvs c2
      rw [hmade] at hrun
      have hrep := const_rows hcols (flat_is (repC_is hzall n.toNat))
      obtain ⟨hst, hE'⟩ := alloc_stp (b := { ro := false, elem := e, body := .rows n.toNat cols }) r hrep ha
      refine OpOk.of_value (x := .slice (some ⟨w.heap.size, 0, none⟩) n.toNat n.toNat) (w' := _) ?_ ⟨_, .inl ⟨_, _, 0, n.toNat, hE', rfl, Nat.le_refl _, by unfold maxLen; omega, fun _ => by simp, fun _ => ⟨rfl, rfl, rfl, ?_⟩⟩, hst⟩
      ·simp only [execOp, hxp, hyp, Sem.run_bind, hrun, Result.andThen_ok, Sem.run_pure]
      ·have hl := (repC_is hzall n.toNat).length
       simp [hzvs]
     ·cases hr
    ·cases hr
   ·cases hr
  ·split at hr
   ·rename_i kl n kc n' e hx hy hu
    split at hr
    ·rename_i s z i hs hz hi
     split at hr
     ·rename_i hc
      simp only [Bool.and_eq_true, Nat.blt_eq, decide_eq_true_eq] at hc
      obtain ⟨⟨⟨⟨⟨c1, c2⟩, c3⟩, c4⟩, c5⟩, c6⟩ := hc
      have c1 := Nat.eq_of_beq_eq_true c1
      have c5 := Nat.le_of_ble_eq_true c5
      have c6 := Nat.le_of_ble_eq_true c6
      subst c3
      obtain ⟨⟨id, h1⟩, ha, hr⟩ := Tree.bind_some hr
      simp only [Tree.run, Option.some.injEq, Prod.mk.injEq] at hr
      obtain ⟨rfl, rfl⟩ := hr
      obtain ⟨hxp, _⟩ := hf x (by simp [Op.operands]) _ hx
      obtain ⟨hyp, _⟩ := hf y (by simp [Op.operands]) _ hy
      obtain ⟨zv, ⟨i0, hi0, hz0⟩, hzall⟩ := zero?_is hz E
      obtain rfl : i0 = i := Option.some.inj (hi0.symm.trans hi)
      have hisz : i0.size = s := by unfold size? at hs; rw [hi0] at hs; simpa using hs
      have hzvs : zv.cells.size = s := by rw [← c1, hzall.length]; simp
      have hb : (i0.bytes : Int) * n ≤ 281474976710656 := by
       have h5 : ((n.toNat * i0.bytes : Nat) : Int) ≤ 140737488355328 := by omega
       rw [Int.natCast_mul, Int.toNat_of_nonneg (by omega), Int.mul_comm] at h5
       omega
      have hrun := run_make (P := P) w t e i0 zv hu hi0 hz0 kl kc n n (by omega) (Int.le_refl _) hb (by omega)
      have hmade : (madeCells zv.cells (n.toNat * i0.size)) = ((List.replicate n.toNat zv.cells.toList).flatten).toArray := by
       rw [hisz]; unfold madeCells; exact rep_range zv.cells n.toNat s hzvs c2
      rw [hmade] at hrun
      have hrep := flat_is (repC_is hzall n.toNat)
      obtain ⟨hst, hE'⟩ := alloc_stp r hrep ha
      refine OpOk.of_value (x := .slice (some ⟨w.heap.size, 0, none⟩) n.toNat n.toNat) (w' := _) ?_ ⟨_, .inl ⟨_, _, 0, n.toNat, hE', rfl, Nat.le_refl _, by unfold maxLen; omega, fun _ => by simp, fun _ => ⟨rfl, rfl, rfl, ?_⟩⟩, hst⟩
      ·simp only [execOp, hxp, hyp, Sem.run_bind, hrun, Result.andThen_ok, Sem.run_pure]
      ·have hl := (repC_is hzall n.toNat).length
       simp [hzvs]
     ·cases hr
    ·cases hr
   ·cases hr
 | _ => simp only [evOp] at hr; cases hr
theorem pure_ok {evf : FuncId → Spec} (o : Oper) (hp : isPure o.op = true) (hf : Fits E ρA ρ o.op.operands.toList) (hr : (evOp P evf o.op ρA h).run = some (v, h')) :
  h' = h ∧ ∃ x, v.Is E x ∧ ∀ w, (execOp ρ o).run P w = .ok (.value x) w := by
 obtain ⟨dst, op, type, pos, after, guard⟩ := o
 simp only at hf hr hp
 cases op with
 | move x =>
  simp only [evOp] at hr
  split at hr
  ·rename_i a ha
   simp only [Tree.run, Option.some.injEq, Prod.mk.injEq] at hr
   obtain ⟨rfl, rfl⟩ := hr
   exact ⟨rfl, ρ x, hf x (by simp [Op.operands]) a ha, fun _ => rfl⟩
  ·cases hr
 | nilCheck x =>
  simp only [evOp] at hr
  split at hr
  ·rename_i id k m j hx
   simp only [Tree.run, Option.some.injEq, Prod.mk.injEq] at hr
   obtain ⟨rfl, rfl⟩ := hr
   have hi := hf x (by simp [Op.operands]) _ hx
   obtain ⟨bn, s, hE, hxp⟩ := hi
   exact ⟨rfl, ρ x, ⟨bn, s, hE, hxp⟩, fun w => by simp [execOp, hxp]⟩
  ·rename_i f cs hx
   simp only [Tree.run, Option.some.injEq, Prod.mk.injEq] at hr
   obtain ⟨rfl, rfl⟩ := hr
   have hi := hf x (by simp [Op.operands]) _ hx
   obtain ⟨vs, hxp, ha⟩ := hi
   exact ⟨rfl, ρ x, ⟨vs, hxp, ha⟩, fun w => by simp [execOp, hxp]⟩
  ·rename_i id hx
   simp only [Tree.run, Option.some.injEq, Prod.mk.injEq] at hr
   obtain ⟨rfl, rfl⟩ := hr
   have hi := hf x (by simp [Op.operands]) _ hx
   obtain ⟨l, s, hE, hxp⟩ := hi
   exact ⟨rfl, ρ x, ⟨l, s, hE, hxp⟩, fun w => by simp [execOp, hxp]⟩
  ·rename_i f ls hx
   simp only [Tree.run, Option.some.injEq, Prod.mk.injEq] at hr
   obtain ⟨rfl, rfl⟩ := hr
   have hi := hf x (by simp [Op.operands]) _ hx
   obtain ⟨hxp, ha⟩ := hi
   exact ⟨rfl, ρ x, ⟨hxp, ha⟩, fun w => by simp [execOp, hxp]⟩
  ·rename_i f id k m j hx
   simp only [Tree.run, Option.some.injEq, Prod.mk.injEq] at hr
   obtain ⟨rfl, rfl⟩ := hr
   have hi := hf x (by simp [Op.operands]) _ hx
   obtain ⟨v, hxp, ha⟩ := hi
   exact ⟨rfl, ρ x, ⟨v, hxp, ha⟩, fun w => by simp [execOp, hxp]⟩
  ·cases hr
 | binOp op t x y yt =>
  simp only [evOp] at hr
  split at hr
  ·rename_i u u2 hx hy
   obtain ⟨a, ha, hr⟩ := Tree.bind_some hr
   simp only [Tree.run, Option.some.injEq, Prod.mk.injEq] at hr
   obtain ⟨rfl, rfl⟩ := hr
   obtain ⟨z, hz, hzi⟩ := binary_all (P := P) ha (hf x (by simp [Op.operands]) _ hx) (hf y (by simp [Op.operands]) _ hy) x y
   refine ⟨rfl, z, hzi, fun w => ?_⟩
   have hz := hz w
   simp only [execOp, Sem.run_bind, Sem.run_pure] at hz ⊢
   rw [hz]
   rfl
  ·cases hr
 | unOp op t x =>
  simp only [evOp] at hr
  split at hr
  ·rename_i u hx
   obtain ⟨a, ha, hr⟩ := Tree.bind_some hr
   simp only [Tree.run, Option.some.injEq, Prod.mk.injEq] at hr
   obtain ⟨rfl, rfl⟩ := hr
   obtain ⟨hxp, _⟩ := hf x (by simp [Op.operands]) _ hx
   obtain ⟨z, hz, hzi⟩ := pureC_all ha E
   exact ⟨rfl, z, hzi, fun w => by simp [execOp, hxp, hz]⟩
  ·cases hr
 | convert s d x =>
  simp only [evOp] at hr
  split at hr
  ·rename_i u hx
   obtain ⟨a, ha, hr⟩ := Tree.bind_some hr
   simp only [Tree.run, Option.some.injEq, Prod.mk.injEq] at hr
   obtain ⟨rfl, rfl⟩ := hr
   obtain ⟨hxp, _⟩ := hf x (by simp [Op.operands]) _ hx
   obtain ⟨z, hz, hzi⟩ := convA_all ha E
   exact ⟨rfl, z, hzi, fun w => by simp [execOp, hxp, hz]⟩
  ·cases hr
 | indexAddr t x ix =>
  simp only [evOp] at hr
  split at hr
  ·rename_i id k m j kk i hx hix
   split at hr
   ·rename_i n e hu
    split at hr
    ·rename_i s hs
     obtain ⟨hnd, hr⟩ := Tree.need_some hr
     simp only [Bool.and_eq_true, decide_eq_true_eq] at hnd
     simp only [Tree.run, Option.some.injEq, Prod.mk.injEq] at hr
     obtain ⟨rfl, rfl⟩ := hr
     obtain ⟨bn, sz, hE, hxp⟩ := hf x (by simp [Op.operands]) _ hx
     obtain ⟨hip, _⟩ := hf ix (by simp [Op.operands]) _ hix
     refine ⟨rfl, .pointer (some ⟨bn, sz.2 + (k * m + j) + i.toNat * s, none⟩), ⟨bn, sz, hE, by simp [Nat.add_assoc]⟩, fun w => ?_⟩
     simp [execOp, Instr.indexAt, run_underlying hu w, hip, hxp, asIntOf, Instr.sureAddr, hnd.1, hnd.2, size?_run hs w, addr_add]
    ·cases hr
   ·cases hr
  ·rename_i own id k m j n kk i hx hix
   split at hr
   ·rename_i e hu
    split at hr
    ·rename_i s hs
     split at hr
     ·rename_i hc
      simp only [Bool.and_eq_true] at hc
      have hsm := Nat.eq_of_beq_eq_true hc.1
      have hj0 := Nat.eq_of_beq_eq_true hc.2
      subst hsm; subst hj0
      obtain ⟨hnd, hr⟩ := Tree.need_some hr
      simp only [Bool.and_eq_true, decide_eq_true_eq] at hnd
      simp only [Tree.run, Option.some.injEq, Prod.mk.injEq] at hr
      obtain ⟨rfl, rfl⟩ := hr
      obtain ⟨bn, sz, o, cap, hE, hxp, hnc, hcm, ho, _⟩ := sl_some (hf x (by simp [Op.operands]) _ hx) (.inr (by omega))
      obtain ⟨hip, _⟩ := hf ix (by simp [Op.operands]) _ hix
      have ho := ho (by omega)
      subst ho
      refine ⟨rfl, .pointer (some ⟨bn, sz.2 + (k * s + 0) + i.toNat * s, none⟩), ⟨bn, sz, hE, by simp [Nat.add_mul]⟩, fun w => ?_⟩
      simp [execOp, Instr.indexAt, run_underlying hu w, hip, hxp, asIntOf, hnd.1, hnd.2, size?_run hs w, addr_add]
     ·cases hr
    ·cases hr
   ·cases hr
  ·cases hr
 | fieldAddr s x f =>
  simp only [evOp] at hr
  split at hr
  ·rename_i id k m j fs hx hu
   split at hr
   ·rename_i fd hfd
    split at hr
    ·rename_i sz hs
     simp only [Tree.run, Option.some.injEq, Prod.mk.injEq] at hr
     obtain ⟨rfl, rfl⟩ := hr
     obtain ⟨bn, s', hE, hxp⟩ := hf x (by simp [Op.operands]) _ hx
     refine ⟨rfl, .pointer (some ⟨bn, s'.2 + (k * m + j) + fd.offset, none⟩), ⟨bn, s', hE, by simp [Nat.add_assoc]⟩, fun w => ?_⟩
     simp [execOp, Instr.fieldAt, run_underlying hu w, hfd, hxp, Instr.sureAddr, fieldPlace, size?_run hs w, addr_add]
    ·cases hr
   ·cases hr
  ·cases hr
 | build t parts =>
  simp only [evOp] at hr
  split at hr
  ·rename_i z ps hz hps
   obtain ⟨zv, hzv, hzc⟩ := zero?_is hz E
   have hpi := partsOf_is (ρ := ρ) (by simpa [Op.operands] using hf) hps
   have eparts : (parts.map fun (i, x) => (i, ρ x)).toList = parts.toList.map fun p => (p.1, ρ p.2) := by simp
   split at hr
   ·rename_i fs hu
    split at hr
    ·rename_i places hpl
     split at hr
     ·rename_i cs hcs
      simp only [Tree.run, Option.some.injEq, Prod.mk.injEq] at hr
      obtain ⟨rfl, rfl⟩ := hr
      obtain ⟨l', hl', ho⟩ := fill_is hpi hzc hcs
      refine ⟨rfl, .agg l'.toArray, ⟨l', rfl, ho⟩, fun w => ?_⟩
      have hp := placesOf_run (P := P) hpl w
      rw [Array.toArray_toList] at hp
      simp only [Array.toArray_toList] at hl'
      have hfun : nth places = fun i => places.toArray[i]? := by funext i; rw [nth_eq]; simp
      rw [hfun] at hl'
      simp only [execOp, Instr.build, Sem.run_bind, zero?_run hzv w, Result.andThen_ok, run_underlying hu w, hp, eparts, hl', Sem.run_pure]
     ·cases hr
    ·cases hr
   ·rename_i n e hu
    split at hr
    ·rename_i s hs
     split at hr
     ·rename_i cs hcs
      simp only [Tree.run, Option.some.injEq, Prod.mk.injEq] at hr
      obtain ⟨rfl, rfl⟩ := hr
      obtain ⟨l', hl', ho⟩ := fill_is hpi hzc hcs
      refine ⟨rfl, .agg l'.toArray, ⟨l', rfl, ho⟩, fun w => ?_⟩
      simp only [Array.toArray_toList] at hl'
      simp only [execOp, Instr.build, Sem.run_bind, zero?_run hzv w, Result.andThen_ok, run_underlying hu w, size?_run hs w, eparts, hl', Sem.run_pure]
     ·cases hr
    ·cases hr
   ·cases hr
  ·cases hr
 | makeFunc fn first caps =>
  simp only [evOp] at hr
  split at hr
  ·rename_i f as hfirst has
   split at hr
   ·rename_i l hl
    simp only [Tree.run, Option.some.injEq, Prod.mk.injEq] at hr
    obtain ⟨rfl, rfl⟩ := hr
    have hargs := argsOf_is (ρ := ρ) (fun x hx => hf x (by simp [Op.operands]; exact .inr (by simpa using hx))) has
    have hc := capsOf_is hargs hl
    have hf0 : first = #[] := by apply Array.ext'; simpa using hfirst
    exact ⟨rfl, .func (.func f) #[] (caps.toList.map ρ).toArray, ⟨_, rfl, hc⟩, fun w => by simp [execOp, Instr.makeFunc, hf0]; apply Array.ext'; simp⟩
   ·cases hr
  ·rename_i f x xs hfirst has
   split at hr
   ·rename_i as hxs
    split at hr
    ·rename_i ls hls
     simp only [Tree.run, Option.some.injEq, Prod.mk.injEq] at hr
     obtain ⟨rfl, rfl⟩ := hr
     have hargs := argsOf_is (ρ := ρ) (fun y hy => hf y (by simp [Op.operands]; exact .inl (by rw [← Array.mem_toList_iff, hfirst]; exact hy))) hxs
     obtain ⟨hv, hone⟩ := firstsOf_is hls hargs
     have hcaps := argsOf_is (ρ := ρ) (fun y hy => hf y (by simp [Op.operands]; exact .inr (by simpa using hy))) has
     have hc0 : caps = #[] := by
      apply Array.ext'
      match hcl : caps.toList, hcaps with
      | [], _ => rfl
     have hf0 : first.map ρ = (ls.map firstV).toArray := by apply Array.ext'; rw [Array.toList_map, hfirst]; exact hv
     exact ⟨rfl, .func (.func f) (ls.map firstV).toArray #[], ⟨rfl, hone⟩, fun w => by simp [execOp, Instr.makeFunc, hf0, hc0]⟩
    ·split at hr
     ·rename_i id k m j _
      simp only [Tree.run, Option.some.injEq, Prod.mk.injEq] at hr
      obtain ⟨rfl, rfl⟩ := hr
      have hargs := argsOf_is (ρ := ρ) (fun y hy => hf y (by simp [Op.operands]; exact .inl (by rw [← Array.mem_toList_iff, hfirst]; exact hy))) hxs
      have hcaps := argsOf_is (ρ := ρ) (fun y hy => hf y (by simp [Op.operands]; exact .inr (by simpa using hy))) has
      have hc0 : caps = #[] := by
       apply Array.ext'
       match hcl : caps.toList, hcaps with
       | [], _ => rfl
      obtain ⟨v, hv, hp⟩ := one_of hargs
      have hf0 : first.map ρ = #[v] := by apply Array.ext'; rw [Array.toList_map, hfirst]; exact hv
      exact ⟨rfl, .func (.func f) #[v] #[], ⟨v, rfl, hp⟩, fun w => by simp [execOp, Instr.makeFunc, hf0, hc0]⟩
     ·cases hr
   ·cases hr
  ·cases hr
 | slice t x lo hi mx =>
  simp only [evOp] at hr
  split at hr
  ·rename_i id k m j hx
   split at hr
   ·rename_i n e hu
    split at hr
    ·rename_i s hs
     split at hr
     ·rename_i hc
      simp only [Bool.and_eq_true] at hc
      have hmod := Nat.eq_of_beq_eq_true hc.1
      have hn := Nat.le_of_ble_eq_true hc.2
      simp only [Tree.run, Option.some.injEq, Prod.mk.injEq] at hr
      obtain ⟨rfl, rfl⟩ := hr
      obtain ⟨bn, sz, hE, hxp⟩ := hf x (by simp [Op.operands]) _ hx
      refine ⟨rfl, .slice (some ⟨bn, sz.2 + (k * m + j), none⟩) n n, .inl ⟨bn, sz, sz.2 + (k * m + j), n, hE, rfl, Nat.le_refl _, by unfold maxLen; omega, fun _ => ?_, fun hh => by cases hh⟩, fun w => ?_⟩
      rotate_left
      ·simp [execOp, Instr.sliceAt, run_underlying hu w, hxp, Instr.sureAddr, Instr.sliceBounds, size?_run hs w, addr_add]
      ·have := Nat.div_add_mod (k * m + j) (s + 1)
       rw [hmod, Nat.mul_comm] at this
       exact congrArg (sz.snd + ·) this.symm
     ·cases hr
    ·cases hr
   ·rename_i n e lo0 hi0 hu
    split at hr
    ·rename_i s kl l ku u hs hl0 hu0
     split at hr
     ·rename_i hc
      simp only [Bool.and_eq_true] at hc
      have hmod := Nat.eq_of_beq_eq_true hc.1
      have hn := Nat.le_of_ble_eq_true hc.2
      obtain ⟨hnd, hr⟩ := Tree.need_some hr
      simp only [Bool.and_eq_true, decide_eq_true_eq] at hnd
      obtain ⟨⟨h1, h2⟩, h3⟩ := hnd
      simp only [Tree.run, Option.some.injEq, Prod.mk.injEq] at hr
      obtain ⟨rfl, rfl⟩ := hr
      obtain ⟨bn, sz, hE, hxp⟩ := hf x (by simp [Op.operands]) _ hx
      obtain ⟨hlp, _⟩ := hf lo0 (by simp [Op.operands]) _ hl0
      obtain ⟨hup, _⟩ := hf hi0 (by simp [Op.operands]) _ hu0
      have hne : ¬ n = l.toNat := by omega
      have hdm : (k * m + j) + l.toNat * (s + 1) = ((k * m + j) / (s + 1) + l.toNat) * (s + 1) := by
       have := Nat.div_add_mod (k * m + j) (s + 1)
       rw [hmod, Nat.mul_comm] at this
       rw [Nat.add_mul]
       omega
      refine ⟨rfl, .slice (some ⟨bn, sz.2 + (k * m + j) + l.toNat * (s + 1), none⟩) (u.toNat - l.toNat) (n - l.toNat), .inl ⟨bn, sz, sz.2 + (k * m + j) + l.toNat * (s + 1), n - l.toNat, hE, rfl, by omega, by unfold maxLen; omega, fun _ => by rw [← hdm]; omega, fun hh => by cases hh⟩, fun w => ?_⟩
      simp [execOp, Instr.sliceAt, run_underlying hu w, hxp, hlp, hup, Instr.sureAddr, Instr.sliceBounds, Instr.sliceBound, asIntOf, size?_run hs w, addr_add, h1, show l ≤ max u 0 by omega, show ¬ max u 0 < l by omega, show 0 ≤ u by omega, h3, hne]
     ·cases hr
    ·cases hr
   ·cases hr
  ·rename_i own id k m j n hx
   split at hr
   ·rename_i e lo' hi' hu hlo hhi
    split at hr
    ·rename_i s l u hs hl hu2
     split at hr
     ·rename_i hc
      simp only [Bool.and_eq_true] at hc
      have hsm := Nat.eq_of_beq_eq_true hc.1
      have hj0 := Nat.eq_of_beq_eq_true hc.2
      subst hsm; subst hj0
      obtain ⟨hnd, hr⟩ := Tree.need_some hr
      simp only [Bool.and_eq_true, decide_eq_true_eq] at hnd
      obtain ⟨⟨h1, h2⟩, h3⟩ := hnd
      simp only [Tree.run, Option.some.injEq, Prod.mk.injEq] at hr
      obtain ⟨rfl, rfl⟩ := hr
      have hfx := hf x (by simp [Op.operands]) _ hx
      have hfo : Fits E ρA ρ lo.toList := fun y hy => hf y (by simp [Op.operands]; cases lo <;> simp_all)
      have hfh : Fits E ρA ρ hi.toList := fun y hy => hf y (by simp [Op.operands]; cases hi <;> simp_all)
      have hu3 : u.toNat ≤ n := by omega
      have hlow : ∀ (w : World) (y : Nat), l ≤ y → (match lo.map ρ with | some v => Instr.sliceBound v y .sliceB | none => pure 0 : Sem Nat).run P w = .ok l.toNat w := by
       intro w y hy
       rcases optA_is hlo hfo with ⟨rfl, rfl⟩ | ⟨z, a, rfl, rfl, ha⟩
       ·simp only [Option.some.injEq] at hl; subst hl; simp
       ·obtain ⟨kk, hz⟩ := intOf?_is hl ha
        simp [hz, Instr.sliceBound, asIntOf, h1, hy]
      have hhigh : ∀ (cap : Nat), n ≤ cap → ∀ w : World, (match hi.map ρ with | some v => Instr.sliceBound v cap .sliceAcap | none => pure n : Sem Nat).run P w = .ok u.toNat w := by
       intro cap hnc w
       rcases optA_is hhi hfh with ⟨rfl, rfl⟩ | ⟨z, a, rfl, rfl, ha⟩
       ·simp only [Option.some.injEq] at hu2; subst hu2; simp
       ·obtain ⟨kk, hz⟩ := intOf?_is hu2 ha
        simp [hz, Instr.sliceBound, asIntOf, show 0 ≤ u by omega, show u ≤ cap by omega]
      have hbounds : ∀ (cap : Nat), n ≤ cap → ∀ w : World, (Instr.sliceBounds true n cap (lo.map ρ) (hi.map ρ) none).run P w = .ok (l.toNat, u.toNat, cap) w := by
       intro cap hnc w
       have hl2 := hlow w u.toNat (by omega)
       have hhigh := hhigh cap hnc w
       unfold Instr.sliceBounds
       cases hlo' : lo.map ρ with
       | none =>
        rw [hlo'] at hl2
        cases hhi' : hi.map ρ with
        | none => rw [hhi'] at hhigh; simp at hl2 hhigh ⊢; omega
        | some hv => rw [hhi'] at hhigh; simp at hl2 hhigh ⊢; simp [hhigh]; omega
       | some lv =>
        rw [hlo'] at hl2
        cases hhi' : hi.map ρ with
        | none => rw [hhi'] at hhigh; simp at hl2 hhigh ⊢; rw [hhigh]; simp [hl2]
        | some hv => rw [hhi'] at hhigh; simp at hl2 hhigh ⊢; simp [hhigh, hl2]
      rcases hfx with ⟨bn, sz, o, cap, hE, hxp, hnc, hcm, ho, hown⟩ | ⟨rfl, rfl, hxp⟩
      rotate_left
      ·have hl0 : l.toNat = 0 := by omega
       have hu0 : u.toNat = 0 := by omega
       refine ⟨rfl, .slice none 0 0, .inr ⟨by cases lo <;> rfl, by omega, rfl⟩, fun w => ?_⟩
       simp [execOp, Instr.sliceAt, run_underlying hu w, hxp, Instr.slice, hbounds 0 (Nat.le_refl _) w, size?_run hs w, hl0, hu0]
      have hbounds := hbounds cap hnc
      refine ⟨rfl, .slice (if cap = l.toNat then some ⟨bn, o, none⟩ else (some (⟨bn, o, none⟩ : Addr)).map (·.add (l.toNat * s))) (u.toNat - l.toNat) (cap - l.toNat), ?_, fun w => ?_⟩
      rotate_left
      ·simp only [execOp, Instr.sliceAt, Sem.run_bind, run_underlying hu w, Result.andThen_ok, hxp, Instr.slice, Option.map_none, hbounds w, size?_run hs w, Sem.run_pure]
      ·have hown' : keepOwn lo own = true → o = 0 ∧ k + l.toNat = 0 ∧ 0 = 0 ∧ sz = ((cap - l.toNat) * s, 0) := fun hh => by
        rcases optA_is hlo hfo with ⟨rfl, rfl⟩ | ⟨z, a, rfl, rfl, ha⟩
        ·simp only [Option.some.injEq] at hl; subst hl
         obtain ⟨q1, q2, _, q3⟩ := hown hh
         exact ⟨q1, by simpa using q2, rfl, by simpa using q3⟩
        ·cases hh
       have hown2 : keepOwn lo own = true → o + l.toNat * s = 0 ∧ k + l.toNat = 0 ∧ 0 = 0 ∧ sz = ((cap - l.toNat) * s, 0) := fun hh => by
        obtain ⟨q1, q2, q3, q4⟩ := hown' hh
        have q5 : l.toNat = 0 := by omega
        exact ⟨by rw [q1, q5]; simp, q2, q3, q4⟩
       by_cases hcap : cap = l.toNat
       ·rw [if_pos hcap]
        exact .inl ⟨bn, sz, o, cap - l.toNat, hE, rfl, by omega, by unfold maxLen at hcm ⊢; omega, fun h0 => by omega, hown'⟩
       ·rw [if_neg hcap]
        refine .inl ⟨bn, sz, o + l.toNat * s, cap - l.toNat, hE, ?_, by omega, by unfold maxLen at hcm ⊢; omega, fun h0 => ?_, hown2⟩
        ·simp [addr_add]
        ·rw [ho (by omega), Nat.add_mul]; omega
     ·cases hr
    ·cases hr
   ·cases hr
  ·rename_i hx
   split at hr
   ·rename_i e lo' hi' hu hlo hhi
    split at hr
    ·rename_i s l u hs hl hu2
     obtain ⟨hnd, hr⟩ := Tree.need_some hr
     simp only [Bool.and_eq_true, decide_eq_true_eq] at hnd
     obtain ⟨rfl, rfl⟩ := hnd
     simp only [Tree.run, Option.some.injEq, Prod.mk.injEq] at hr
     obtain ⟨rfl, rfl⟩ := hr
     obtain ⟨hxp, _⟩ := hf x (by simp [Op.operands]) _ hx
     have hfo : Fits E ρA ρ lo.toList := fun y hy => hf y (by simp [Op.operands]; cases lo <;> simp_all)
     have hfh : Fits E ρA ρ hi.toList := fun y hy => hf y (by simp [Op.operands]; cases hi <;> simp_all)
     have hlow : ∀ v, lo.map ρ = some v → ∃ kk, v = .int kk 0 := fun v hv => by
      rcases optA_is hlo hfo with ⟨rfl, rfl⟩ | ⟨z, a, rfl, rfl, ha⟩
      ·cases hv
      ·obtain ⟨kk, hz⟩ := intOf?_is hl ha
       simp only [Option.map_some, Option.some.injEq] at hv
       exact ⟨kk, by rw [← hv, hz]⟩
     have hhigh : ∀ v, hi.map ρ = some v → ∃ kk, v = .int kk 0 := fun v hv => by
      rcases optA_is hhi hfh with ⟨rfl, rfl⟩ | ⟨z, a, rfl, rfl, ha⟩
      ·cases hv
      ·obtain ⟨kk, hz⟩ := intOf?_is hu2 ha
       simp only [Option.map_some, Option.some.injEq] at hv
       exact ⟨kk, by rw [← hv, hz]⟩
     have hbounds : ∀ w : World, (Instr.sliceBounds true 0 0 (lo.map ρ) (hi.map ρ) none).run P w = .ok (0, 0, 0) w := fun w => by
      unfold Instr.sliceBounds
      cases hlo' : lo.map ρ with
      | none =>
       cases hhi' : hi.map ρ with
       | none => simp
       | some hv => obtain ⟨kk, rfl⟩ := hhigh _ hhi'; simp [Instr.sliceBound, asIntOf]
      | some lv =>
       obtain ⟨k1, rfl⟩ := hlow _ hlo'
       cases hhi' : hi.map ρ with
       | none => simp [Instr.sliceBound, asIntOf]
       | some hv => obtain ⟨kk, rfl⟩ := hhigh _ hhi'; simp [Instr.sliceBound, asIntOf]
     refine ⟨rfl, .slice none 0 0, ⟨rfl, rfl⟩, fun w => ?_⟩
     simp [execOp, Instr.sliceAt, run_underlying hu w, hxp, Instr.slice, hbounds w, size?_run hs w]
    ·cases hr
   ·cases hr
  ·rename_i z0 hx
   split at hr
   ·rename_i lo' hi' hu hlo hhi
    split at hr
    ·rename_i l u hl hu2
     obtain ⟨hnd, hr⟩ := Tree.need_some hr
     simp only [Bool.and_eq_true, decide_eq_true_eq] at hnd
     obtain ⟨⟨h1, h2⟩, h3⟩ := hnd
     simp only [Tree.run, Option.some.injEq, Prod.mk.injEq] at hr
     obtain ⟨rfl, rfl⟩ := hr
     obtain ⟨hxp, _⟩ := hf x (by simp [Op.operands]) _ hx
     have hfo : Fits E ρA ρ lo.toList := fun y hy => hf y (by simp [Op.operands]; cases lo <;> simp_all)
     have hfh : Fits E ρA ρ hi.toList := fun y hy => hf y (by simp [Op.operands]; cases hi <;> simp_all)
     have hbounds := fun w => strBounds (P := P) hlo hhi hfo hfh hl hu2 h1 h2 h3 w
     refine ⟨rfl, .string (z0.extract l.toNat u.toNat), ⟨rfl, rfl⟩, fun w => ?_⟩
     simp [execOp, Instr.sliceAt, run_underlying hu w, hxp, Instr.slice, hbounds w]
    ·cases hr
   ·cases hr
  ·cases hr
 | extract x i =>
  simp only [evOp] at hr
  split at hr
  ·rename_i vs hx
   obtain ⟨l, hxp, hl⟩ := hf x (by simp [Op.operands]) _ hx
   split at hr
   ·rename_i c hc
    split at hr
    ·rename_i a ha
     simp only [Tree.run, Option.some.injEq, Prod.mk.injEq] at hr
     obtain ⟨rfl, rfl⟩ := hr
     obtain ⟨y, hy, hyi⟩ := hl.get i c hc
     exact ⟨rfl, y, ofComp_is hyi ha, fun w => by simp [execOp, Instr.extract, hxp, hy]⟩
    ·cases hr
   ·cases hr
  ·cases hr
 | call c =>
  obtain ⟨callee, args, argTypes⟩ := c
  cases callee with
  | builtin b =>
   cases b <;> first | (cases hp; done) | skip
   have hfa : Fits E ρA ρ args.toList := fun x hx => hf x (by simp only [Op.operands]; unfold Call.operands; rw [Array.toList_append]; exact List.mem_append_right _ hx)
   simp only [evOp] at hr
   unfold callA at hr
   simp only at hr
   split at hr
   ·rename_i as has
    have hargs := argsOf_is hfa has
    have emap : args.map ρ = (args.toList.map ρ).toArray := by apply Array.ext'; simp
    split at hr
    ·rename_i x t ts hat
     obtain ⟨y, hy, hr⟩ := Tree.bind_some hr
     simp only [Tree.run, Option.some.injEq, Prod.mk.injEq] at hr
     obtain ⟨rfl, rfl⟩ := hr
     match hl : args.toList.map ρ, hargs with
     | [p], hargs =>
      obtain ⟨z, hz, hzi⟩ := lenA_all (P := P) hy hargs.1 type
      have h0 : argTypes[0]? = some t := by rw [← Array.getElem?_toList, hat]; rfl
      have hz' : ∀ w, (Builtin.len_ argTypes type #[p]).run P w = .ok z w := fun w => by
       rw [← hz w]; simp only [Builtin.len_, h0]; rfl
      exact ⟨rfl, z, hzi, fun w => by simp only [execOp, resolve, emap, hl, Sem.run_bind, Sem.run_pure, Result.andThen_ok, invoke, builtin, hz' w]⟩
    ·cases hr
   ·cases hr
  | value f => cases hp
  | invoke rv m => cases hp
 | _ => cases hp
theorem held_load {evf : FuncId → Spec} {E0 : Env} {h0 : Hp} {w0 : World} (o : Oper) (hp : isLoad o.op = true) (r0 : RH E0 h0 w0) (hle : E0.le E) (hf : Fits E ρA ρ o.op.operands.toList) (hr : (evOp P evf o.op ρA h0).run = some (v, h')) :
  h' = h0 ∧ ∃ x, v.Is E x ∧ ∀ w', (∀ b, b < w0.heap.size → w'.heap[b]? = w0.heap[b]?) → (execOp ρ o).run P w' = .ok (.value x) w' := by
 obtain ⟨dst, op, type, pos, after, guard⟩ := o
 simp only at hf hr hp
 cases op with
 | load t x =>
  simp only [evOp] at hr
  split at hr
  ·rename_i id k m j hx
   have hi := hf x (by simp [Op.operands]) _ hx
   obtain ⟨bn, s', hE, hxp⟩ := hi
   split at hr
   ·rename_i b s hb ha hs
    obtain ⟨cs, hc, hr⟩ := Tree.bind_some hr
    simp only [Tree.run, Option.some.injEq, Prod.mk.injEq] at hr
    obtain ⟨rfl, rfl⟩ := hr
    obtain ⟨p, hp0, hbi⟩ := r0.blk id b hb
    obtain rfl : p = (bn, s') := Option.some.inj ((hle _ _ hp0).symm.trans hE)
    obtain ⟨y, hy, hyi⟩ := load_agg_all (P := P) hbi hc ha hs
    exact ⟨rfl, y, hyi.mono hle, fun w' hw => by simp [execOp, hxp, Instr.loadAt, Instr.sureAddr, hy w' (hw _ (r0.lt _ _ hp0))]⟩
   ·rename_i b hb ha
    obtain ⟨c, hc, hr⟩ := Tree.bind_some hr
    simp only [Tree.run, Option.some.injEq, Prod.mk.injEq] at hr
    obtain ⟨rfl, rfl⟩ := hr
    obtain ⟨p, hp0, hbi⟩ := r0.blk id b hb
    obtain rfl : p = (bn, s') := Option.some.inj ((hle _ _ hp0).symm.trans hE)
    obtain ⟨y, hy, hyi⟩ := load_one_all (P := P) (t := t) hbi hc ha
    exact ⟨rfl, y, A.Is.mono hle hyi, fun w' hw => by simp [execOp, hxp, Instr.loadAt, Instr.sureAddr, hy w' (hw _ (r0.lt _ _ hp0))]⟩
   ·cases hr
  ·cases hr
 | _ => cases hp
end
end Go.Ev
