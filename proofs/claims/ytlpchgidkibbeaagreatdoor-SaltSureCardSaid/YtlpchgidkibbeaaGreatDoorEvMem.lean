/- How loads, stores and new blocks of a world keep what the evaluator's memory says of it. Conditions: none. -/
import Derived.Test.YtlpchgidkibbeaaGreatDoorEvRel
namespace Go.Ev
open Go

theorem addr_add (b o i : Nat) : (⟨b, o, none⟩ : Addr).add i = ⟨b, o + i, none⟩ := by unfold Addr.add; split <;> simp_all

/-! ### New blocks -/
def Env.with (E : Env) (id : Nat) (p : Nat × Nat × Nat) : Env := fun i => if i = id then some p else E i

theorem alloc_run {h : Hp} {b : Blk} {id : Nat} {h' : Hp} (hr : (h.alloc b).run = some (id, h')) :
    id = h.next ∧ h.next < lim ∧ h' = { h with heap := h.heap.set D h.next (some b), next := h.next + 1 } := by
  unfold Hp.alloc at hr
  split at hr
  · rename_i hl
    simp only [Tree.run, Option.some.injEq, Prod.mk.injEq] at hr
    have hb : h.next < lim := by simpa [Nat.blt_eq] using hl
    exact ⟨hr.1.symm, hb, hr.2.symm⟩
  · cases hr

/-- a name is given to a block: a new one, or one whose name is given up with it; 'ch': which blocks of known names have turned -/
theorem name_stpG {E : Env} {h : Hp} {w w1 : World} {b : Blk} {g : Nat} {sz : Nat × Nat} {h1 : Hp} (ch : Nat → Prop) (r : RH E h w)
    (hnext : h1.next = h.next) (hglobs : h1.globs = h.globs) (hlp : h1.lp = h.lp) (hcell : ∀ k, ch k → ∀ o, w.heap[k]? = some o → isFix o = false) (hlow : h1.low ≤ h.low)
    (hsub : ∀ id b', h1.heap.get D id = some b' → h.heap.get D id = some b' ∧ ∀ p, E id = some p → ¬ ch p.1 ∧ p.1 ≠ g)
    (hglt : g < w1.heap.size) (hbl : ∀ E', E.le E' → blkIs E' w1 (g, sz) b)
    (hkeep : ∀ k, k < w.heap.size → ¬ ch k → w1.heap[k]? = w.heap[k]?) (hsize : w.heap.size ≤ w1.heap.size)
    (hos : w1.os = w.os) (htape : w1.tape = w.tape) (hout : w1.output = w.output)
    (hch : ∀ k, ch k → ∃ id0 p0, E id0 = some p0 ∧ p0.1 = k ∧ h1.low ≤ id0) (hg : w.heap.size ≤ g ∨ ch g)
    {id : Nat} {h' : Hp} (hr : (h1.alloc b).run = some (id, h')) :
    Stp E h w (E.with id (g, sz)) h' w1 ∧ E.with id (g, sz) id = some (g, sz) := by
  obtain ⟨rfl, hlim, rfl⟩ := alloc_run hr
  rw [hnext] at hlim ⊢
  have hnone : E h.next = none := r.dom _ (Nat.le_refl _)
  have hle : E.le (E.with h.next (g, sz)) := fun i x hx => by
    unfold Env.with; split
    · rename_i e; subst e; rw [hnone] at hx; cases hx
    · exact hx
  have hoth : Oth w w1 := fun k o hk ho => (hkeep k (Array.getElem?_eq_some_iff.1 hk).1 fun hc => by rw [hcell k hc o hk] at ho; cases ho).trans hk
  refine ⟨⟨?_, ?_, ?_, ?_, ?_, ?_⟩, by simp [Env.with]⟩
  · refine ⟨Nat.succ_le_of_lt hlim, fun i hi => ?_, fun i p hp => ?_, fun i b' hb' => ?_, ?_, fun gg i hi => ?_, fun i d hd => r.lpStep hle hoth i d (by simpa [hlp] using hd)⟩
    · have hi' : h.next + 1 ≤ i := by simpa using hi
      unfold Env.with; rw [if_neg (by omega)]; exact r.dom i (by omega)
    · unfold Env.with at hp; split at hp
      · injection hp with hp; subst hp; exact hglt
      · exact Nat.lt_of_lt_of_le (r.lt i p hp) hsize
    · have hb2 : (Tr.set D h1.heap h.next (some b)).get D i = some b' := by simpa using hb'
      rw [Tr.get_set_D _ _ _ _ hlim] at hb2
      split at hb2
      · rename_i e
        injection hb2 with hb2; subst hb2; subst e
        exact ⟨(g, sz), by simp [Env.with], hbl _ hle⟩
      · rename_i e
        obtain ⟨h0, hne⟩ := hsub i b' hb2
        obtain ⟨p, hp, hi⟩ := r.blk i b' h0
        refine ⟨p, ?_, (hi.mono hle).of_heap (hkeep p.1 (r.lt i p hp) (hne p hp).1)⟩
        unfold Env.with; rw [if_neg (Ne.symm e)]; exact hp
    · intro i i' b1 b2 p p' hb1 hb2 hro hp hp' he
      have hb1' : (Tr.set D h1.heap h.next (some b)).get D i = some b1 := by simpa using hb1
      have hb2' : (Tr.set D h1.heap h.next (some b)).get D i' = some b2 := by simpa using hb2
      rw [Tr.get_set_D _ _ _ _ hlim] at hb1' hb2'
      unfold Env.with at hp hp'
      by_cases e1 : h.next = i
      · subst e1
        rw [if_pos rfl] at hp
        injection hp with hp; subst hp
        by_cases e2 : h.next = i'
        · exact e2
        · rw [if_neg e2] at hb2'
          rw [if_neg (Ne.symm e2)] at hp'
          exact absurd he.symm ((hsub i' b2 hb2').2 p' hp').2
      · rw [if_neg e1] at hb1'
        rw [if_neg (Ne.symm e1)] at hp
        by_cases e2 : h.next = i'
        · subst e2
          rw [if_pos rfl] at hp'
          injection hp' with hp'; subst hp'
          exact absurd he ((hsub i b1 hb1').2 p hp).2
        · rw [if_neg e2] at hb2'
          rw [if_neg (Ne.symm e2)] at hp'
          exact r.inj i i' b1 b2 p p' (hsub i b1 hb1').1 (hsub i' b2 hb2').1 hro hp hp' he
    · obtain ⟨s, hs⟩ := r.glob gg i (by simpa [hglobs] using hi)
      exact ⟨s, hle _ _ hs⟩
  · refine ⟨hle, hos, htape, hout, hsize, fun k hk hno => hkeep k hk fun hc => ?_, fun i p hp => ?_, ?_⟩
    · obtain ⟨id0, p0, he0, hp0, hl0⟩ := hch k hc
      have hno0 := hno id0 p0 he0 hp0
      have : id0 < h1.low := by simpa using hno0
      omega
    · unfold Env.with at hp; split at hp
      · rename_i e
        injection hp with hp; subst hp
        refine .inr ⟨by omega, ?_⟩
        rcases hg with hg | hg
        · exact .inl hg
        · obtain ⟨id0, p0, he0, hp0, hl0⟩ := hch g hg
          exact .inr ⟨id0, p0, he0, hp0, by simpa using hl0⟩
      · exact .inl hp
    · exact hoth
  · exact Nat.le_succ _
  · simpa using hlow
  · simpa using hglobs
  · simpa using hlp

theorem name_stp {E : Env} {h : Hp} {w w1 : World} {b : Blk} {g : Nat} {arr : Array Value} {h1 : Hp} (ch : Nat → Prop) (r : RH E h w)
    (hnext : h1.next = h.next) (hglobs : h1.globs = h.globs) (hlp : h1.lp = h.lp) (hcell : ∀ k, ch k → ∀ o, w.heap[k]? = some o → isFix o = false) (hlow : h1.low ≤ h.low)
    (hsub : ∀ id b', h1.heap.get D id = some b' → h.heap.get D id = some b' ∧ ∀ p, E id = some p → ¬ ch p.1 ∧ p.1 ≠ g)
    (hblk : w1.heap[g]? = some (.cells arr b.elem (0, 0))) (hbody : b.body.Is E arr)
    (hkeep : ∀ k, k < w.heap.size → ¬ ch k → w1.heap[k]? = w.heap[k]?) (hsize : w.heap.size ≤ w1.heap.size)
    (hos : w1.os = w.os) (htape : w1.tape = w.tape) (hout : w1.output = w.output)
    (hch : ∀ k, ch k → ∃ id0 p0, E id0 = some p0 ∧ p0.1 = k ∧ h1.low ≤ id0) (hg : w.heap.size ≤ g ∨ ch g)
    {id : Nat} {h' : Hp} (hr : (h1.alloc b).run = some (id, h')) (hro : b.ro = false := by rfl) :
    Stp E h w (E.with id (g, arr.size, 0)) h' w1 ∧ E.with id (g, arr.size, 0) id = some (g, arr.size, 0) :=
  name_stpG ch r hnext hglobs hlp hcell hlow hsub (Array.getElem?_eq_some_iff.1 hblk).1 (fun _ hle => .inl ⟨arr, (0, 0), ⟨_, hblk, fun _ => rfl⟩, rfl, bodyAt_zero (hbody.mono hle), roIs_own hro⟩) hkeep hsize hos htape hout hch hg hr

theorem heap_old (w : World) (o : Obj) (k : Nat) (hk : k < w.heap.size) : (w.alloc o).heap[k]? = w.heap[k]? := by
  show (w.heap.push o)[k]? = _
  rw [Array.getElem?_push, if_neg (Nat.ne_of_lt hk)]
theorem heap_new (w : World) (o : Obj) : (w.alloc o).heap[w.heap.size]? = some o := by
  show (w.heap.push o)[w.heap.size]? = _
  simp
theorem alloc_stp {E : Env} {h : Hp} {w : World} {b : Blk} {arr : Array Value} (r : RH E h w) (hbody : b.body.Is E arr) {id : Nat} {h' : Hp} (hr : (h.alloc b).run = some (id, h')) (hro : b.ro = false := by rfl) :
    Stp E h w (E.with id (w.heap.size, arr.size, 0)) h' (w.alloc (.cells arr b.elem)) ∧ E.with id (w.heap.size, arr.size, 0) id = some (w.heap.size, arr.size, 0) :=
  name_stp (fun _ => False) r rfl rfl rfl (fun _ h => h.elim) (Nat.le_refl _) (fun i b' hb' => ⟨hb', fun p hp => ⟨fun hf => hf, fun e => by have := r.lt i p hp; omega⟩⟩) (heap_new w _) hbody
    (fun k hk _ => heap_old w _ k hk) (by simp) rfl rfl rfl (fun _ h => h.elim) (.inl (Nat.le_refl _)) hr hro

theorem flat_is {E : Env} {cs : List C} {l : List Value} (h : All2 (C.Is E) cs l) : (Body.flat cs).Is E l.toArray := fun i c hc => by
  obtain ⟨x, hx, hi⟩ := h.get i c hc
  exact ⟨x, by simpa using hx, hi⟩

/-! ### Loads -/
theorem read_is {E : Env} {w : World} {p : Nat × Nat × Nat} {b : Blk} {k m j : Nat} {c : C} (hi : blkIs E w p b) (h : (b.read k m j).run = some c) :
    ∃ x, w.cell? ⟨p.1, p.2.2 + (k * m + j), none⟩ = some x ∧ c.Is E x := by
  have hm : b.body.isMap = false := by
    cases hb : b.body with
    | map es => unfold Blk.read at h; rw [hb] at h; cases h
    | _ => rfl
  obtain ⟨arr, fz, ⟨ty, h1, _⟩, _, ⟨_, h3⟩, _⟩ := hi.cells hm
  have hcell : ∀ i, w.cell? ⟨p.1, p.2.2 + i, none⟩ = (vw p.2.2 arr)[i]? := fun i => (cell_of_row w p.1 (p.2.2 + i) arr ty fz h1).trans (vw_get _ _ _).symm
  unfold Blk.read at h
  cases hb : b.body with
  | flat cs =>
    rw [hb] at h h3
    simp only [Tree.ofOption_run] at h
    obtain ⟨x, hx, hc⟩ := h3 _ c h
    exact ⟨x, (hcell _).trans hx, hc⟩
  | rows n cols =>
    rw [hb] at h h3
    simp only at h
    split at h
    · rename_i c0 hm hc0
      obtain ⟨hk, hc⟩ := Tree.need_some h
      obtain rfl := Nat.eq_of_beq_eq_true hm
      simp only [Tree.run, Option.some.injEq] at hc
      subst hc
      obtain ⟨x, hx, hg⟩ := h3 k j c0 (by simpa [Nat.blt_eq] using hk) hc0
      exact ⟨x, (hcell _).trans hx, hg⟩
    · cases h
  | map es => rw [hb] at hm; cases hm

theorem readN_is {E : Env} {w : World} {p : Nat × Nat × Nat} {b : Blk} {k m : Nat} (hi : blkIs E w p b) : ∀ {n j : Nat} {cs : List C}, (b.readN k m j n).run = some cs →
    ∃ l : List Value, l.length = n ∧ All2 (C.Is E) cs l ∧ ∀ i x, l[i]? = some x → w.cell? ((⟨p.1, p.2.2 + (k * m + j), none⟩ : Addr).add i) = some x
  | 0, j, cs, h => by
    simp only [Blk.readN, Tree.run, Option.some.injEq] at h
    subst h
    exact ⟨[], rfl, trivial, by simp⟩
  | n + 1, j, cs, h => by
    obtain ⟨c, hc, h⟩ := Tree.bind_some h
    obtain ⟨cs', hcs, h⟩ := Tree.bind_some h
    simp only [Tree.run, Option.some.injEq] at h
    subst h
    obtain ⟨x, hx, hcx⟩ := read_is hi hc
    obtain ⟨l, hl, ha, hcell⟩ := readN_is hi hcs
    refine ⟨x :: l, by simp [hl], ⟨hcx, ha⟩, fun i y hy => ?_⟩
    cases i with
    | zero => simp at hy; subst hy; rw [addr_add]; exact hx
    | succ i =>
      have := hcell i y (by simpa using hy)
      rw [addr_add] at this ⊢
      rw [← this]; congr 2; omega

section
variable {P : Program}
theorem size?_run {t : TypeId} {s : Nat} (h : size? P t = some s) (w : World) : (sizeOf t).run P w = .ok s w := by
  unfold size? at h
  cases hq : P.info? t with
  | none => rw [hq] at h; cases h
  | some i => rw [hq] at h; simp at h; subst h; simp [sizeOf, typeInfo, hq]
theorem agg?_run {t : TypeId} {b : Bool} (h : agg? P t = some b) (w : World) : (isAgg t).run P w = .ok b w := by
  unfold agg? at h
  cases hq : P.underlying t with
  | none => rw [hq] at h; cases h
  | some d =>
    rw [hq] at h
    unfold isAgg
    rw [Sem.run_bind, run_underlying hq w]
    cases d <;> simp_all

theorem cell_of_same {w w' : World} {a : Addr} (h : w'.heap[a.block]? = w.heap[a.block]?) : w'.cell? a = w.cell? a := by
  unfold World.cell?
  rw [h]
theorem load_agg_all {E : Env} {w : World} {p : Nat × Nat × Nat} {b : Blk} {k m j s : Nat} {t : TypeId} {cs : List C} (hi : blkIs E w p b) (h : (b.readN k m j s).run = some cs)
    (ha : agg? P t = some true) (hs : size? P t = some s) :
    ∃ x, (∀ w', w'.heap[p.1]? = w.heap[p.1]? → (loadVar t ⟨p.1, p.2.2 + (k * m + j), none⟩).run P w' = .ok x w') ∧ (A.agg cs).Is E x := by
  obtain ⟨l, hl, hall, hcell⟩ := readN_is hi h
  refine ⟨.agg l.toArray, fun w' hw => ?_, l, rfl, hall⟩
  have hrun := run_loadCells_list (P := P) w' ⟨p.1, p.2.2 + (k * m + j), none⟩ l fun i x hx => (cell_of_same (a := (⟨p.1, p.2.2 + (k * m + j), none⟩ : Addr).add i) (by simp only [Addr.add]; split <;> exact hw)).trans (hcell i x hx)
  rw [hl] at hrun
  simp [loadVar, agg?_run ha w', size?_run hs w', hrun]
theorem load_one_all {E : Env} {w : World} {p : Nat × Nat × Nat} {b : Blk} {k m j : Nat} {t : TypeId} {c : C} (hi : blkIs E w p b) (h : (b.read k m j).run = some c)
    (ha : agg? P t = some false) :
    ∃ x, (∀ w', w'.heap[p.1]? = w.heap[p.1]? → (loadVar t ⟨p.1, p.2.2 + (k * m + j), none⟩).run P w' = .ok x w') ∧ (A.one c).Is E x := by
  obtain ⟨x, hx, hc⟩ := read_is hi h
  refine ⟨x, fun w' hw => ?_, hc⟩
  have hx' := (cell_of_same (a := ⟨p.1, p.2.2 + (k * m + j), none⟩) hw).trans hx
  simp [loadVar, agg?_run ha w', run_load, hx']
theorem load_agg {E : Env} {w : World} {p : Nat × Nat × Nat} {b : Blk} {k m j s : Nat} {t : TypeId} {cs : List C} (hi : blkIs E w p b) (h : (b.readN k m j s).run = some cs)
    (ha : agg? P t = some true) (hs : size? P t = some s) :
    ∃ x, (loadVar t ⟨p.1, p.2.2 + (k * m + j), none⟩).run P w = .ok x w ∧ (A.agg cs).Is E x := let ⟨x, h1, h2⟩ := load_agg_all hi h ha hs; ⟨x, h1 w rfl, h2⟩
theorem load_one {E : Env} {w : World} {p : Nat × Nat × Nat} {b : Blk} {k m j : Nat} {t : TypeId} {c : C} (hi : blkIs E w p b) (h : (b.read k m j).run = some c)
    (ha : agg? P t = some false) :
    ∃ x, (loadVar t ⟨p.1, p.2.2 + (k * m + j), none⟩).run P w = .ok x w ∧ (A.one c).Is E x := let ⟨x, h1, h2⟩ := load_one_all hi h ha; ⟨x, h1 w rfl, h2⟩
end

/-! ### Stores -/
theorem setNth_spec : ∀ {cs : List C} {i : Nat} {x : C} {cs' : List C}, setNth cs i x = some cs' → i < cs.length ∧ ∀ k, nth cs' k = if k = i then some x else nth cs k
  | [], _, _, _, h => by cases h
  | c :: cs, 0, x, cs', h => by
    simp only [setNth, Option.some.injEq] at h
    subst h
    exact ⟨by simp, fun k => by cases k <;> simp [nth]⟩
  | c :: cs, i + 1, x, cs', h => by
    simp only [setNth] at h
    split at h
    · rename_i cs2 h2
      simp only [Option.some.injEq] at h
      subst h
      obtain ⟨hl, hk⟩ := setNth_spec h2
      exact ⟨by simp; omega, fun k => by cases k <;> simp [nth, hk]⟩
    · cases h

theorem row_inj {k k' m j j' : Nat} (hj : j < m) (hj' : j' < m) (h : k' * m + j' = k * m + j) : k' = k ∧ j' = j := by
  have h1 : (k' * m + j') / m = k' := by rw [Nat.mul_comm, Nat.mul_add_div (by omega)]; simp [Nat.div_eq_of_lt hj']
  have h2 : (k * m + j) / m = k := by rw [Nat.mul_comm, Nat.mul_add_div (by omega)]; simp [Nat.div_eq_of_lt hj]
  have h3 : k' = k := by rw [← h1, ← h2, h]
  subst h3
  exact ⟨rfl, by omega⟩

theorem nth_lt {α : Type} {l : List α} {i : Nat} {a : α} (h : nth l i = some a) : i < l.length := by
  rw [nth_eq] at h
  exact (List.getElem?_eq_some_iff.1 h).1
theorem putF_same {α : Type} (f : Nat → α) (i : Nat) (x : α) : putF f i x i = x := by simp [putF]
theorem putF_other {α : Type} (f : Nat → α) {i j : Nat} (x : α) (h : j ≠ i) : putF f i x j = f j := by
  unfold putF
  split
  · rename_i e; exact absurd (Nat.eq_of_beq_eq_true e) h
  · rfl
theorem col_put {c c' : Col} {i : Nat} {x : C} (h : c.put i x = some c') : c'.at i = x ∧ ∀ k, k ≠ i → c'.at k = c.at k := by
  unfold Col.put at h
  split at h
  · split at h
    · rename_i hk
      have hk := of_decide_eq_true hk
      subst hk
      injection h with h; subst h
      exact ⟨by simp [Col.at, putF_same], fun k hk => by simp [Col.at, putF_other _ _ hk]⟩
    · cases h
  · injection h with h; subst h
    exact ⟨by simp [Col.at, putF_same], fun k hk => by simp [Col.at, putF_other _ _ hk]⟩
  · injection h with h; subst h
    exact ⟨by simp [Col.at, putF_same], fun k hk => by simp [Col.at, putF_other _ _ hk]⟩
  · cases h
theorem setCol_spec : ∀ {cols cols' : List Col} {j i : Nat} {x : C}, setCol cols j i x = some cols' → cols'.length = cols.length ∧ ∃ c c', nth cols j = some c ∧ c.put i x = some c' ∧ ∀ j', nth cols' j' = if j' = j then some c' else nth cols j'
  | [], _, _, _, _, h => by cases h
  | c :: cs, cols', 0, i, x, h => by
    simp only [setCol] at h
    split at h
    · rename_i c' hp
      injection h with h; subst h
      exact ⟨rfl, c, c', rfl, hp, fun j' => by cases j' <;> simp [nth]⟩
    · cases h
  | c :: cs, cols', j + 1, i, x, h => by
    simp only [setCol] at h
    split at h
    · rename_i cs' hp
      injection h with h; subst h
      obtain ⟨h1, c0, c0', h2, h3, h4⟩ := setCol_spec hp
      refine ⟨by simp [h1], c0, c0', h2, h3, fun j' => ?_⟩
      cases j' with
      | zero => simp [nth]
      | succ j' => simp [nth, h4 j']
    · cases h
theorem putCols_spec : ∀ {cols cols' : List Col} {i : Nat} {xs : List C}, putCols cols i xs = some cols' → cols'.length = cols.length ∧ xs.length = cols.length ∧ ∀ j c', nth cols' j = some c' → ∃ c x, nth cols j = some c ∧ nth xs j = some x ∧ c.put i x = some c'
  | [], cols', i, [], h => by
    simp only [putCols, Option.some.injEq] at h
    subst h
    exact ⟨rfl, rfl, fun j c' hc => by simp [nth] at hc⟩
  | c :: cs, cols', i, x :: xs, h => by
    simp only [putCols] at h
    split at h
    · rename_i c1 cs1 h1 h2
      injection h with h; subst h
      obtain ⟨l1, l2, l3⟩ := putCols_spec h2
      refine ⟨by simp [l1], by simp [l2], fun j c' hc => ?_⟩
      cases j with
      | zero =>
        simp only [nth, Option.some.injEq] at hc
        subst hc
        exact ⟨c, x, rfl, rfl, h1⟩
      | succ j => exact l3 j c' hc
    · cases h
  | [], _, _, _ :: _, h => by cases h
  | _ :: _, _, _, [], h => by cases h

theorem write_is {E : Env} {b b' : Blk} {k m j : Nat} {c : C} {arr : Array Value} {x : Value} (hb : b.body.Is E arr) (h : (b.write k m j c).run = some b') (hc : c.Is E x) :
    b.ro = false ∧ b'.ro = false ∧ b'.elem = b.elem ∧ k * m + j < arr.size ∧ b'.body.Is E (arr.setIfInBounds (k * m + j) x) := by
  unfold Blk.write at h
  cases hro : b.ro with
  | true => rw [hro] at h; cases h
  | false =>
    rw [hro] at h
    simp only at h
    cases hbody : b.body with
    | flat cs =>
      rw [hbody] at h hb
      simp only at h
      split at h
      · rename_i cs' hs
        simp only [Tree.run, Option.some.injEq] at h
        subst h
        obtain ⟨hl, hk⟩ := setNth_spec hs
        have hlt : k * m + j < arr.size := by
          have hn : nth cs (k * m + j) = some (cs[k * m + j]) := by rw [nth_eq]; simp [hl]
          obtain ⟨y, hy, _⟩ := hb _ _ hn
          exact (Array.getElem?_eq_some_iff.1 hy).1
        refine ⟨rfl, rfl, rfl, hlt, fun i c' hc' => ?_⟩
        rw [hk] at hc'
        split at hc'
        · rename_i e; subst e
          injection hc' with hc'; subst hc'
          exact ⟨x, by simp [hlt], hc⟩
        · rename_i e
          obtain ⟨y, hy, hi⟩ := hb i c' hc'
          exact ⟨y, by rw [Array.getElem?_setIfInBounds_ne (Ne.symm e)]; exact hy, hi⟩
      · cases h
    | rows n cols =>
      rw [hbody] at h hb
      simp only at h
      split at h
      · rename_i cols' hm hset
        obtain rfl := Nat.eq_of_beq_eq_true hm
        obtain ⟨hk, h⟩ := Tree.need_some h
        have hk : k < n := by simpa [Nat.blt_eq] using hk
        simp only [Tree.run, Option.some.injEq] at h
        subst h
        obtain ⟨hlen, c0, c0', hc0, hput, hnth⟩ := setCol_spec hset
        obtain ⟨p1, p2⟩ := col_put hput
        have hj := nth_lt hc0
        have hlt : k * cols.length + j < arr.size := by
          obtain ⟨y, hy, _⟩ := hb k j c0 hk hc0
          exact (Array.getElem?_eq_some_iff.1 hy).1
        refine ⟨rfl, rfl, rfl, hlt, fun k' j' c' hk' hj' => ?_⟩
        rw [hnth] at hj'
        rw [hlen]
        by_cases e : k' = k ∧ j' = j
        · obtain ⟨rfl, rfl⟩ := e
          rw [if_pos rfl] at hj'
          injection hj' with hj'; subst hj'
          exact ⟨x, by simp [hlt], by rw [p1]; exact hc⟩
        · by_cases ej : j' = j
          · subst ej
            rw [if_pos rfl] at hj'
            injection hj' with hj'; subst hj'
            have ek : k' ≠ k := fun ek => e ⟨ek, rfl⟩
            obtain ⟨y, hy, hi⟩ := hb k' j' c0 hk' hc0
            refine ⟨y, ?_, by rw [p2 k' ek]; exact hi⟩
            rw [Array.getElem?_setIfInBounds_ne (fun he => e (row_inj hj hj he.symm))]; exact hy
          · rw [if_neg ej] at hj'
            obtain ⟨y, hy, hi⟩ := hb k' j' c' hk' hj'
            refine ⟨y, ?_, hi⟩
            rw [Array.getElem?_setIfInBounds_ne (fun he => e (row_inj hj (nth_lt hj') he.symm))]; exact hy
      · cases h
    | map es => rw [hbody] at hb; exact hb.elim

/-- cells laid one after the other -/
def layFrom (arr : Array Value) (i : Nat) : List Value → Array Value
  | [] => arr
  | x :: xs => layFrom (arr.setIfInBounds i x) (i + 1) xs
theorem size_layFrom : ∀ (xs : List Value) (arr : Array Value) (i : Nat), (layFrom arr i xs).size = arr.size
  | [], _, _ => rfl
  | x :: xs, arr, i => by simp [layFrom, size_layFrom xs]

theorem writeN_is {E : Env} {k m : Nat} : ∀ {cs : List C} {xs : List Value} {b b' : Blk} {j : Nat} {arr : Array Value}, b.body.Is E arr → (b.writeN k m j cs).run = some b' → All2 (C.Is E) cs xs →
    (cs = [] ∨ b.ro = false) ∧ b'.ro = b.ro ∧ b'.elem = b.elem ∧ (cs ≠ [] → k * m + j + xs.length ≤ arr.size) ∧ b'.body.Is E (layFrom arr (k * m + j) xs)
  | [], [], b, b', j, arr, hb, h, _ => by
    simp only [Blk.writeN, Tree.run, Option.some.injEq] at h
    subst h
    exact ⟨.inl rfl, rfl, rfl, fun h => absurd rfl h, hb⟩
  | c :: cs, x :: xs, b, b', j, arr, hb, h, ha => by
    obtain ⟨b1, h1, h⟩ := Tree.bind_some h
    obtain ⟨r1, r2, r3, r4, r5⟩ := write_is hb h1 ha.1
    obtain ⟨s1, s2, s3, s4, s5⟩ := writeN_is r5 h ha.2
    refine ⟨.inr r1, by rw [s2, r2, r1], by rw [s3, r3], fun _ => ?_, ?_⟩
    · cases cs with
      | nil => cases xs with
        | nil => simp; omega
        | cons => exact ha.2.elim
      | cons c2 cs =>
        have := s4 (by simp)
        simp at this ⊢
        omega
    · rw [layFrom]; rw [← Nat.add_assoc] at s5; exact s5
  | [], _ :: _, _, _, _, _, _, _, h => h.elim
  | _ :: _, [], _, _, _, _, _, _, h => h.elim

theorem run_storeCells_lay (P : Program) (g o : Nat) (t : TypeId) : ∀ (vs : List Value) (i : Nat) (cur : Array Value) (w : World), w.heap[g]? = some (.cells cur t (0, 0)) → (vs ≠ [] → o + i + vs.length ≤ cur.size) → (∀ v ∈ vs, v.oneCell' = true) →
    (storeCells ⟨g, o, none⟩ vs i).run P w = .ok () (w.setRow g (layFrom cur (o + i) vs))
  | [], i, cur, w, hg, _, _ => by
    simp only [storeCells, layFrom]
    rw [setRow_self w g cur t (0, 0) hg]
    rfl
  | v :: rest, i, cur, w, hg, hl, h1 => by
    have hl' := hl (by simp)
    have hi : o + i < cur.size := by simp at hl'; omega
    have hcell : w.cell? ⟨g, o + i, none⟩ = some cur[o + i] := by simp [World.cell?, hg, hi]
    have hfro : w.frozen? ⟨g, o + i, none⟩ = false := by simp [World.frozen?, hg]
    have hst : (store ((⟨g, o, none⟩ : Addr).add i) v).run P w = .ok () (w.setRow g (cur.setIfInBounds (o + i) v)) := by
      rw [addr_add, run_store P w _ v _ (h1 v (by simp)), hcell]
      simp [hfro, setCell_eq_setRow w g (o + i) cur t (0, 0) v hg]
    have ih := run_storeCells_lay P g o t rest (i + 1) (cur.setIfInBounds (o + i) v) (w.setRow g (cur.setIfInBounds (o + i) v)) (setRow_heap w g cur _ t _ hg)
      (fun _ => by simp at hl' ⊢; omega) (fun x hx => h1 x (by simp [hx]))
    simp only [storeCells, Sem.run_bind, hst, Result.andThen_ok, ih, setRow_setRow, layFrom]
    rfl

theorem all2_oneCell {E : Env} : ∀ {cs : List C} {xs : List Value}, All2 (C.Is E) cs xs → ∀ v ∈ xs, v.oneCell' = true
  | [], [], _, v, hv => by simp at hv
  | c :: cs, x :: xs, h, v, hv => by
    rcases List.mem_cons.1 hv with rfl | hv
    · exact h.1.oneCell
    · exact all2_oneCell h.2 v hv
  | [], _ :: _, h, _, _ => h.elim
  | _ :: _, [], h, _, _ => h.elim

theorem Value.cells_toArray (x : Value) : x.cells.toList.toArray = x.cells := by simp

theorem cells_stp {P : Program} {E : Env} {h : Hp} {w : World} {id k m j : Nat} {b b' : Blk} {cs : List C} {vs : List Value} {p : Nat × Nat × Nat} (r : RH E h w)
    (hb : h.blk id = some b) (hp : E id = some p) (hcs : All2 (C.Is E) cs vs) (hw : (b.writeN k m j cs).run = some b') :
    ∃ w', (storeCells ⟨p.1, p.2.2 + (k * m + j), none⟩ vs).run P w = .ok () w' ∧ Stp E h w E { h with heap := h.heap.set D id (some b'), low := min h.low id } w' := by
  have hm : cs ≠ [] → b.body.isMap = false := fun hne => by
    cases hbd : b.body with
    | map es =>
      cases cs with
      | nil => exact absurd rfl hne
      | cons c cs =>
        obtain ⟨b1, hb1, _⟩ := Tree.bind_some hw
        unfold Blk.write at hb1
        split at hb1
        · cases hb1
        · rw [hbd] at hb1; cases hb1
    | _ => rfl
  have hid : id < lim := by
    rcases Nat.lt_or_ge id h.next with hlt | hge
    · exact Nat.lt_of_lt_of_le hlt r.nlim
    · rw [r.dom id hge] at hp; cases hp
  cases hcs0 : cs with
  | nil =>
    -- nothing is stored
    subst hcs0
    have hb' : b' = b := by simpa [Blk.writeN, Tree.run, eq_comm] using hw
    subst hb'
    have hl0 : vs = [] := by have := hcs.length; simp only [List.length_nil] at this; exact List.eq_nil_of_length_eq_zero this.symm
    refine ⟨w, by simp [hl0, storeCells], ⟨?_, Fr.refl _ _ _ _, Nat.le_refl _, Nat.min_le_left _ _, rfl, rfl⟩⟩
    have hsame : ∀ i, (Tr.set D h.heap id (some b')).get D i = h.heap.get D i := fun i => by
      rw [Tr.get_set_D _ _ _ _ hid]; split
      · rename_i e; subst e; exact hb.symm
      · rfl
    exact ⟨r.nlim, r.dom, r.lt, fun i b2 hb2 => r.blk i b2 (by rw [← hsame]; exact hb2), fun i i' b1 b2 q q' e1 e2 => r.inj i i' b1 b2 q q' (by rw [← hsame]; exact e1) (by rw [← hsame]; exact e2), r.glob, r.lp⟩
  | cons c0 cs0 =>
    have hne : cs ≠ [] := by rw [hcs0]; simp
    obtain ⟨p', hp', arr, fz, ⟨ty, h1, hty⟩, h2, h3, h4⟩ := r.cells hb (hm hne)
    obtain rfl : p' = p := Option.some.inj (hp'.symm.trans hp)
    have hro : b.ro = false := (writeN_is h3.2 hw hcs).1.resolve_left hne
    obtain ⟨h30, h3⟩ := h3.own hro
    obtain ⟨_, s2, s3, s4, s5⟩ := writeN_is h3 hw hcs
    rw [h30, Nat.zero_add]
    have hfz : fz = (0, 0) := roIs_fz h4 hro
    obtain rfl := hty hro
    subst hfz
    have hrun := run_storeCells_lay P p'.1 (k * m + j) b.elem vs 0 arr w h1 (fun _ => by have := s4 hne; simpa using this) (all2_oneCell hcs)
    refine ⟨w.setRow p'.1 (layFrom arr (k * m + j) vs), by simpa using hrun, ?_⟩
    have hnew := setRow_heap w p'.1 arr (layFrom arr (k * m + j) vs) b.elem (0, 0) h1
    have hoth : ∀ q : Nat × Nat × Nat, q.1 ≠ p'.1 → (w.setRow p'.1 (layFrom arr (k * m + j) vs)).heap[q.1]? = w.heap[q.1]? := fun q hq => setRow_other w p'.1 q.1 _ hq
    have hO : Oth w (w.setRow p'.1 (layFrom arr (k * m + j) vs)) := fun q o hq ho => by
      by_cases e : q = p'.1
      · subst e; rw [h1] at hq; injection hq with hq; subst hq; cases ho
      · exact (setRow_other w p'.1 q _ e).trans hq
    have hget : ∀ i, (Tr.set D h.heap id (some b')).get D i = if id = i then some b' else h.heap.get D i := fun i => Tr.get_set_D _ _ _ _ hid
    refine ⟨⟨r.nlim, r.dom, fun i q hq => by rw [size_setRow]; exact r.lt i q hq, fun i b2 hb2 => ?_, fun i i' b1 b2 q q' e1 e2 hr1 hq hq' he => ?_, r.glob, r.lpStep (Env.le.refl E) hO⟩, ?_, Nat.le_refl _, Nat.min_le_left _ _, rfl, rfl⟩
    · have hb3 : (Tr.set D h.heap id (some b')).get D i = some b2 := hb2
      rw [hget] at hb3
      split at hb3
      · rename_i e; subst e
        injection hb3 with hb3; subst hb3
        exact ⟨p', hp, .inl ⟨_, (0, 0), ⟨_, hnew, fun _ => s3.symm⟩, by rw [size_layFrom]; exact h2, ⟨fun _ => h30, by rw [h30, vw_zero]; exact s5⟩, roIs_own (s2.trans hro)⟩⟩
      · rename_i e
        obtain ⟨q, hq, hi⟩ := r.blk i b2 hb3
        exact ⟨q, hq, hi.of_heap (hoth q fun he => e (r.inj id i b b2 p' q hb hb3 hro hp hq he.symm))⟩
    · have e1' : (Tr.set D h.heap id (some b')).get D i = some b1 := e1
      have e2' : (Tr.set D h.heap id (some b')).get D i' = some b2 := e2
      rw [hget] at e1' e2'
      have f1 : ∃ b3, h.heap.get D i = some b3 ∧ b3.ro = false := by
        split at e1'
        · rename_i e; subst e; exact ⟨b, hb, hro⟩
        · exact ⟨b1, e1', hr1⟩
      have f2 : ∃ b3, h.heap.get D i' = some b3 := by
        split at e2'
        · rename_i e; subst e; exact ⟨b, hb⟩
        · exact ⟨b2, e2'⟩
      obtain ⟨b3, g1, g2⟩ := f1
      obtain ⟨b4, g3⟩ := f2
      exact r.inj i i' b3 b4 q q' g1 g3 g2 hq hq' he
    · refine ⟨Env.le.refl E, rfl, rfl, rfl, by simp, fun bn _ hno => ?_, fun _ _ hh => .inl hh, hO⟩
      by_cases e : bn = p'.1
      · have := hno id p' hp e.symm
        have h6 : min h.low id ≤ id := Nat.min_le_right _ _
        have h7 : id < min h.low id := this
        omega
      · exact setRow_other w p'.1 bn _ e
theorem store_stp {P : Program} {E : Env} {h : Hp} {w : World} {id k m j s : Nat} {t : TypeId} {b b' : Blk} {cs : List C} {x : Value} {p : Nat × Nat × Nat} (r : RH E h w)
    (hb : h.blk id = some b) (hp : E id = some p) (hs : size? P t = some s) (hcs : All2 (C.Is E) cs x.cells.toList) (hlen : cs.length = s) (hw : (b.writeN k m j cs).run = some b') :
    ∃ w', (storeVar t ⟨p.1, p.2.2 + (k * m + j), none⟩ x).run P w = .ok () w' ∧ Stp E h w E { h with heap := h.heap.set D id (some b'), low := min h.low id } w' := by
  obtain ⟨w', hrun, hst⟩ := cells_stp (P := P) r hb hp hcs hw
  have hxs : x.cells.size = s := by rw [← hlen, hcs.length]; simp
  exact ⟨w', by simpa [storeVar, size?_run hs w, hxs] using hrun, hst⟩

/-! ### Maps -/
theorem ents_push (s : ByteArray) (a : A) (x : Value) : ∀ (es : List (ByteArray × A)) (l : List Value) (i : Nat), l.length = es.length → ents (es ++ [(s, a)]) (l ++ [x]) i = ents es l i ++ [⟨.string s, x, i + es.length⟩]
  | [], [], i, _ => rfl
  | (k, b) :: es, v :: l, i, h => by
    simp only [List.cons_append, ents, List.length_cons]
    rw [ents_push s a x es l (i + 1) (by simpa using h)]
    simp only [show i + 1 + es.length = i + (es.length + 1) by omega]
  | [], _ :: _, _, h => by simp at h
  | _ :: _, [], _, h => by simp at h

theorem map_stp {E : Env} {h : Hp} {w : World} {id : Nat} {e : TypeId} {es : List (ByteArray × A)} {l : List Value} {p : Nat × Nat × Nat} (r : RH E h w)
    (hb : h.blk id = some ⟨false, e, .map es⟩) (hp : E id = some p) (h1 : w.heap[p.1]? = some (.map (ents es l 0).toArray es.length)) (h2 : All2 (A.Is E) (es.map (·.2)) l) {s : ByteArray} {a : A} {x : Value} (hx : a.Is E x) :
    Stp E h w E { h with heap := h.heap.set D id (some ⟨false, e, .map (es ++ [(s, a)])⟩), low := min h.low id } (w.putObj p.1 (.map ((ents es l 0).toArray.push ⟨.string s, x, es.length⟩) (es.length + 1))) := by
  have hid : id < lim := by
    rcases Nat.lt_or_ge id h.next with hlt | hge
    · exact Nat.lt_of_lt_of_le hlt r.nlim
    · rw [r.dom id hge] at hp; cases hp
  have hlt : p.1 < w.heap.size := r.lt id p hp
  have hlen : l.length = es.length := by rw [← h2.length]; simp
  have hO : Oth w (w.putObj p.1 (.map ((ents es l 0).toArray.push ⟨.string s, x, es.length⟩) (es.length + 1))) := fun q o hq ho => by
    by_cases e : q = p.1
    · subst e; rw [h1] at hq; injection hq with hq; subst hq; cases ho
    · exact (World.putObj_heap_other e).trans hq
  have hget : ∀ i, (Tr.set D h.heap id (some ⟨false, e, .map (es ++ [(s, a)])⟩)).get D i = if id = i then some ⟨false, e, .map (es ++ [(s, a)])⟩ else h.heap.get D i := fun i => Tr.get_set_D _ _ _ _ hid
  refine ⟨⟨r.nlim, r.dom, fun i q hq => by rw [World.putObj_size]; exact r.lt i q hq, fun i b2 hb2 => ?_, fun i i' b1 b2 q q' e1 e2 hr1 hq hq' he => ?_, r.glob, r.lpStep (Env.le.refl E) hO⟩, ?_, Nat.le_refl _, Nat.min_le_left _ _, rfl, rfl⟩
  · have hb3 : (Tr.set D h.heap id (some ⟨false, e, .map (es ++ [(s, a)])⟩)).get D i = some b2 := hb2
    rw [hget] at hb3
    split at hb3
    · rename_i e'; subst e'
      injection hb3 with hb3; subst hb3
      refine ⟨p, hp, .inr ⟨es ++ [(s, a)], l ++ [x], rfl, rfl, ?_, ?_⟩⟩
      · rw [World.putObj_heap_same hlt, ents_push s a x es l 0 hlen]
        simp
      · rw [List.map_append]
        exact h2.append ⟨hx, trivial⟩
    · rename_i e'
      obtain ⟨q, hq, hi⟩ := r.blk i b2 hb3
      exact ⟨q, hq, hi.of_heap (World.putObj_heap_other fun he => e' (r.inj id i _ b2 p q hb hb3 rfl hp hq he.symm))⟩
  · have e1' : (Tr.set D h.heap id (some ⟨false, e, .map (es ++ [(s, a)])⟩)).get D i = some b1 := e1
    have e2' : (Tr.set D h.heap id (some ⟨false, e, .map (es ++ [(s, a)])⟩)).get D i' = some b2 := e2
    rw [hget] at e1' e2'
    have f1 : ∃ b3, h.heap.get D i = some b3 ∧ b3.ro = false := by
      split at e1'
      · rename_i e'; subst e'; exact ⟨_, hb, rfl⟩
      · exact ⟨b1, e1', hr1⟩
    have f2 : ∃ b3, h.heap.get D i' = some b3 := by
      split at e2'
      · rename_i e'; subst e'; exact ⟨_, hb⟩
      · exact ⟨b2, e2'⟩
    obtain ⟨b3, g1, g2⟩ := f1
    obtain ⟨b4, g3⟩ := f2
    exact r.inj i i' b3 b4 q q' g1 g3 g2 hq hq' he
  · refine ⟨Env.le.refl E, rfl, rfl, rfl, by simp, fun bn _ hno => ?_, fun _ _ hh => .inl hh, hO⟩
    by_cases e' : bn = p.1
    · have := hno id p hp e'.symm
      have h6 : min h.low id ≤ id := Nat.min_le_right _ _
      have h7 : id < min h.low id := this
      omega
    · exact World.putObj_heap_other e'

theorem newmap_stp {E : Env} {h : Hp} {w : World} (r : RH E h w) {e : TypeId} {id : Nat} {h' : Hp} (hr : (h.alloc ⟨false, e, .map []⟩).run = some (id, h')) :
    ∃ E', Stp E h w E' h' (w.alloc (.map #[] 0)) ∧ E' id = some (w.heap.size, 0, 0) := by
  have hne : ∀ k, k < w.heap.size → (w.alloc (.map #[] 0)).heap[k]? = w.heap[k]? := fun k hk => heap_old w _ k hk
  obtain ⟨h1, h2⟩ := name_stpG (w1 := w.alloc (.map #[] 0)) (g := w.heap.size) (sz := (0, 0)) (h1 := h) (fun _ => False) r rfl rfl rfl (fun _ hf => hf.elim) (Nat.le_refl _)
    (fun i b' hb' => ⟨hb', fun pp hpp => ⟨fun hf => hf, fun e => by have := r.lt i pp hpp; omega⟩⟩) (Array.getElem?_eq_some_iff.1 (heap_new w _)).1
    (fun _ _ => .inr ⟨[], [], rfl, rfl, heap_new w _, trivial⟩) (fun k hk _ => hne k hk) (by simp) rfl rfl rfl (fun _ hf => hf.elim) (.inl (Nat.le_refl _)) hr
  exact ⟨_, h1, h2⟩

theorem find_fresh {s : ByteArray} : ∀ {es : List (ByteArray × A)} (l : List Value) (i j : Nat), freshKey s es = true → Instr.findNow .string (.string s) (ents es l i) j = some none
  | [], _, _, _, _ => by simp [ents, Instr.findNow]
  | (k, a) :: es, [], _, _, _ => by simp [ents, Instr.findNow]
  | (k, a) :: es, v :: l, i, j, h => by
    simp only [freshKey, Bool.and_eq_true, Bool.not_eq_true'] at h
    simp only [ents, Instr.findNow, Instr.sameNow, h.1]
    exact find_fresh l (i + 1) (j + 1) h.2
theorem find_is {E : Env} {s : ByteArray} {z : A} : ∀ {es : List (ByteArray × A)} {l : List Value} (i j : Nat) {a : A} {b : Bool}, (findA s z es).run = some (a, b) → All2 (A.Is E) (es.map (·.2)) l →
    (b = false ∧ a = z ∧ Instr.findNow .string (.string s) (ents es l i) j = some none) ∨ (b = true ∧ ∃ k v, a.Is E v ∧ Instr.findNow .string (.string s) (ents es l i) j = some (some (k, v)))
  | [], l, i, j, a, b, h, _ => by
    simp only [findA, Tree.run, Option.some.injEq, Prod.mk.injEq] at h
    exact .inl ⟨h.2.symm, h.1.symm, by simp [ents, Instr.findNow]⟩
  | (k, c) :: es, [], _, _, _, _, _, ha => ha.elim
  | (k, c) :: es, v :: l, i, j, a, b, h, ha => by
    simp only [findA] at h
    cases hk : (s == k) with
    | true =>
      rw [hk] at h
      simp only [Tree.run, Option.some.injEq, Prod.mk.injEq] at h
      obtain ⟨rfl, rfl⟩ := h
      exact .inr ⟨rfl, j, v, ha.1, by simp only [ents, Instr.findNow, Instr.sameNow, hk]⟩
    | false =>
      rw [hk] at h
      have hh : (findA s z es).run = some (a, b) := h
      rcases find_is (i + 1) (j + 1) hh ha.2 with h' | h'
      · exact .inl ⟨h'.1, h'.2.1, by simp only [ents, Instr.findNow, Instr.sameNow, hk]; exact h'.2.2⟩
      · obtain ⟨h1, k', v', h2, h3⟩ := h'
        exact .inr ⟨h1, k', v', h2, by simp only [ents, Instr.findNow, Instr.sameNow, hk]; exact h3⟩
end Go.Ev
