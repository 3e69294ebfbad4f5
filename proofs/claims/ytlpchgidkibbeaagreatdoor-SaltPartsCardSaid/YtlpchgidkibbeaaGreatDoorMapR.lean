/- A loop over a map of integers all of whose values are 0: each round hands out some key, the loop comes to its end, and nothing else is turned. Conditions: the loop's code looks at the value alone, and leaves where it is not 0. -/
import Derived.Maps.RangeRun
import Derived.Test.YtlpchgidkibbeaaGreatDoorLoops
import Derived.Test.YtlpchgidkibbeaaGreatDoorFin
namespace Go.Ev
open Go

def isNext (it d : Nat) (o : Oper) : Bool := match o.op, o.dst, o.guard with
  | .next (.tmp a) false, some d', none => Nat.beq a it && Nat.beq d' d
  | _, _, _ => false
def isExt (d x i : Nat) (o : Oper) : Bool := match o.op, o.dst, o.guard with
  | .extract (.tmp a) j, some d', none => Nat.beq a x && (Nat.beq j i && Nat.beq d' d)
  | _, _, _ => false
def isEnt (it d : Nat) (o : Oper) : Bool := match o.op, o.dst, o.guard with
  | .entry (.tmp a), some d', none => Nat.beq a it && Nat.beq d' d
  | _, _, _ => false
def isAsg (d x : Nat) (o : Oper) : Bool := match o.op, o.dst, o.guard with
  | .assign (.tmp a), some d', none => Nat.beq a x && Nat.beq d' d
  | _, _, _ => false
def isMov (d x : Nat) (o : Oper) : Bool := match o.op, o.dst, o.guard with
  | .move (.tmp a), some d', none => Nat.beq a x && Nat.beq d' d
  | _, _, _ => false
def zeroA : A := .one (.lit (.int .i64 0))
def isNe0 (P : Program) (d x : Nat) (o : Oper) : Bool := match o.op, o.dst, o.guard with
  | .binOp .neq t (.tmp a) (.const (.int .i64 z)) _, some d', none => Nat.beq a x && (Nat.beq d' d && (decide (z = 0) && match (binary P .neq t zeroA zeroA).run with | some (.one (.lit (.bool false))) => true | _ => false))
  | _, _, _ => false
theorem isNext_spec {it d : Nat} {o : Oper} (h : isNext it d o = true) : o.op = .next (.tmp it) false ∧ o.dst = some d ∧ o.guard = none := by
  unfold isNext at h
  split at h
  · rename_i a d' h1 h2 h3
    rw [Bool.and_eq_true] at h
    rw [← Nat.eq_of_beq_eq_true h.1, ← Nat.eq_of_beq_eq_true h.2]
    exact ⟨h1, h2, h3⟩
  · cases h
theorem isExt_spec {d x i : Nat} {o : Oper} (h : isExt d x i o = true) : o.op = .extract (.tmp x) i ∧ o.dst = some d ∧ o.guard = none := by
  unfold isExt at h
  split at h
  · rename_i a j d' h1 h2 h3
    rw [Bool.and_eq_true, Bool.and_eq_true] at h
    rw [← Nat.eq_of_beq_eq_true h.1, ← Nat.eq_of_beq_eq_true h.2.1, ← Nat.eq_of_beq_eq_true h.2.2]
    exact ⟨h1, h2, h3⟩
  · cases h
theorem isEnt_spec {it d : Nat} {o : Oper} (h : isEnt it d o = true) : o.op = .entry (.tmp it) ∧ o.dst = some d ∧ o.guard = none := by
  unfold isEnt at h
  split at h
  · rename_i a d' h1 h2 h3
    rw [Bool.and_eq_true] at h
    rw [← Nat.eq_of_beq_eq_true h.1, ← Nat.eq_of_beq_eq_true h.2]
    exact ⟨h1, h2, h3⟩
  · cases h
theorem isAsg_spec {d x : Nat} {o : Oper} (h : isAsg d x o = true) : o.op = .assign (.tmp x) ∧ o.dst = some d ∧ o.guard = none := by
  unfold isAsg at h
  split at h
  · rename_i a d' h1 h2 h3
    rw [Bool.and_eq_true] at h
    rw [← Nat.eq_of_beq_eq_true h.1, ← Nat.eq_of_beq_eq_true h.2]
    exact ⟨h1, h2, h3⟩
  · cases h
theorem isMov_spec {d x : Nat} {o : Oper} (h : isMov d x o = true) : o.op = .move (.tmp x) ∧ o.dst = some d ∧ o.guard = none := by
  unfold isMov at h
  split at h
  · rename_i a d' h1 h2 h3
    rw [Bool.and_eq_true] at h
    rw [← Nat.eq_of_beq_eq_true h.1, ← Nat.eq_of_beq_eq_true h.2]
    exact ⟨h1, h2, h3⟩
  · cases h
theorem isNe0_spec {P : Program} {d x : Nat} {o : Oper} (h : isNe0 P d x o = true) : ∃ t u, o.op = .binOp .neq t (.tmp x) (.const (.int .i64 0)) u ∧ o.dst = some d ∧ o.guard = none ∧ ∀ w, (do eqGuard .neq t (.tmp x) (.const (.int .i64 0)) (.int .i64 0) (.int .i64 0); binOp .neq t (.int .i64 0) (.int .i64 0) : Sem Value).run P w = .ok (.bool false) w := by
  unfold isNe0 at h
  split at h
  · rename_i t a z u d' h1 h2 h3
    rw [Bool.and_eq_true, Bool.and_eq_true, Bool.and_eq_true, decide_eq_true_eq] at h
    obtain ⟨e1, e2, e3, h4⟩ := h
    have e1 := Nat.eq_of_beq_eq_true e1
    have e2 := Nat.eq_of_beq_eq_true e2
    subst e1; subst e2; subst e3
    refine ⟨t, u, h1, h2, h3, fun w => ?_⟩
    split at h4
    · rename_i hb
      have h0 : zeroA.Is (fun _ => none) (.int .i64 0) := ⟨rfl, rfl⟩
      obtain ⟨r, hr, hi⟩ := binary_run hb h0 h0 w (.tmp a) (.const (.int .i64 0))
      obtain ⟨rfl, _⟩ := hi
      exact hr
    · cases h4
  · cases h
/-- the loop's round -/
def rgSh (P : Program) (it d1 tok ex d3 d4 d5 d6 tc : Nat) : Code → Bool
  | .seq (.region _ ops1 false) (.seq (.cond (.tmp x) .skip (.exit i)) (.block _ (.seq (.region _ ops2 false) (.seq (.region _ ops3 false) (.cond (.tmp y) _ .skip))))) => match ops1.toList, ops2.toList, ops3.toList with
    | [o1, o2], [o3, o4, o5], [o6, o7] => isNext it d1 o1 && (isExt tok d1 0 o2 && (Nat.beq x tok && (Nat.beq i ex && (isEnt it d3 o3 && (isExt d4 d3 1 o4 && (isAsg d5 d4 o5 && (isMov d6 d5 o6 && (isNe0 P tc d6 o7 && Nat.beq y tc))))))))
    | _, _, _ => false
  | _ => false
def outTm (a b : Act) (ts : List Nat) : Prop := b.tmps.size = a.tmps.size ∧ b.defers = a.defers ∧ ∀ t, t ∉ ts → b.tmps.getD t undef = a.tmps.getD t undef
theorem outTm.refl (a : Act) (ts : List Nat) : outTm a a ts := ⟨rfl, rfl, fun _ _ => rfl⟩
theorem outTm.put {a b : Act} {ts : List Nat} (h : outTm a b ts) {d : Nat} (hd : d ∈ ts) (v : Value) : outTm a (b.put (some d) v) ts := by
  refine ⟨by rw [size_put]; exact h.1, by rw [defers_put]; exact h.2.1, fun t ht => ?_⟩
  have e : t ≠ d := fun e => ht (e ▸ hd)
  rw [← h.2.2 t ht]
  unfold Act.put
  simp only
  simp [Array.getElem?_setIfInBounds_ne (Ne.symm e)]
section
variable {P : Program} {ro : Option Nat} {Q : Exit → Act → World → Prop} {ops : Array Oper} {a : Act} {w w' : World}
theorem list_val {o : Oper} {rest : List Oper} (hg : o.guard = none) (hd : ∀ c, o.op ≠ .defer c) {x : Value} (h : (execOp a.eval o).run P w = .ok (.value x) w') (hk : wpListIn (G ro) 0 P ops Q rest (a.put o.dst x) w') : wpListIn (G ro) 0 P ops Q (o :: rest) a w :=
  wpListIn_plain hg fun _ hK => OpOk.wpIn hd (OpOk.of_value (Post := fun y w2 => y = x ∧ w2 = w') h ⟨rfl, rfl⟩) fun y w2 e => by
    obtain ⟨rfl, rfl⟩ := e
    exact hK _ _ hk
end
theorem outTm.at {a b : Act} {ts : List Nat} (h : outTm a b ts) {d : Nat} (hd : d < a.tmps.size) (v : Value) : (b.put (some d) v).tmps.getD d undef = v := by
  rw [getD_put (by rw [h.1]; exact hd), if_pos rfl]
/-- what is left as it was -/
structure Still (r : Nat) (w0 w : World) : Prop where
  os : w.os = w0.os
  tape : w.tape = w0.tape
  output : w.output = w0.output
  size : w.heap.size = w0.heap.size
  keep : ∀ b, b ≠ r → w.heap[b]? = w0.heap[b]?
theorem Still.refl (r : Nat) (w : World) : Still r w w := ⟨rfl, rfl, rfl, rfl, fun _ _ => rfl⟩
theorem Still.step {r : Nat} {w0 w w1 : World} (h : Still r w0 w) (h1 : w1 = w ∨ w1 = w.drew) (o : Obj) : Still r w0 (ChangeMaps.setBlock w1 r o) := by
  have e : w1.os = w.os ∧ w1.tape = w.tape ∧ w1.output = w.output ∧ w1.heap = w.heap := by rcases h1 with rfl | rfl <;> exact ⟨rfl, rfl, rfl, rfl⟩
  refine ⟨e.1.trans h.os, e.2.1.trans h.tape, e.2.2.1.trans h.output, ?_, fun b hb => ?_⟩
  · show (w1.heap.setIfInBounds r o).size = _
    rw [Array.size_setIfInBounds, e.2.2.2]
    exact h.size
  · show (w1.heap.setIfInBounds r o)[b]? = _
    rw [Array.getElem?_setIfInBounds_ne (Ne.symm hb), e.2.2.2]
    exact h.keep b hb
theorem still_at {r : Nat} {w w1 : World} {o' : Obj} (h : w.heap[r]? = some o') (h1 : w1 = w ∨ w1 = w.drew) (o : Obj) : (ChangeMaps.setBlock w1 r o).heap[r]? = some o := by
  have e : w1.heap = w.heap := by rcases h1 with rfl | rfl <;> rfl
  have hlt : r < w1.heap.size := by rw [e]; exact (Array.getElem?_eq_some_iff.1 h).1
  show (w1.heap.setIfInBounds r o)[r]? = _
  simp [hlt]
theorem born_ents (k f : Int → Int) (n : Nat) : ((((List.range n).map (entI k f)).toArray).toList.map (·.born)).Nodup := by
  simp only [List.map_map]
  have : (MapEntry.born ∘ entI k f) = id := rfl
  rw [this, List.map_id]
  exact List.nodup_range
theorem range_zero {P : Program} {c : Code} {it d1 tok ex d3 d4 d5 d6 tc : Nat} (hsh : rgSh P it d1 tok ex d3 d4 d5 d6 tc c = true) {ro : Option Nat} {Q : Exit → Act → World → Prop} {r bm n : Nat} {k f : Int → Int} (hf : ∀ x, f x = 0) {a0 : Act} {w0 : World}
    (hit : a0.tmps.getD it undef = .pointer (some ⟨r, 0, none⟩)) (hsz : ∀ t ∈ [d1, tok, d3, d4, d5, d6, tc], t < a0.tmps.size) (hni : it ∉ [d1, tok, d3, d4, d5, d6, tc])
    (hr : w0.heap[r]? = some (.mapIter (some bm) n #[] n)) (hb : w0.heap[bm]? = some (.map ((List.range n).map (entI k f)).toArray n))
    (hq : ∀ a w, outTm a0 a [d1, tok, d3, d4, d5, d6, tc] → Still r w0 w → (∃ seen, w.heap[r]? = some (.mapIter (some bm) n seen n)) → Q (.exit ex) a w) : (Code.loop c).wpIn (G ro) 0 P Q a0 w0 := by
  have hne : bm ≠ r := fun e => by rw [e, hr] at hb; injection hb with hb; cases hb
  generalize hes : ((List.range n).map (entI k f)).toArray = es at hb
  have hnod : (es.toList.map (·.born)).Nodup := by rw [← hes]; exact born_ents k f n
  have hent : ∀ e ∈ es.toList, e.born < n ∧ e.val = .int .i64 0 := fun e he => by
    rw [← hes] at he
    simp only [List.mem_map, List.mem_range] at he
    obtain ⟨i, hi, rfl⟩ := he
    exact ⟨hi, by simp only [entI, hf]⟩
  refine wpIn_loop (fun a w => ∃ seen, outTm a0 a [d1, tok, d3, d4, d5, d6, tc] ∧ Still r w0 w ∧ w.heap[r]? = some (.mapIter (some bm) n seen n)) (fun _ w => match w.heap[r]? with | some (.mapIter _ _ seen _) => (leftOf es seen).size | _ => 0) ⟨#[], outTm.refl _ _, Still.refl _ _, hr⟩ fun a w hI => ?_
  obtain ⟨seen, ho, hs, hh⟩ := hI
  have hbw : w.heap[bm]? = some (.map es n) := (hs.keep bm hne).trans hb
  unfold rgSh at hsh
  split at hsh
  · rename_i i1 ops1 x exi bk i2 ops2 i3 ops3 y bad
    split at hsh
    · rename_i o1 o2 o3 o4 o5 o6 o7 h1 h2 h3
      simp only [Bool.and_eq_true] at hsh
      obtain ⟨s1, s2, sx, si, s3, s4, s5, s6, s7, sy⟩ := hsh
      have sx := Nat.eq_of_beq_eq_true sx
      have si := Nat.eq_of_beq_eq_true si
      have sy := Nat.eq_of_beq_eq_true sy
      subst sx; subst si; subst sy
      obtain ⟨p1, q1, g1⟩ := isNext_spec s1
      obtain ⟨p2, q2, g2⟩ := isExt_spec s2
      obtain ⟨p3, q3, g3⟩ := isEnt_spec s3
      obtain ⟨p4, q4, g4⟩ := isExt_spec s4
      obtain ⟨p5, q5, g5⟩ := isAsg_spec s5
      obtain ⟨p6, q6, g6⟩ := isMov_spec s6
      obtain ⟨t7, u7, p7, q7, g7, r7⟩ := isNe0_spec s7
      have hita : a.eval (.tmp it) = .pointer (some ⟨r, 0, none⟩) := (ho.2.2 it hni).trans hit
      refine wpIn_seq (wpIn_region_list ?_)
      rw [h1]
      rcases run_next_at (P := P) w o1.type r bm n n seen es n hh hbw (fun e he => (hent e he).1) (Nat.le_refl n) with ⟨h0, hrun⟩ | ⟨e, he, w1, hw1, hrun⟩
      · refine list_val g1 (fun c => by rw [p1]; intro h; cases h) (x := .tuple #[.bool false]) (w' := w) (by simp only [execOp, p1, hita]; simp [hrun]) ?_
        rw [q1]
        have ho1 := ho.put (d := d1) (by simp) (.tuple #[.bool false])
        have hv1 : (a.put (some d1) (.tuple #[.bool false])).eval (.tmp d1) = .tuple #[.bool false] := ho.at (hsz d1 (by simp)) _
        refine list_val g2 (fun c => by rw [p2]; intro h; cases h) (x := .bool false) (w' := w) (by simp only [execOp, p2, hv1]; simp [Instr.extract]) ?_
        rw [q2]
        have ho2 := ho1.put (d := x) (by simp) (.bool false)
        have hv2 : ((a.put (some d1) (.tuple #[.bool false])).put (some x) (.bool false)).eval (.tmp x) = .bool false := ho1.at (hsz x (by simp)) _
        refine wpListIn_nil ?_
        refine wpIn_seq (wpIn_cond_false hv2 (wpIn_exit ?_))
        exact hq _ _ ho2 hs ⟨seen, hh⟩
      · have hmem := (mem_left he).1
        have hval := (hent e hmem).2
        have hs1 := hs.step hw1 (.mapIter (some bm) n (seen.push e.born) n)
        have hh1 := still_at hh hw1 (.mapIter (some bm) n (seen.push e.born) n)
        generalize ChangeMaps.setBlock w1 r (.mapIter (some bm) n (seen.push e.born) n) = w2 at hrun hs1 hh1
        refine list_val g1 (fun c => by rw [p1]; intro h; cases h) (x := .tuple #[.bool true, e.key, e.val]) (w' := w2) (by simp only [execOp, p1, hita]; simp [hrun]) ?_
        rw [q1]
        have ho1 := ho.put (d := d1) (by simp) (.tuple #[.bool true, e.key, e.val])
        have hv1 : (a.put (some d1) (.tuple #[.bool true, e.key, e.val])).eval (.tmp d1) = .tuple #[.bool true, e.key, e.val] := ho.at (hsz d1 (by simp)) _
        refine list_val g2 (fun c => by rw [p2]; intro h; cases h) (x := .bool true) (w' := w2) (by simp only [execOp, p2, hv1]; simp [Instr.extract]) ?_
        rw [q2]
        have ho2 := ho1.put (d := x) (by simp) (.bool true)
        have hv2 : ((a.put (some d1) (.tuple #[.bool true, e.key, e.val])).put (some x) (.bool true)).eval (.tmp x) = .bool true := ho1.at (hsz x (by simp)) _
        generalize (a.put (some d1) (.tuple #[.bool true, e.key, e.val])).put (some x) (.bool true) = a2 at ho2 hv2
        refine wpListIn_nil ?_
        refine wpIn_seq (wpIn_cond_true hv2 (wpIn_skip ?_))
        refine wpIn_block (wpIn_seq (wpIn_region_list ?_))
        rw [h2]
        have hit2 : a2.eval (.tmp it) = .pointer (some ⟨r, 0, none⟩) := (ho2.2.2 it hni).trans hit
        have hent2 := run_entry_at (P := P) w2 r bm n seen es n e hh1 ((hs1.keep bm hne).trans hb) hmem hnod
        refine list_val g3 (fun c => by rw [p3]; intro h; cases h) (x := .tuple #[e.key, e.val]) (w' := w2) (by simp only [execOp, p3, hit2]; simp [hent2]) ?_
        rw [q3]
        have ho3 := ho2.put (d := d3) (by simp) (.tuple #[e.key, e.val])
        have hv3 : (a2.put (some d3) (.tuple #[e.key, e.val])).eval (.tmp d3) = .tuple #[e.key, e.val] := ho2.at (hsz d3 (by simp)) _
        generalize a2.put (some d3) (.tuple #[e.key, e.val]) = a3 at ho3 hv3
        refine list_val g4 (fun c => by rw [p4]; intro h; cases h) (x := e.val) (w' := w2) (by simp only [execOp, p4, hv3]; simp [Instr.extract]) ?_
        rw [q4, hval]
        have ho4 := ho3.put (d := d4) (by simp) (.int .i64 0)
        have hv4 : (a3.put (some d4) (.int .i64 0)).eval (.tmp d4) = .int .i64 0 := ho3.at (hsz d4 (by simp)) _
        generalize a3.put (some d4) (.int .i64 0) = a4 at ho4 hv4
        refine list_val g5 (fun c => by rw [p5]; intro h; cases h) (x := .int .i64 0) (w' := w2) (by simp only [execOp, p5, hv4]; rfl) ?_
        rw [q5]
        have ho5 := ho4.put (d := d5) (by simp) (.int .i64 0)
        have hv5 : (a4.put (some d5) (.int .i64 0)).eval (.tmp d5) = .int .i64 0 := ho4.at (hsz d5 (by simp)) _
        generalize a4.put (some d5) (.int .i64 0) = a5 at ho5 hv5
        refine wpListIn_nil ?_
        refine wpIn_seq (wpIn_region_list ?_)
        rw [h3]
        refine list_val g6 (fun c => by rw [p6]; intro h; cases h) (x := .int .i64 0) (w' := w2) (by simp only [execOp, p6, hv5]; rfl) ?_
        rw [q6]
        have ho6 := ho5.put (d := d6) (by simp) (.int .i64 0)
        have hv6 : (a5.put (some d6) (.int .i64 0)).eval (.tmp d6) = .int .i64 0 := ho5.at (hsz d6 (by simp)) _
        generalize a5.put (some d6) (.int .i64 0) = a6 at ho6 hv6
        have hvc : a6.eval (.const (.int .i64 0)) = .int .i64 0 := rfl
        have r7 := r7 w2
        refine list_val g7 (fun c => by rw [p7]; intro h; cases h) (x := .bool false) (w' := w2) (by simp only [execOp, p7, hv6, hvc, Sem.run_bind, Sem.run_pure] at r7 ⊢; rw [r7]; rfl) ?_
        rw [q7]
        have ho7 := ho6.put (d := y) (by simp) (.bool false)
        have hv7 : (a6.put (some y) (.bool false)).eval (.tmp y) = .bool false := ho6.at (hsz y (by simp)) _
        refine wpListIn_nil ?_
        refine wpIn_cond_false hv7 (wpIn_skip ?_)
        refine ⟨⟨_, ho7, hs1, hh1⟩, ?_⟩
        simp only [hh1, hh]
        exact left_shrinks es seen e he
    · cases hsh
  · cases hsh
/-! ### the loop, told by the evaluator's states -/
theorem pickE_in {env : Tr A} : ∀ {ts : List Nat} {t : Nat} {x : A}, (ts.all fun t => Nat.blt t lim) = true → (pickE ts env).get D t = some x → t ∈ ts
  | [], t, x, _, h => by rw [show pickE [] env = Tr.nil from rfl, Tr.get_nil] at h; cases h
  | t0 :: ts, t, x, hok, h => by
    simp only [List.all_cons, Bool.and_eq_true, Nat.blt_eq] at hok
    rw [show pickE (t0 :: ts) env = (pickE ts env).set D t0 (env.get D t0) from rfl, Tr.get_set_D _ _ _ _ hok.1] at h
    split at h
    · rename_i e; subst e; exact List.mem_cons_self
    · exact List.mem_cons_of_mem _ (pickE_in hok.2 h)
/-- behind the loop the iterator is forgotten -/
def rangeSt (slots : List Nat) (j : Nat) (s : St) : St := { s with env := pickE slots s.env, hp := { s.hp with heap := s.hp.heap.set D j none, low := min s.hp.low j } }
def rangeOk (slots : List Nat) (it d1 tok d3 d4 d5 d6 tc : Nat) (j : Nat) (s : St) : Bool := (slots.all fun t => Nat.blt t lim) && (Nat.blt j lim && ((slots.all fun t => !memN t [d1, tok, d3, d4, d5, d6, tc]) && (!memN it [d1, tok, d3, d4, d5, d6, tc] && (([d1, tok, d3, d4, d5, d6, tc].all fun t => Nat.blt t s.size) &&
  (match s.env.get D it with | some (.one (.ptr j' 0 1 0)) => Nat.beq j' j | _ => false)))))
theorem memN_mem {n : Nat} : ∀ {l : List Nat}, n ∈ l → memN n l = true
  | m :: l, h => by
    unfold memN
    rcases List.mem_cons.1 h with h | h
    · subst h; rw [show Nat.beq n n = true by rw [Nat.beq_eq]]
    · cases Nat.beq n m with
      | true => rfl
      | false => exact memN_mem h
theorem rangeF {P : Program} {c : Code} {it d1 tok ex d3 d4 d5 d6 tc : Nat} (hsh : rgSh P it d1 tok ex d3 d4 d5 d6 tc c = true) {sB s : St} (slots : List Nat) {j m n : Nat} {e e' : TypeId} {f b : Int → Int} {l : Int}
    (hok : rangeOk slots it d1 tok d3 d4 d5 d6 tc j s = true) (hj : s.hp.heap.get D j = some ⟨false, e, .iter (some m) n⟩) (hm : s.hp.heap.get D m = some ⟨false, e', .imap n f b l⟩) (hf : ∀ x, f x = 0) :
    ComesF P (.loop c) sB s fun q => q = (.exit ex, rangeSt slots j s) := by
  intro ro ds0 E0 w0 ds E a w Q rh0 r st hz hmk hro hq
  unfold rangeOk at hok
  simp only [Bool.and_eq_true] at hok
  obtain ⟨k1, k2, k3, k4, k5, k6⟩ := hok
  split at k6
  · rename_i j' hit
    have k6 := Nat.eq_of_beq_eq_true k6
    subst k6
    have hjl : j' < lim := by simpa [Nat.blt_eq] using k2
    obtain ⟨p, hp, hbi⟩ := r.rh.blk j' _ hj
    obtain ⟨q, hq1, hbm⟩ := r.rh.blk m _ hm
    rcases hbi with ⟨_, _, _, _, hf, _⟩ | ⟨_, _, he, _⟩ | ⟨_, _, _, _, he, _⟩ | ⟨id, n', he, _, hz0, m', h1, h2⟩
    · exact hf.2.elim
    · cases he
    · cases he
    have he : Body.iter (some m) n = Body.iter id n' := he
    injection he with e1 e2
    subst e1; subst e2
    obtain ⟨q', hq2, rfl⟩ := h2 m rfl
    obtain rfl : q = q' := Option.some.inj (hq1.symm.trans hq2)
    rcases hbm with ⟨_, _, _, _, hf, _⟩ | ⟨_, _, he, _⟩ | ⟨n', f', b', l', he, _, ks, h3, h4, h5⟩ | ⟨_, _, he, _⟩
    · exact hf.2.elim
    · cases he
    rotate_left
    · cases he
    have he : Body.imap n f b l = Body.imap n' f' b' l' := he
    injection he with e1 e2 e3 e4
    subst e1; subst e2; subst e3; subst e4
    obtain ⟨bn, sz, hE, hx⟩ := r.env _ _ hit
    obtain rfl : p = (bn, sz) := Option.some.inj (hp.symm.trans hE)
    have hz0 : sz.2 = 0 := hz0
    have hx : a.tmps.getD it undef = .pointer (some ⟨bn, 0, none⟩) := by rw [hx, hz0]; simp
    have hnot : ∀ t, t ∈ [d1, tok, d3, d4, d5, d6, tc] → t < a.tmps.size := fun t ht => by
      rw [r.size]
      have := List.all_eq_true.1 k5 t ht
      simpa [Nat.blt_eq] using this
    refine range_zero hsh (k := ks) (f := f) hf hx hnot (fun h => by rw [memN_mem h] at k4; cases k4) h1 h3 fun a2 w2 ho hs hseen => ?_
    have hOth : Oth w w2 := fun b o hb ho' => by
      by_cases e : b = bn
      · subst e
        rw [h1] at hb; injection hb with hb; subst hb; cases ho'
      · exact (hs.keep b e).trans hb
    have hget : ∀ i, (Tr.set D s.hp.heap j' none).get D i = if j' = i then none else s.hp.heap.get D i := fun i => Tr.get_set_D _ _ _ _ hjl
    have hother : ∀ i b2, (Tr.set D s.hp.heap j' none).get D i = some b2 → j' ≠ i ∧ s.hp.heap.get D i = some b2 := fun i b2 h => by
      rw [hget] at h
      split at h
      · cases h
      · rename_i e; exact ⟨e, h⟩
    have rh2 : RH E (rangeSt slots j' s).hp w2 := by
      refine ⟨r.rh.nlim, r.rh.dom, fun i p hp => by rw [hs.size]; exact r.rh.lt i p hp, fun i b2 hb2 => ?_, fun i i' b1 b2 q1 q2 f1 f2 => ?_, r.rh.glob, r.rh.lpStep (Env.le.refl E) hOth⟩
      · obtain ⟨e1, e2⟩ := hother i b2 hb2
        obtain ⟨q1, g1, g2⟩ := r.rh.blk i b2 e2
        exact ⟨q1, g1, g2.of_heap (hs.keep q1.1 fun e => e1 (r.rh.inj j' i _ b2 _ q1 hj e2 rfl hp g1 e.symm))⟩
      · exact r.rh.inj i i' b1 b2 q1 q2 (hother i b1 f1).2 (hother i' b2 f2).2
    have st2 : Stp E s.hp w E (rangeSt slots j' s).hp w2 := by
      refine ⟨rh2, ⟨Env.le.refl E, hs.os, hs.tape, hs.output, by rw [hs.size]; exact Nat.le_refl _, fun b _ hno => hs.keep b fun e => ?_, fun _ _ h => .inl h, hOth⟩, Nat.le_refl _, Nat.min_le_left _ _, rfl, rfl⟩
      have h6 : j' < min s.hp.low j' := hno j' _ hp e.symm
      have h7 : min s.hp.low j' ≤ j' := Nat.min_le_right _ _
      omega
    refine hq _ rfl ds E a2 w2 ⟨rh2, by rw [ho.2.1]; exact r.defers, by rw [ho.1]; exact r.size, fun t x hx => ?_⟩ (st.trans st2) hz (Marks.trans st.fr.size hOth hmk (Marks.refl _ _ _))
    have hx : (pickE slots s.env).get D t = some x := hx
    have ht := pickE_in k1 hx
    rw [ho.2.2 t fun h => by
      have := List.all_eq_true.1 k3 t ht
      rw [memN_mem h] at this
      cases this]
    exact r.env t x (pickE_sub k1 hx)
  · cases k6
/-! ### code that is cut at its loops, each piece run by an evaluator of its own -/
section
variable {P : Program} {rec : Code → St → Tree (X × St)}
variable (P) in
def CutV (c : Code) (sB : St) (φ : X × St → Prop) : Nat → (X × St) ⊕ (List Bool × St) → Prop
  | _, .inl q => φ q
  | 0, .inr _ => False
  | k + 1, .inr (p, S) => ∃ (ψ : X × St → Prop) (cut : Bool) (rec : Code → St → Tree (X × St)) (slots slotsR : List Nat), RecOk P rec ∧ ComesF P (.loop (nthLoop c p)) sB S ψ ∧ ∀ q, ψ q → Leads (CutV c sB φ k) ((evR rec cut c p q.1 q.2).bind (canO slots slotsR sB))
theorem comesF_cutV (hrec : RecOk P rec) {c : Code} {sB st : St} {φ : X × St → Prop} (hlow : sB.hp.low = sB.hp.next) (k : Nat) (slots slotsR : List Nat) (h : ((evB rec c st).bind (canO slots slotsR sB)).All (CutV P c sB φ k)) : ComesF P c sB st φ := by
  intro ro ds0 E0 w0 ds E a w Q rh0 r s hz hm hro hq
  have fin : ∀ (slots slotsR : List Nat) (x : X) (st2 : St) (ds1 : List Deferred) (st1 : St) (E1 : Env) (w1 : World) (k : Nat), Stp E0 sB.hp w0 E1 st1.hp w1 → st1.size = sB.size → Marks w0 ds0 ds1 w1 → (canO slots slotsR sB (.done x st2)).All (CutV P c sB φ k) → After ds1 st1 E1 w1 Q (x, st2) := by
    intro slots slotsR x st2 ds1 st1 E1 w1 k s1 hz1 m1 ho
    simp only [canO] at ho
    split at ho
    · rename_i st' hb
      have ho : φ (x, st') := by cases k <;> exact ho
      intro ds' E' a' w' r' s' hz' m'
      obtain ⟨E3, r3, s3, z3⟩ := canonAt_ok hb hlow rh0 r' (s1.trans s') (hz'.trans hz1)
      exact hq _ ho ds' E3 a' w' r3 s3 z3 (Marks.trans s1.fr.size s'.fr.oth m1 m')
    · exact ho.elim
  have key : ∀ (k : Nat) (slots slotsR : List Nat) (o : O) (ds1 : List Deferred) (st1 : St) (E1 : Env) (w1 : World), Stp E0 sB.hp w0 E1 st1.hp w1 → st1.size = sB.size → Marks w0 ds0 ds1 w1 → (canO slots slotsR sB o).All (CutV P c sB φ k) → OAfter P ro c ds1 st1 E1 w1 Q o := by
    intro k
    induction k with
    | zero =>
      intro slots slotsR o ds1 st1 E1 w1 s1 hz1 m1 ho
      cases o with
      | done x st => exact fin slots slotsR x st ds1 st1 E1 w1 _ s1 hz1 m1 ho
      | stop p st =>
        simp only [canO] at ho
        split at ho <;> exact ho.elim
    | succ k ih =>
      intro slots slotsR o ds1 st1 E1 w1 s1 hz1 m1 ho
      cases o with
      | done x st => exact fin slots slotsR x st ds1 st1 E1 w1 _ s1 hz1 m1 ho
      | stop p st2 =>
        simp only [canO] at ho
        split at ho
        · rename_i S hb
          obtain ⟨ψ, cut, rec', slots', slotsR', hrec', hl, hrest⟩ := ho
          intro ds' E' a' w' r' s' hz' m'
          obtain ⟨E3, r3, s3, z3⟩ := canonAt_ok hb hlow rh0 r' (s1.trans s') (hz'.trans hz1)
          refine hl ro ds0 E0 w0 ds' E3 a' w' _ rh0 r3 s3 z3 (Marks.trans s1.fr.size s'.fr.oth m1 m') hro fun q hψ => ?_
          intro ds4 E4 a4 w4 r4 s4 hz4 m4
          refine evR_ok hrec' c r4 (hro.oth s4.fr.oth) (Tree.All_mono (fun o ho => ?_) (Tree.All_bind (hrest q hψ).all))
          exact ih slots' slotsR' o ds4 q.2 E4 w4 s4 hz4 m4 ho
        · exact ho.elim
  exact evB_ok hrec c r (hro.oth s.fr.oth) (Tree.All_mono (fun o ho => key k slots slotsR o ds st E w s hz hm ho) (Tree.All_bind h))
theorem call_baseV (hrec : RecOk P rec) {f : FuncId} {fn : Func} {c : Code} (hfn : P.funcs[f]? = some fn) (hc : fn.body = some c) {args : List A} (hsz : (Nat.ble args.length fn.ntmps && Nat.ble args.length lim) = true) {h : Hp} (m : Bool × Bool) {v : A} {h' : Hp} (k : Nat) (slots slotsR : List Nat)
    {sB : St} (hsB : sB = st0 fn args h m) {t : Tree ((X × St) ⊕ (List Bool × St))} (hpre : evO rec c slots slotsR sB = t) {S : Sk ((X × St) ⊕ (List Bool × St))} (h1 : t = into t S) (h2 : fits t S = true) (h3 : SkLeads (CutV P c sB (Left2 P fn h v h') k) S) : CallAt P f args h v h' := by
  subst hsB
  subst hpre
  exact call_comes hfn hc hsz m (comes_base (St.Le.refl _) (comesF_cutV hrec rfl k slots slotsR (all_into h1 h2 h3.all)))
end
end Go.Ev
