/- A region that the evaluator runs, in the order of its text, is run by the model to what it describes. Conditions: none. -/
import Derived.Test.YtlpchgidkibbeaaGreatDoorEvSound
import Derived.OrdersHeld
import Derived.OrdersIn
namespace Go.Ev
open Go

/-- the evaluator's state describes a frame and a world -/
structure R (ds : List Deferred) (E : Env) (st : St) (a : Act) (w : World) : Prop where
  rh : RH E st.hp w
  defers : a.defers = ds
  size : a.tmps.size = st.size
  env : ∀ t x, st.env.get D t = some x → x.Is E (a.tmps.getD t undef)

theorem getD_put {a : Act} {d t : Tmp} {v : Value} (hd : d < a.tmps.size) : (a.put (some d) v).tmps.getD t undef = if t = d then v else a.tmps.getD t undef := by
  unfold Act.put
  simp only
  by_cases e : t = d
  · subst e; simp [hd]
  · rw [if_neg e]; simp [Array.getElem?_setIfInBounds_ne (Ne.symm e)]

theorem size_put (a : Act) (dst : Option Tmp) (v : Value) : (a.put dst v).tmps.size = a.tmps.size := by cases dst <;> simp [Act.put]
theorem defers_put (a : Act) (dst : Option Tmp) (v : Value) : (a.put dst v).defers = a.defers := by cases dst <;> rfl

theorem put_spec {st st' : St} {dst : Option Tmp} {v : A} (h : (st.put dst v).run = some st') :
    st'.hp = st.hp ∧ st'.size = st.size ∧ (∀ t, st'.env.get D t = if dst = some t then some v else st.env.get D t) ∧ (∀ d, dst = some d → d < st.size) := by
  unfold St.put at h
  split at h
  · simp only [Tree.run, Option.some.injEq] at h; subst h
    exact ⟨rfl, rfl, fun t => by simp, fun d hd => by cases hd⟩
  · rename_i d
    split at h
    · rename_i hc
      simp only [Bool.and_eq_true, Nat.blt_eq] at hc
      simp only [Tree.run, Option.some.injEq] at h; subst h
      refine ⟨rfl, rfl, fun t => ?_, fun d' hd => by injection hd with hd; subst hd; exact hc.1⟩
      simp only [Tr.get_set_D _ _ _ _ hc.2, Option.some.injEq]
    · cases h

theorem R.put {ds : List Deferred} {E : Env} {st st' : St} {a : Act} {w : World} {dst : Option Tmp} {v : A} {x : Value} (r : R ds E st a w) (h : (st.put dst v).run = some st') (hx : v.Is E x) : R ds E st' (a.put dst x) w := by
  obtain ⟨h1, h2, h3, h4⟩ := put_spec h
  refine ⟨by rw [h1]; exact r.rh, by rw [defers_put]; exact r.defers, by rw [size_put, h2]; exact r.size, fun t y hy => ?_⟩
  rw [h3] at hy
  cases dst with
  | none => exact r.env t y (by simpa using hy)
  | some d =>
    have hd : d < a.tmps.size := by rw [r.size]; exact h4 d rfl
    rw [getD_put hd]
    split at hy
    · rename_i e
      injection e with e; subst e
      injection hy with hy; subst hy
      rw [if_pos rfl]; exact hx
    · rename_i e
      rw [if_neg (fun e' => e (by rw [e']))]
      exact r.env t y hy

theorem R.step {ds : List Deferred} {E E' : Env} {st : St} {a : Act} {w w' : World} {hp' : Hp} (r : R ds E st a w) (s : Stp E st.hp w E' hp' w') : R ds E' { st with hp := hp' } a w' :=
  ⟨s.rh, r.defers, r.size, fun t x hx => (r.env t x hx).mono s.fr.ext⟩

theorem R.fits {ds : List Deferred} {E : Env} {st : St} {a : Act} {w : World} (r : R ds E st a w) (xs : List Operand) : Fits E st.ρ a.eval xs := fun x _ v hv => by
  unfold St.ρ operand at hv
  cases x with
  | tmp t => exact r.env t v hv
  | const c => exact ofVal_is hv
  | global g =>
    simp only at hv
    split at hv
    · rename_i id hid
      simp only [Option.some.injEq] at hv; subst hv
      obtain ⟨s, hs⟩ := r.rh.glob g id hid
      exact ⟨g, (s, 0), hs, rfl⟩
    · cases hv
  | func f => simp only [Option.some.injEq] at hv; subst hv; exact ⟨[], rfl, trivial⟩

/-! ### Guards -/
def DecOk (dec : List (Nat × Bool)) (env : Tr A) : Prop := ∀ t b, lookupN dec t = some b → env.get D t = some (.one (.lit (.bool b)))

theorem lookupN_cons {α : Type} (a : Nat) (b : α) (l : List (Nat × α)) (n : Nat) : lookupN ((a, b) :: l) n = if a = n then some b else lookupN l n := by
  simp only [lookupN]
  by_cases e : a = n
  · subst e; simp
  · have : Nat.beq a n = false := by
      rw [Bool.eq_false_iff]; intro h; exact e (Nat.eq_of_beq_eq_true h)
    rw [this, if_neg e]
theorem eraseN_spec {α : Type} : ∀ (l : List (Nat × α)) (n t : Nat), lookupN (eraseN l n) t = if t = n then none else lookupN l t
  | [], n, t => by simp [eraseN, lookupN]
  | (a, b) :: l, n, t => by
    have ih := eraseN_spec l n t
    simp only [eraseN]
    by_cases e : a = n
    · subst e
      simp only [Nat.beq_refl, ih, lookupN_cons]
      by_cases e2 : t = a
      · simp [e2]
      · simp [e2, Ne.symm e2]
    · have : Nat.beq a n = false := by
        rw [Bool.eq_false_iff]; intro h; exact e (Nat.eq_of_beq_eq_true h)
      simp only [this, lookupN_cons, ih]
      by_cases e2 : a = t
      · subst e2; simp [e]
      · simp [e2]

theorem DecOk.put {dec : List (Nat × Bool)} {st st' : St} {dst : Option Tmp} {v : A} (h : DecOk dec st.env) (hp : (st.put dst v).run = some st') : DecOk (unDec dec dst) st'.env := fun t b hb => by
  obtain ⟨_, _, h3, _⟩ := put_spec hp
  rw [h3]
  cases dst with
  | none => exact h t b hb
  | some d =>
    simp only [unDec, eraseN_spec] at hb
    split at hb
    · cases hb
    · rename_i e
      rw [if_neg (fun e' => e (by injection e' with e'; exact e'.symm))]
      exact h t b hb

theorem dstOf_eq (ops : Array Oper) (j : Nat) : dstOf ops.toList j = (ops[j]?).bind (·.dst) := by
  unfold dstOf
  rw [nth_eq]
  have : ops.toList[j]? = ops[j]? := by simp
  rw [this]
  cases ops[j]? <;> rfl

theorem yielded_of {ops : Array Oper} {tmps : Array Value} {j : Nat} {t : Tmp} {b : Bool} (ht : dstOf ops.toList j = some t) (hv : tmps.getD t undef = .bool b) : yielded ops tmps j = some b := by
  unfold yielded
  rw [dstOf_eq] at ht
  rw [ht]
  have : tmps[t]? = some (.bool b) := by
    cases h : tmps[t]? with
    | none => simp [h, undef] at hv
    | some x => simp [h] at hv; rw [hv]
  simp [this]

theorem yielded_none {ops : Array Oper} {tmps : Array Value} {j : Nat} {t : Tmp} (ht : dstOf ops.toList j = some t) (hv : tmps.getD t undef = .tuple #[]) : yielded ops tmps j = none := by
  unfold yielded
  rw [dstOf_eq] at ht
  rw [ht]
  simp only [Option.bind_some]
  cases h : tmps[t]? with
  | none => rfl
  | some x =>
    simp [h] at hv
    subst hv
    rfl

/-- an operation goes by what its guard's operation has given; where that was passed over, it is passed over itself -/
def GuardGo (x : A) (want go : Bool) : Prop := (∃ d, x = .one (.lit (.bool d)) ∧ go = (d == want)) ∨ (x = .tup [] ∧ go = false)

/-- what a guard comes to: which test holds is settled, and the state reads as it did -/
theorem guarded_spec {α : Type} {ops : Array Oper} {o : Oper} {dec : List (Nat × Bool)} {st : St} {k : Bool → List (Nat × Bool) → St → Tree α} {res : α}
    (h : (guarded ops.toList o dec st k).run = some res) (hd : DecOk dec st.env) :
    ∃ go dec' st', (k go dec' st').run = some res ∧ st'.hp = st.hp ∧ st'.size = st.size ∧ (∀ t, st'.env.get D t = st.env.get D t) ∧ DecOk dec' st'.env ∧
      (match o.guard with
       | none => go = true
       | some (j, want) => ∃ t d, dstOf ops.toList j = some t ∧ st.env.get D t = some d ∧ GuardGo d want go) := by
  unfold guarded at h
  cases hg : o.guard with
  | none => rw [hg] at h; exact ⟨true, dec, st, h, rfl, rfl, fun _ => rfl, hd, rfl⟩
  | some jw =>
    obtain ⟨j, want⟩ := jw
    rw [hg] at h
    simp only at h
    split at h
    · rename_i t ht
      split at h
      · rename_i d hl
        exact ⟨_, _, _, h, rfl, rfl, fun _ => rfl, hd, t, _, ht, hd t d hl, .inl ⟨d, rfl, rfl⟩⟩
      · split at h
        · rename_i b hb
          split at h
          · rename_i hlim
            have hlim : t < lim := by simpa [Nat.blt_eq] using hlim
            cases b with
            | true =>
              simp only [Tree.run] at h
              refine ⟨_, _, _, h, rfl, rfl, fun t' => ?_, fun t' b' hb' => ?_, t, _, ht, hb, .inl ⟨true, rfl, rfl⟩⟩
              · simp only [Tr.get_set_D _ _ _ _ hlim]; split
                · rename_i e; subst e; exact hb.symm
                · rfl
              · simp only [Tr.get_set_D _ _ _ _ hlim]
                rw [lookupN_cons] at hb'
                split at hb'
                · rename_i e; rw [if_pos e]; injection hb' with hb'; rw [← hb']
                · rename_i e; rw [if_neg e]; exact hd t' b' hb'
            | false =>
              simp only [Tree.run] at h
              refine ⟨_, _, _, h, rfl, rfl, fun t' => ?_, fun t' b' hb' => ?_, t, _, ht, hb, .inl ⟨false, rfl, rfl⟩⟩
              · simp only [Tr.get_set_D _ _ _ _ hlim]; split
                · rename_i e; subst e; exact hb.symm
                · rfl
              · simp only [Tr.get_set_D _ _ _ _ hlim]
                rw [lookupN_cons] at hb'
                split at hb'
                · rename_i e; rw [if_pos e]; injection hb' with hb'; rw [← hb']
                · rename_i e; rw [if_neg e]; exact hd t' b' hb'
          · cases h
        · rename_i hb
          exact ⟨_, _, _, h, rfl, rfl, fun _ => rfl, hd, t, _, ht, hb, .inr ⟨rfl, rfl⟩⟩
        · cases h
    · cases h

theorem wanted_of {ops : Array Oper} {o : Oper} {tmps : Array Value} {go : Bool} {E : Env} {env : Tmp → Option A}
    (hg : match o.guard with
       | none => go = true
       | some (j, want) => ∃ t d, dstOf ops.toList j = some t ∧ env t = some d ∧ GuardGo d want go)
    (henv : ∀ j want t, o.guard = some (j, want) → dstOf ops.toList j = some t → ∀ x, env t = some x → x.Is E (tmps.getD t undef)) :
    Region.wanted o (yielded ops tmps) = go := by
  unfold Region.wanted
  cases h : o.guard with
  | none => rw [h] at hg; exact hg.symm
  | some jw =>
    obtain ⟨j, want⟩ := jw
    rw [h] at hg
    obtain ⟨t, x, ht, hd, ⟨d, rfl, rfl⟩ | ⟨rfl, rfl⟩⟩ := hg
    · obtain ⟨hv, _⟩ := henv j want t h ht _ hd
      simp only [yielded_of ht hv]
      cases d <;> cases want <;> rfl
    · obtain ⟨l, hv, hl⟩ := henv j want t h ht _ hd
      match l, hl with
      | [], _ => simp only [yielded_none ht hv]; rfl

section
variable {P : Program} {evf : FuncId → Spec} {Q : Exit → Act → World → Prop} {ops : Array Oper} {ds : List Deferred} {ro : Option Nat}

theorem evOp_noDefer {op : Op} {ρ : Operand → Option A} {h : Hp} {r : A × Hp} (hr : (evOp P evf op ρ h).run = some r) : ∀ c, op ≠ .defer c := by
  rintro c rfl
  cases hr

/-- one operation in the order of the text -/
theorem evOper_ok (hev : EvfOk P evf) (hno : NoOwn P) {i : Nat} {o : Oper} (hi : ops[i]? = some o) {dec : List (Nat × Bool)} {st res : St} {k : List (Nat × Bool) → St → Tree St}
    {E : Env} {a : Act} {w : World} {K : Act → World → Prop} (r : R ds E st a w) (hd : DecOk dec st.env) (h : (evOper P evf ops.toList o dec st k).run = some res)
    (hK : ∀ E' dec' st' a' w', R ds E' st' a' w' → DecOk dec' st'.env → Stp E st.hp w E' st'.hp w' → st'.size = st.size → (k dec' st').run = some res → K a' w') : wpOpIn (G ro) 0 P ops Q i K a w := by
  unfold evOper at h
  obtain ⟨go, dec', st1, h1, e1, e2, e3, e4, hg⟩ := guarded_spec h hd
  have r1 : R ds E st1 a w := ⟨by rw [e1]; exact r.rh, r.defers, by rw [e2]; exact r.size, fun t x hx => r.env t x (by rw [← e3]; exact hx)⟩
  have hw := wanted_of (ops := ops) (tmps := a.tmps) (E := E) (env := fun t => st.env.get D t) hg (fun _ _ t _ _ x hx => r.env t x hx)
  unfold wpOpIn
  simp only [hi, hw]
  cases go with
  | true =>
    simp only [if_true]
    simp only at h1
    obtain ⟨⟨v, h'⟩, hop, h1⟩ := Tree.bind_some h1
    obtain ⟨st2, hput, h1⟩ := Tree.bind_some h1
    refine OpOk.wpIn (evOp_noDefer hop) (evOp_ok hev hno o (r1.fits _) r1.rh hop) fun x w' ⟨E', hx, hs⟩ => ?_
    have r2 := (r1.step hs).put hput hx
    obtain ⟨p1, p2, _, _⟩ := put_spec hput
    refine hK E' _ st2 _ w' r2 (DecOk.put (st := { st1 with hp := h' }) e4 hput) ?_ (by rw [p2]; exact e2) h1
    rw [p1]; rw [e1] at hs; exact hs
  | false =>
    simp only [Bool.false_eq_true, if_false]
    simp only at h1
    obtain ⟨st2, hput, h1⟩ := Tree.bind_some h1
    obtain ⟨p1, p2, _, _⟩ := put_spec hput
    refine ⟨fun _ _ => trivial, hK E _ st2 _ w (r1.put hput (undefA_is E)) (DecOk.put e4 hput) ?_ (by rw [p2]; exact e2) h1⟩
    rw [p1, e1]; exact Stp.refl r.rh

/-- an operation that looks at no world, taken by itself -/
theorem pure_oper {o : Oper} (hp : isPure o.op = true) {st st' : St}
    {E : Env} {a : Act} {w : World} (r : R ds E st a w) (h : (evOper P evf ops.toList o [] st fun _ st' => .leaf st').run = some st') :
    ∃ x, Yields P ops o x a ∧ R ds E st' (a.put o.dst x) w ∧ st'.hp = st.hp ∧ st'.size = st.size := by
  unfold evOper at h
  obtain ⟨go, dec', st1, h1, e1, e2, e3, e4, hg⟩ := guarded_spec h (fun t b hb => by cases hb)
  have r1 : R ds E st1 a w := ⟨by rw [e1]; exact r.rh, r.defers, by rw [e2]; exact r.size, fun t x hx => r.env t x (by rw [← e3]; exact hx)⟩
  have hw := wanted_of (ops := ops) (tmps := a.tmps) (E := E) (env := fun t => st.env.get D t) hg (fun _ _ t _ _ x hx => r.env t x hx)
  cases go with
  | true =>
    simp only at h1
    obtain ⟨⟨v, h'⟩, hop, h1⟩ := Tree.bind_some h1
    obtain ⟨st2, hput, h1⟩ := Tree.bind_some h1
    simp only [Tree.run, Option.some.injEq] at h1
    subst h1
    obtain ⟨rfl, x, hx, hrun⟩ := pure_ok o hp (r1.fits _) hop
    obtain ⟨p1, p2, _, _⟩ := put_spec hput
    exact ⟨x, .inl ⟨hw, hrun⟩, (r1.step (Stp.refl r1.rh)).put hput hx, by rw [p1]; exact e1, by rw [p2]; exact e2⟩
  | false =>
    simp only at h1
    obtain ⟨st2, hput, h1⟩ := Tree.bind_some h1
    simp only [Tree.run, Option.some.injEq] at h1
    subst h1
    obtain ⟨p1, p2, _, _⟩ := put_spec hput
    exact ⟨undef, .inr ⟨hw, rfl⟩, r1.put hput (undefA_is E), by rw [p1]; exact e1, by rw [p2]; exact e2⟩

/-- a load, taken by itself over the memory with which the region began -/
theorem held_oper {o : Oper} (hp : isLoad o.op = true) {st st' : St} {E0 E : Env} {h0 : Hp} {w0 : World}
    {a : Act} {w : World} (r0 : RH E0 h0 w0) (hle : E0.le E) (r : R ds E st a w) (h : (evOper P evf ops.toList o [] { st with hp := h0 } fun _ st' => .leaf st').run = some st')
    (hg0 : h0.globs = st.hp.globs) :
    ∃ x, YieldsIf P ops (fun w' => ∀ b, b < w0.heap.size → w'.heap[b]? = w0.heap[b]?) o x a ∧ R ds E { st' with hp := st.hp } (a.put o.dst x) w ∧ st'.size = st.size := by
  unfold evOper at h
  obtain ⟨go, dec', st1, h1, e1, e2, e3, e4, hg⟩ := guarded_spec h (fun t b hb => by cases hb)
  have hw := wanted_of (ops := ops) (tmps := a.tmps) (E := E) (env := fun t => st.env.get D t) hg (fun _ _ t _ _ x hx => r.env t x hx)
  have r1 : R ds E { st1 with hp := st.hp } a w := ⟨r.rh, r.defers, by rw [show ({ st1 with hp := st.hp } : St).size = st1.size from rfl, e2]; exact r.size, fun t x hx => r.env t x (by rw [← e3 t]; exact hx)⟩
  have hρ : st1.ρ = ({ st1 with hp := st.hp } : St).ρ := by
    unfold St.ρ
    rw [e1]
    simp only [hg0]
  cases go with
  | true =>
    simp only at h1
    obtain ⟨⟨v, h'⟩, hop, h1⟩ := Tree.bind_some h1
    obtain ⟨st2, hput, h1⟩ := Tree.bind_some h1
    simp only [Tree.run, Option.some.injEq] at h1
    subst h1
    rw [hρ, show st1.hp = h0 from e1] at hop
    obtain ⟨rfl, x, hx, hrun⟩ := held_load o hp r0 hle (r1.fits _) hop
    have hput' : (St.put { st1 with hp := st.hp } o.dst v).run = some { st2 with hp := st.hp } := by
      unfold St.put at hput ⊢
      split at hput
      · simp only [Tree.run, Option.some.injEq] at hput ⊢
        subst hput
        rfl
      · split at hput
        · rename_i hc
          simp only [Tree.run, Option.some.injEq] at hput
          subst hput
          simp only [hc, Tree.run]
        · cases hput
    obtain ⟨p1, p2, _, _⟩ := put_spec hput
    exact ⟨x, .inl ⟨hw, hrun⟩, r1.put hput' hx, by rw [p2]; exact e2⟩
  | false =>
    simp only at h1
    obtain ⟨st2, hput, h1⟩ := Tree.bind_some h1
    simp only [Tree.run, Option.some.injEq] at h1
    subst h1
    have hput' : (St.put { st1 with hp := st.hp } o.dst undefA).run = some { st2 with hp := st.hp } := by
      unfold St.put at hput ⊢
      split at hput
      · simp only [Tree.run, Option.some.injEq] at hput ⊢
        subst hput
        rfl
      · split at hput
        · rename_i hc
          simp only [Tree.run, Option.some.injEq] at hput
          subst hput
          simp only [hc, Tree.run]
        · cases hput
    obtain ⟨p1, p2, _, _⟩ := put_spec hput
    exact ⟨undef, .inr ⟨hw, rfl⟩, r1.put hput' (undefA_is E), by rw [p2]; exact e2⟩

theorem evOps_ok (hev : EvfOk P evf) (hno : NoOwn P) {E0 : Env} {hp0 : Hp} {w0 : World} {stF : St} {n : Nat} (hQ : ∀ E' a' w', R ds E' stF a' w' → Stp E0 hp0 w0 E' stF.hp w' → stF.size = n → Q .normal a' w') :
    ∀ {rest : List Oper} {is : List Nat} {dec : List (Nat × Bool)} {st : St} {E : Env} {a : Act} {w : World}, All2 (fun o i => ops[i]? = some o) rest is → R ds E st a w → DecOk dec st.env →
      Stp E0 hp0 w0 E st.hp w → st.size = n → (evOps P evf ops.toList rest dec st).run = some stF → wpOpsIn (G ro) 0 P ops Q is a w
  | [], [], dec, st, E, a, w, _, r, _, hs, hz, h => by
    simp only [evOps, Tree.run, Option.some.injEq] at h; subst h
    exact hQ E a w r hs hz
  | o :: rest, i :: is, dec, st, E, a, w, ha, r, hd, hs, hz, h => by
    rw [wpOpsIn_cons]
    exact evOper_ok hev hno ha.1 r hd h fun E' dec' st' a' w' r' hd' hs' hz' h' => evOps_ok hev hno hQ ha.2 r' hd' (hs.trans hs') (hz'.trans hz) h'
  | [], _ :: _, _, _, _, _, _, h, _, _, _, _, _ => h.elim
  | _ :: _, [], _, _, _, _, _, h, _, _, _, _, _ => h.elim

theorem range_all2 : ∀ (l pre : List Oper), All2 (fun o i => (pre ++ l)[i]? = some o) l (List.range' pre.length l.length)
  | [], _ => by simp [All2]
  | o :: l, pre => by
    simp only [List.length_cons, List.range'_succ]
    refine ⟨by simp, ?_⟩
    have := range_all2 l (pre ++ [o])
    simpa using this

theorem region_ok (hev : EvfOk P evf) (hno : NoOwn P) {id : Nat} {E : Env} {st stF : St} {a : Act} {w : World} (r : R ds E st a w) (h : (evOps P evf ops.toList ops.toList [] st).run = some stF)
    (hQ : ∀ E' a' w', R ds E' stF a' w' → Stp E st.hp w E' stF.hp w' → stF.size = st.size → Q .normal a' w') : (Code.region id ops false).wpIn (G ro) 0 P Q a w := by
  refine wpIn_region (evOps_ok hev hno hQ ?_ r (fun t b hb => by cases hb) (Stp.refl r.rh) rfl h)
  have := range_all2 ops.toList []
  simp only [List.nil_append, List.length_nil, Array.length_toList] at this
  rw [List.range_eq_range']
  exact this.imp fun o i ho => by simpa using ho
end
end Go.Ev
