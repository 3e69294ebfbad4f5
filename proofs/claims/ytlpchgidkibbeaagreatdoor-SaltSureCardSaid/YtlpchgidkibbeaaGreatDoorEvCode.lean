/- The evaluator is sound: what it says of a function's code is what every run of the model does. Conditions: none. -/
import Derived.Test.YtlpchgidkibbeaaGreatDoorEvAny
import Derived.LoopNIn
import Derived.RangeFuncLeaves
import Derived.RangeFuncRecord
import Derived.Scope
namespace Go.Ev
open Go

def X.out : X → Exit
  | .normal => .normal
  | .exit i => .exit i
  | .ret => .ret

section
variable {P : Program}

theorem scope_straightG {ro : Option Nat} {Q : Exit → Act → World → Prop} {a : Act} {w : World} {c : Code} (h : c.wpIn (G ro) 0 P (Exit.noGoto Q) a w) : (Code.scope c).wpIn (G ro) 0 P Q a w := by
  intro b k cs hro hb hr
  have h0 : (lone (b.atR a (.code (.scope c) :: k)) cs w).fenced P (G ro) := fenced_calm hb hr rfl
  have s0 : step P (lone (b.atR a (.code (.scope c) :: k)) cs w) = .next (lone (b.atR a (.code c :: .inScope c :: k)) cs w) := step_lone_go (by simp [stepG, stepG.exec, Frame.atR])
  have s1 : ∀ (a : Act) (w : World), step P (lone (b.atR a (.inScope c :: k)) cs w) = .next (lone (b.atR a k) cs w) := fun a w => step_lone_go (by simp [stepG, stepG.exec, Frame.atR])
  obtain ⟨e, a₁, w₁, hq, harr⟩ := h b (.inScope c :: k) cs hro hb hr
  cases e with
  | normal => exact ⟨.normal, a₁, w₁, hq, .head h0 s0 (StepsIn.trans harr (.one (fenced_calm hb hr rfl) (s1 _ _)))⟩
  | exit id =>
    have hx : exitTo id (.inScope c :: k) = exitTo id k := by simp [exitTo]
    exact ⟨.exit id, a₁, w₁, hq, fun k' hk => .head h0 s0 (harr.1 k' (by rw [hx]; exact hk)),
      fun hr' hk => let ⟨k₁, h1, h2⟩ := harr.2 hr' (by rw [hx]; exact hk); ⟨k₁, h1, .head h0 s0 h2⟩⟩
  | goto l => exact hq.elim
  | ret => exact ⟨_, a₁, w₁, hq, .of_steps (.one h0 s0) harr⟩
  | panic ch => exact ⟨_, a₁, w₁, hq, .of_steps (.one h0 s0) harr⟩
  | outgrown => exact ⟨_, a₁, w₁, hq, .of_steps (.one h0 s0) harr⟩

/-! ### The marks that loops over functions leave among the deferred calls -/
def MarksOk (B : Nat) (w : World) : List Deferred → Prop
  | [] => True
  | d :: ds => (∃ k, d = { target := .collected k, args := #[] } ∧ B ≤ k ∧ w.heap[k]? = some (.deferred (some [])) ∧ ∀ d' ∈ ds, d'.target ≠ .collected k) ∧ MarksOk B w ds
theorem MarksOk.mono {B B' : Nat} {w w' : World} (hB : B' ≤ B) (ho : Oth w w') : ∀ {l : List Deferred}, MarksOk B w l → MarksOk B' w' l
  | [], _ => trivial
  | _ :: _, ⟨⟨k, e, hk, hd, hn⟩, hl⟩ => ⟨⟨k, e, by omega, ho _ _ hd rfl, hn⟩, hl.mono hB ho⟩
theorem MarksOk.lt {B : Nat} {w : World} : ∀ {l : List Deferred}, MarksOk B w l → ∀ d ∈ l, ∀ k, d.target = .collected k → k < w.heap.size
  | d0 :: l, ⟨⟨k, e, hk, hd, hn⟩, hl⟩, d, hm, k', he => by
    rcases List.mem_cons.1 hm with rfl | hm
    · subst e
      injection he with he; subst he
      exact (Array.getElem?_eq_some_iff.1 hd).1
    · exact hl.lt d hm k' he
theorem MarksOk.append {B B' : Nat} {w : World} {l' : List Deferred} (h' : MarksOk B w l') (hlt : ∀ d ∈ l', ∀ k, d.target = .collected k → k < B') (hB : B ≤ B') : ∀ {l : List Deferred}, MarksOk B' w l → MarksOk B w (l ++ l')
  | [], _ => h'
  | d :: l, ⟨⟨k, e, hk, hd, hn⟩, hl⟩ => ⟨⟨k, e, by omega, hd, fun d' hd' he => by
      rcases List.mem_append.1 hd' with h1 | h1
      · exact hn d' h1 he
      · have := hlt d' h1 k he; omega⟩, MarksOk.append h' hlt hB hl⟩
/-- which marks a piece of code adds -/
def Marks (w : World) (ds ds' : List Deferred) (w' : World) : Prop := ∃ l, ds' = l ++ ds ∧ MarksOk w.heap.size w' l
theorem Marks.refl (w : World) (ds : List Deferred) (w' : World) : Marks w ds ds w' := ⟨[], rfl, trivial⟩
theorem Marks.trans {w w1 w2 : World} {d0 d1 d2 : List Deferred} (hs : w.heap.size ≤ w1.heap.size) (ho : Oth w1 w2) (h : Marks w d0 d1 w1) (h' : Marks w1 d1 d2 w2) : Marks w d0 d2 w2 := by
  obtain ⟨l, rfl, hl⟩ := h
  obtain ⟨l', rfl, hl'⟩ := h'
  exact ⟨l' ++ l, by simp, MarksOk.append (hl.mono (Nat.le_refl _) ho) hl.lt hs hl'⟩

/-- the record of the loop over a function of which this is a round -/
def RoAt (ro : Option Nat) (w : World) : Prop := ∀ l, ro = some l → ∃ r : Loop, w.heap[l]? = some (.loop r)
theorem RoAt.oth {ro : Option Nat} {w w' : World} (h : RoAt ro w) (ho : Oth w w') : RoAt ro w' := fun l hl => let ⟨r, hr⟩ := h l hl; ⟨r, ho _ _ hr rfl⟩

/-- what an outcome of a piece of code has to bring about -/
def After (ds : List Deferred) (st : St) (E : Env) (w : World) (Q : Exit → Act → World → Prop) (p : X × St) : Prop :=
  ∀ ds' E' a' w', R ds' E' p.2 a' w' → Stp E st.hp w E' p.2.hp w' → p.2.size = st.size → Marks w ds ds' w' → Q p.1.out a' w'
/-- a run of code: what is asked of the evaluator's word -/
def RecOk (P : Program) (rec : Code → St → Tree (X × St)) : Prop := ∀ c st (ro : Option Nat) (ds : List Deferred) (E : Env) (a : Act) (w : World) (Q : Exit → Act → World → Prop), R ds E st a w → RoAt ro w →
  (rec c st).All (After ds st E w Q) → c.wpIn (G ro) 0 P Q a w
/-- a loop comes to its end in as many rounds -/
def LoopOk (P : Program) (n : Nat) (rec : Code → St → Tree (X × St)) : Prop := ∀ c st (ro : Option Nat) (ds : List Deferred) (E : Env) (a : Act) (w : World) (Q : Exit → Act → World → Prop), R ds E st a w → RoAt ro w →
  (rec (.loop c) st).All (After ds st E w Q) → Code.roundsIn (G ro) 0 P c Q n a w

/-- behind a step the rest is asked of where it led -/
theorem After.step {ds ds' : List Deferred} {st st1 : St} {E E' : Env} {w w' : World} {Q : Exit → Act → World → Prop} {t : Tree (X × St)} (h : t.All (After ds st E w Q)) (s : Stp E st.hp w E' st1.hp w') (hz : st1.size = st.size) (hm : Marks w ds ds' w') :
    t.All (After ds' st1 E' w' Q) := Tree.All_mono (fun _ hp D2 E2 a2 w2 r2 s2 hz2 m2 => hp D2 E2 a2 w2 r2 (s.trans s2) (hz2.trans hz) (Marks.trans s.fr.size s2.fr.oth hm m2)) h

theorem loopS_ok {evf : FuncId → Spec} {n : Nat} {rec : Code → St → Tree (X × St)} (hrec : RecOk P rec) (hl : LoopOk P n rec) : LoopOk P (n + 1) (evCodeS P evf rec) := by
  intro c st ro ds E a w Q r hro h
  simp only [evCodeS] at h
  rw [roundsIn_succ]
  refine hrec c st ro ds E a w _ r hro (Tree.All_mono (fun p hp D' E' a' w' r' s' hz' m' => ?_) (Tree.All_bind h))
  obtain ⟨x1, st1⟩ := p
  cases x1 with
  | normal => exact hl c st1 ro D' E' a' w' Q r' (hro.oth s'.fr.oth) (After.step hp s' hz' m')
  | exit i => exact hp D' E' a' w' r' s' hz' m'
  | ret => exact hp D' E' a' w' r' s' hz' m'

/-! ### A loop over a function -/
theorem Fr.shut {E E2 : Env} {n lo l : Nat} {w w2 : World} {o : Obj} (f : Fr E n lo w E2 w2) (hl : w.heap.size ≤ l) : Fr E n lo w E2 (w2.putObj l o) where
  ext := f.ext
  os := f.os
  tape := f.tape
  output := f.output
  size := by rw [World.putObj_size]; exact f.size
  keep := fun b hb hno => (World.putObj_heap_other (by omega)).trans (f.keep b hb hno)
  new := f.new
  oth := fun b o' hb ho => (World.putObj_heap_other (by have := (Array.getElem?_eq_some_iff.1 hb).1; omega)).trans (f.oth b o' hb ho)
theorem RH.shut {E : Env} {h : Hp} {w : World} {l : Nat} {o o' : Obj} (r : RH E { h with lp := none } w) (hl : w.heap[l]? = some o') (ho : isFix o' = true) (hlp : ∀ id d, h.lp = some (id, d) → ∃ p, E id = some p ∧ lpIs E (w.putObj l o) p.1 d) : RH E h (w.putObj l o) where
  nlim := r.nlim
  dom := r.dom
  lt := fun id p hp => by rw [World.putObj_size]; exact r.lt id p hp
  blk := fun id b hb => by
    obtain ⟨p, hp, hi⟩ := r.blk id b hb
    refine ⟨p, hp, hi.of_heap (World.putObj_heap_other fun e => ?_)⟩
    rcases hi with ⟨arr, fz, ⟨_, h1, _⟩, _⟩ | ⟨es, l, _, _, h1, _⟩
    · rw [e, hl] at h1
      injection h1 with h1
      rw [h1] at ho; cases ho
    · rw [e, hl] at h1
      injection h1 with h1
      rw [h1] at ho; cases ho
  inj := r.inj
  glob := r.glob
  lp := hlp

/-- a new name for a block that is no cells, and a loop that may be asked for rounds -/
theorem enter_stp {E : Env} {h : Hp} {w w1 : World} {l : Nat} {d : Lp} (r : RH E h w) (hn : h.next < lim) (hl : w.heap.size ≤ l) (hl1 : l < w1.heap.size) (hold : ∀ k, k < w.heap.size → w1.heap[k]? = w.heap[k]?) (hsize : w.heap.size ≤ w1.heap.size)
    (hos : w1.os = w.os) (htape : w1.tape = w.tape) (hout : w1.output = w.output) (hd : ∀ E', E.le E' → lpIs E' w1 l d) :
    RH (E.with h.next (l, 0, 0)) { h with next := h.next + 1, lp := some (h.next, d) } w1 ∧ Fr E h.next h.low w (E.with h.next (l, 0, 0)) w1 ∧ E.with h.next (l, 0, 0) h.next = some (l, 0, 0) := by
  have hnone : E h.next = none := r.dom _ (Nat.le_refl _)
  have hle : E.le (E.with h.next (l, 0, 0)) := fun i x hx => by
    unfold Env.with; split
    · rename_i e; subst e; rw [hnone] at hx; cases hx
    · exact hx
  have hself : E.with h.next (l, 0, 0) h.next = some (l, 0, 0) := by simp [Env.with]
  have hother : ∀ i p, i ≠ h.next → E.with h.next (l, 0, 0) i = some p → E i = some p := fun i p hne hp => by unfold Env.with at hp; rwa [if_neg hne] at hp
  have hoth : Oth w w1 := fun k o hk _ => (hold k (Array.getElem?_eq_some_iff.1 hk).1).trans hk
  have hbne : ∀ i b, h.heap.get D i = some b → i ≠ h.next := fun i b hb e => by
    obtain ⟨p, hp, _⟩ := r.blk i b hb
    rw [e, hnone] at hp; cases hp
  refine ⟨⟨hn, fun i hi => ?_, fun i p hp => ?_, fun i b hb => ?_, fun i i' b b' p p' hb hb' hro hp hp' he => ?_, fun g i hg => ?_, fun i d' hd' => ?_⟩, ⟨hle, hos, htape, hout, hsize, fun k hk _ => hold k hk, fun i p hp => ?_, hoth⟩, hself⟩
  · have hi' : h.next + 1 ≤ i := hi
    unfold Env.with; rw [if_neg (by omega)]; exact r.dom i (by omega)
  · by_cases e : i = h.next
    · subst e; rw [hself] at hp; injection hp with hp; subst hp; exact hl1
    · exact Nat.lt_of_lt_of_le (r.lt i p (hother i p e hp)) hsize
  · obtain ⟨p, hp, hi⟩ := r.blk i b hb
    exact ⟨p, hle _ _ hp, (hi.of_heap (hold _ (r.lt _ _ hp))).mono hle⟩
  · exact r.inj i i' b b' p p' hb hb' hro (hother _ _ (hbne i b hb) hp) (hother _ _ (hbne i' b' hb') hp') he
  · obtain ⟨s, hs⟩ := r.glob g i hg
    exact ⟨s, hle _ _ hs⟩
  · have hd' : some (h.next, d) = some (i, d') := hd'
    injection hd' with hd'
    injection hd' with e1 e2
    subst e1; subst e2
    exact ⟨_, hself, hd _ hle⟩
  · by_cases e : i = h.next
    · subst e; rw [hself] at hp; injection hp with hp; subst hp; exact .inr ⟨Nat.le_refl _, .inl hl⟩
    · exact .inl (hother i p e hp)

/-- entering the loop -/
theorem enterLoop_ok {ro : Option Nat} {w : World} (hro : RoAt ro w) (fn : FuncId) (tmps : Array Value) (ps : Array Tmp) (assign body : Code) :
    ∃ (l : Nat) (mark : List Deferred) (w1 : World) (k : Nat), (Instr.enterLoop fn tmps ps assign body ro).run P w = .ok (l, mark) w1 ∧ w.heap.size ≤ l ∧
      w1.heap[l]? = some (.loop { state := .ready, pending := none, fn, tmps, params := ps, assign, body, defers := k }) ∧ (∀ k, k < w.heap.size → w1.heap[k]? = w.heap[k]?) ∧ w.heap.size ≤ w1.heap.size ∧
      w1.os = w.os ∧ w1.tape = w.tape ∧ w1.output = w.output ∧ MarksOk w.heap.size w1 mark := by
  cases ro with
  | none =>
    refine ⟨_, _, _, w.heap.size, run_enterLoop_outer fn tmps ps assign body, Nat.le_succ _, ?_, fun k hk => ?_, by simp; omega, rfl, rfl, rfl, ⟨⟨w.heap.size, rfl, Nat.le_refl _, ?_, fun _ h => by cases h⟩, trivial⟩⟩
    · have := World.alloc_heap_new (w.alloc (.deferred (some []))) (.loop { state := .ready, pending := none, fn, tmps, params := ps, assign, body, defers := w.heap.size }); rwa [World.size_alloc] at this
    · exact (heap_old _ _ k (by simp; omega)).trans (heap_old _ _ k hk)
    · exact (heap_old _ _ _ (by simp)).trans (World.alloc_heap_new w _)
  | some l0 =>
    obtain ⟨r0, h0⟩ := hro l0 rfl
    have hrun : (Instr.enterLoop fn tmps ps assign body (some l0)).run P w =
        .ok (w.heap.size, []) (w.alloc (.loop { state := .ready, pending := none, fn, tmps, params := ps, assign, body, defers := r0.defers })) := by
      unfold Instr.enterLoop
      simp only [Sem.run_bind, run_getLoop h0, run_newObj_alloc, Result.andThen, Sem.run_pure]
    exact ⟨_, _, _, r0.defers, hrun, Nat.le_refl _, World.alloc_heap_new w _, fun k hk => heap_old _ _ k hk, by simp, rfl, rfl, rfl, trivial⟩

theorem rangeFunc_ok {evf : FuncId → Spec} (hev : EvfOk P evf) (hno : NoOwn P) {g : Operand} {ps : Array Tmp} {assign body : Code} {st : St} {ro : Option Nat} {ds : List Deferred} {E : Env} {a : Act} {w : World} {Q : Exit → Act → World → Prop}
    (r : R ds E st a w) (hro : RoAt ro w) {gf : FuncId} {caps : List (Nat × Nat × Nat × Nat)} (hg : st.ρ g = some (.one (.fn gf caps))) (hc : (hasBody P gf && Nat.blt gf yieldBase && Nat.blt st.hp.next lim) = true) {res : A × Hp}
    (hres : (evf gf (.one (.yld st.hp.next) :: caps.map capA) { st.hp with next := st.hp.next + 1, lp := some (st.hp.next, ⟨st.size, st.env, st.wide, st.keep, ps.toList, assign, body⟩) }).run = some res)
    (h : After ds st E w Q (.normal, { st with hp := { res.2 with lp := st.hp.lp } })) : (Code.rangeFunc g ps assign body).wpIn (G ro) 0 P Q a w := by
  simp only [Bool.and_eq_true, Nat.blt_eq] at hc
  obtain ⟨⟨hbody, hgf⟩, hlim⟩ := hc
  obtain ⟨vs, hgv, hcaps⟩ := r.fits [g] g (by simp) _ hg
  refine wpIn_rangeFunc fun fn hfn => ?_
  obtain ⟨l, mark, w1, k, he, hl, hl1, hold, hsize, hos, htape, hout, hmarks⟩ := enterLoop_ok (P := P) hro fn a.tmps ps assign body
  have hlt1 : l < w1.heap.size := (Array.getElem?_eq_some_iff.1 hl1).1
  obtain ⟨rh1, fr1, hE1⟩ := enter_stp (d := ⟨st.size, st.env, st.wide, st.keep, ps.toList, assign, body⟩) r.rh hlim hl hlt1 hold hsize hos htape hout
    (fun E' hle => ⟨_, hl1, rfl, rfl, by simp, rfl, rfl, r.size, fun t x hx => (r.env t x hx).mono hle⟩)
  have hall : All2 (A.Is (E.with st.hp.next (l, 0, 0))) (.one (.yld st.hp.next) :: caps.map capA) (.func (.yield l) #[] #[] :: vs) :=
    ⟨⟨l, (0, 0), hE1, rfl⟩, (capA_is hcaps).imp fun _ _ hi => hi.mono fr1.ext⟩
  obtain ⟨v, hp2⟩ := res
  have hcalls := (hev gf _ _ v hp2 hres _ w1 _ rh1 hall).1 hgf
  unfold hasBody at hbody
  split at hbody
  · rename_i f hf
    have hb : f.body.isNone = false := by cases hbo : f.body <;> simp_all
    have hn : f.name ≠ "runtime.NumGoroutine" := by simpa using hno gf f hf
    have hb' : ¬ f.body = none := by intro e0; rw [e0] at hb; cases hb
    have eg : ∀ args w, (callFunc gf args).run P w = .ok (.enter gf args) w := fun args w => by simp [callFunc, hf, hn, hb']
    refine ⟨l, mark, w1, { target := .fn (.func gf) vs.toArray, args := #[.func (.yield l) #[] #[]] }, w1, gf, (.func (.yield l) #[] #[] :: vs).toArray, w1, he, ?_, fun _ _ => trivial, ?_, fun h => (by cases h), callsG ro (hcalls.mono ?_)⟩
    · simp only [resolve, hgv]
      simp [go_sem]
    · have ea : #[Value.func (.yield l) #[] #[]] ++ vs.toArray = (Value.func (.yield l) #[] #[] :: vs).toArray := by simp
      simp [invoke, go_sem, eg]
    · rintro e w2 ⟨x, E2, rfl, hx, hs⟩
      obtain ⟨p, hp, hlp⟩ := hs.rh.lp st.hp.next ⟨st.size, st.env, st.wide, st.keep, ps.toList, assign, body⟩ (by rw [hs.lp])
      have hE2 : E2 st.hp.next = some (l, 0, 0) := hs.fr.ext _ _ hE1
      obtain rfl : p = (l, 0, 0) := Option.some.inj (hp.symm.trans hE2)
      obtain ⟨r2, hr2, hst2, hpe2, _⟩ := hlp
      have hend := run_endLoop (P := P) hr2 (by rw [hst2]; simp)
      rw [hpe2] at hend
      refine ⟨none, _, hend, ?_⟩
      have hm : mark ++ a.defers = mark ++ ds := by rw [r.defers]
      have frw : Fr E st.hp.next hp2.low w E2 w2 := Fr.trans fr1 hs.fr (Nat.le_succ _) hs.low
      have rh3 : RH E2 { hp2 with lp := st.hp.lp } (w2.putObj l (.loop { r2 with state := .exhausted, pending := none })) := by
        refine RH.shut (h := { hp2 with lp := st.hp.lp }) (o' := .loop r2) ⟨hs.rh.nlim, hs.rh.dom, hs.rh.lt, hs.rh.blk, hs.rh.inj, hs.rh.glob, fun _ _ e => by cases e⟩ hr2 rfl fun id d hd => ?_
        obtain ⟨q, hq, hqi⟩ := r.rh.lp id d hd
        refine ⟨q, frw.ext _ _ hq, ?_⟩
        obtain ⟨r3, hr3, rest⟩ := hqi.mono frw.ext frw.oth
        refine ⟨r3, (World.putObj_heap_other fun e => ?_).trans hr3, rest⟩
        have := r.rh.lt _ _ hq
        omega
      refine h (mark ++ ds) E2 _ _ ⟨rh3, hm, r.size, fun t y hy => (r.env t y hy).mono frw.ext⟩ ⟨rh3, frw.shut hl, ?_, ?_, ?_, rfl⟩ rfl ⟨mark, rfl, ?_⟩
      · exact Nat.le_trans (Nat.le_succ _) hs.next
      · exact hs.low
      · exact hs.globs
      · have hm2 : MarksOk w.heap.size w2 mark := hmarks.mono (Nat.le_refl _) hs.fr.oth
        revert hm2
        generalize mark = mk
        intro hm2
        have key : ∀ {l' : List Deferred}, MarksOk w.heap.size w2 l' → MarksOk w.heap.size (w2.putObj l (.loop { r2 with state := .exhausted, pending := none })) l' := by
          intro l'
          induction l' with
          | nil => exact fun _ => trivial
          | cons d l' ih =>
            rintro ⟨⟨k, e, hk, hd, hn⟩, hl'⟩
            refine ⟨⟨k, e, hk, (World.putObj_heap_other fun e' => ?_).trans hd, hn⟩, ih hl'⟩
            rw [e', hr2] at hd; cases hd
        exact key hm2
  · cases hbody

theorem codeS_ok {n : Nat} {evf : FuncId → Spec} (hev : EvfOk P evf) (hno : NoOwn P) (hm : P.follows .mixedOrders = true) {rec : Code → St → Tree (X × St)} (hrec : RecOk P rec) (hl : LoopOk P n rec) : RecOk P (evCodeS P evf rec) := by
  intro c st ro ds E a w Q r hro h
  cases c with
  | skip => exact wpIn_skip (h ds E a w r (Stp.refl r.rh) rfl (Marks.refl _ _ _))
  | region id ops draw =>
    simp only [evCodeS] at h
    cases draw with
    | false =>
      obtain ⟨st2, h1, h⟩ := Tree.All_run (Tree.All_bind h)
      exact region_ok hev hno r h1 fun E' a' w' r' s' hz' => h ds E' a' w' r' s' hz' (Marks.refl _ _ _)
    | true => exact open_ok hev hno hm r (Tree.All_mono (fun stF hF E' a' w' r' s' hz' => hF ds E' a' w' r' s' hz' (Marks.refl _ _ _)) (Tree.All_bind h))
  | seq c1 c2 =>
    simp only [evCodeS] at h
    refine wpIn_seq (hrec c1 st ro ds E a w _ r hro (Tree.All_mono (fun p hp D' E' a' w' r' s' hz' m' => ?_) (Tree.All_bind h)))
    obtain ⟨x1, st1⟩ := p
    cases x1 with
    | normal => exact hrec c2 st1 ro D' E' a' w' Q r' (hro.oth s'.fr.oth) (After.step hp s' hz' m')
    | exit i => exact hp D' E' a' w' r' s' hz' m'
    | ret => exact hp D' E' a' w' r' s' hz' m'
  | cond co c1 c2 =>
    simp only [evCodeS] at h
    split at h
    · rename_i t ht
      obtain ⟨hv, _⟩ := r.fits [co] co (by simp) _ ht
      cases t with
      | true => exact wpIn_cond_true hv (hrec c1 st ro ds E a w Q r hro h)
      | false => exact wpIn_cond_false hv (hrec c2 st ro ds E a w Q r hro h)
    · exact h.elim
  | block id c =>
    simp only [evCodeS] at h
    refine wpIn_block (hrec c st ro ds E a w _ r hro (Tree.All_mono (fun p hp D' E' a' w' r' s' hz' m' => ?_) (Tree.All_bind h)))
    obtain ⟨x1, st1⟩ := p
    cases x1 with
    | normal => exact hp D' E' a' w' r' s' hz' m'
    | ret => exact hp D' E' a' w' r' s' hz' m'
    | exit i =>
      have h2 : (match Nat.beq i id with | true => Tree.leaf (X.normal, st1) | false => Tree.leaf (X.exit i, st1)).All (After ds st E w Q) := hp
      cases hi : Nat.beq i id with
      | true =>
        rw [hi] at h2
        have e := Nat.eq_of_beq_eq_true hi
        simp only [X.out, Exit.inBlock, if_pos e]
        exact h2 D' E' a' w' r' s' hz' m'
      | false =>
        rw [hi] at h2
        have hne : ¬ i = id := fun e => by subst e; simp at hi
        simp only [X.out, Exit.inBlock, if_neg hne]
        exact h2 D' E' a' w' r' s' hz' m'
  | loop c => exact wpIn_loop_rounds (n + 1) (loopS_ok (evf := evf) hrec hl c st ro ds E a w Q r hro h)
  | exit id => exact wpIn_exit (h ds E a w r (Stp.refl r.rh) rfl (Marks.refl _ _ _))
  | ret => exact wpIn_ret (h ds E a w r (Stp.refl r.rh) rfl (Marks.refl _ _ _))
  | scope c =>
    refine scope_straightG (hrec c st ro ds E a w _ r hro (Tree.All_mono (fun p hp D' E' a' w' r' s' hz' m' => ?_) h))
    have hq := hp D' E' a' w' r' s' hz' m'
    obtain ⟨x1, st1⟩ := p
    cases x1 <;> exact hq
  | label l => exact wpIn_label (h ds E a w r (Stp.refl r.rh) rfl (Marks.refl _ _ _))
  | rangeFunc g ps assign body =>
    simp only [evCodeS] at h
    split at h
    · rename_i gf caps hg
      split at h
      · rename_i hc
        obtain ⟨res, hres, h⟩ := Tree.All_run (Tree.All_bind h)
        exact rangeFunc_ok hev hno r hro hg hc hres h
      · exact h.elim
    · exact h.elim
  | _ => exact h.elim

/-! ### Results -/
theorem resA_ok {ds : List Deferred} {st : St} {rv : ResultVar} {v : A} {E : Env} {a : Act} {w : World} (r : R ds E st a w) (h : (resA P st rv).run = some v) :
    ∃ x, (match rv with
      | .tmp t => pure (a.tmps.getD t undef)
      | .cell c t => do loadVar t (← asAddr (a.tmps.getD c undef)) : Sem Value).run P w = .ok x w ∧ v.Is E x := by
  cases rv with
  | tmp t =>
    simp only [resA, Tree.ofOption_run] at h
    exact ⟨_, rfl, r.env t v h⟩
  | cell c t =>
    simp only [resA] at h
    split at h
    · rename_i id k m j hc
      have hp := r.env c _ hc
      split at h
      · rename_i b s hb ha hs
        obtain ⟨cs, hcs, h⟩ := Tree.bind_some h
        simp only [Tree.run, Option.some.injEq] at h; subst h
        obtain ⟨q, _, hx, hi⟩ := ptr_load r.rh hp hb
        obtain ⟨y, hy, hyi⟩ := load_agg (P := P) hi hcs ha hs
        exact ⟨y, by simp only [hx, asAddr, Sem.run_bind, Sem.run_pure, Result.andThen_ok, hy], hyi⟩
      · rename_i b _ hb ha
        obtain ⟨cc, hcc, h⟩ := Tree.bind_some h
        simp only [Tree.run, Option.some.injEq] at h; subst h
        obtain ⟨q, _, hx, hi⟩ := ptr_load r.rh hp hb
        obtain ⟨y, hy, hyi⟩ := load_one (P := P) (t := t) hi hcc ha
        exact ⟨y, by simp only [hx, asAddr, Sem.run_bind, Sem.run_pure, Result.andThen_ok, hy], hyi⟩
      · cases h
    · cases h

def resSem (a : Act) (rv : ResultVar) : Sem Value := match rv with
  | .tmp t => pure (a.tmps.getD t undef)
  | .cell c t => do loadVar t (← asAddr (a.tmps.getD c undef))

theorem resAs_ok {ds : List Deferred} {st : St} {E : Env} {a : Act} {w : World} (r : R ds E st a w) : ∀ {rs : List ResultVar} {vs : List (Bool × List C)}, (resAs P st rs).run = some vs →
    ∃ xs, (rs.mapM (resSem a)).run P w = .ok xs w ∧ All2 (compIs E) vs xs
  | [], vs, h => by
    simp only [resAs, Tree.run, Option.some.injEq] at h; subst h
    exact ⟨[], rfl, trivial⟩
  | rv :: rs, vs, h => by
    obtain ⟨v, hv, h⟩ := Tree.bind_some h
    obtain ⟨vs', hvs, h⟩ := Tree.bind_some h
    split at h
    · rename_i c hc
      simp only [Tree.run, Option.some.injEq] at h; subst h
      obtain ⟨x, hx, hxi⟩ := resA_ok r hv
      obtain ⟨xs, hxs, ha⟩ := resAs_ok r hvs
      refine ⟨x :: xs, ?_, comp_is hxi hc, ha⟩
      have hx' : (resSem a rv).run P w = .ok x w := hx
      simp only [List.mapM_cons, Sem.run_bind, hx', Result.andThen_ok, hxs, Sem.run_pure]
    · cases h

theorem results_eq (fn : Func) (a : Act) : results fn a.tmps = (do let vs ← fn.results.mapM (resSem a); pure (if h : vs.size = 1 then vs[0] else .tuple vs)) := by
  unfold results resSem
  rfl

theorem resultA_ok {ds : List Deferred} {st : St} {fn : Func} {v : A} {E : Env} {a : Act} {w : World} (r : R ds E st a w) (h : (resultA P st fn.results.toList).run = some v) :
    ∃ x, (results fn a.tmps).run P w = .ok x w ∧ v.Is E x := by
  have many : ∀ {vs : List (Bool × List C)}, (resAs P st fn.results.toList).run = some vs → ∃ xs : List Value, (fn.results.mapM (resSem a)).run P w = .ok xs.toArray w ∧ All2 (compIs E) vs xs := fun hvs => by
    obtain ⟨xs, hxs, ha⟩ := resAs_ok r hvs
    refine ⟨xs, ?_, ha⟩
    rw [Array.mapM_eq_mapM_toList, Sem.run_map, hxs]
    rfl
  unfold resultA at h
  split at h
  · rename_i rv hrv
    obtain ⟨x, hx, hxi⟩ := resA_ok r h
    refine ⟨x, ?_, hxi⟩
    have hx' : (resSem a rv).run P w = .ok x w := hx
    rw [results_eq, Sem.run_bind, Array.mapM_eq_mapM_toList, Sem.run_map, hrv]
    simp only [List.mapM_cons, List.mapM_nil, Sem.run_bind, hx', Result.andThen_ok, Sem.run_pure]
    rfl
  · rename_i hne
    obtain ⟨vs, hvs, h⟩ := Tree.bind_some h
    simp only [Tree.run, Option.some.injEq] at h; subst h
    obtain ⟨xs, hxs, ha⟩ := many hvs
    refine ⟨.tuple xs.toArray, ?_, xs, rfl, ha⟩
    have hlen : ∀ {rs : List ResultVar} {vs : List (Bool × List C)}, (resAs P st rs).run = some vs → vs.length = rs.length := by
      intro rs
      induction rs with
      | nil => intro vs h; simp only [resAs, Tree.run, Option.some.injEq] at h; subst h; rfl
      | cons rv rs ih =>
        intro vs h
        obtain ⟨v, hv, h⟩ := Tree.bind_some h
        obtain ⟨vs', hvs', h⟩ := Tree.bind_some h
        split at h
        · simp only [Tree.run, Option.some.injEq] at h; subst h; simp [ih hvs']
        · cases h
    have hl : xs.length ≠ 1 := by
      rw [← ha.length, hlen hvs]
      intro e
      obtain ⟨rv, hrv⟩ := List.length_eq_one_iff.1 e
      exact hne rv hrv
    rw [results_eq, Sem.run_bind, hxs]
    simp [hl]

/-! ### Functions -/
theorem initEnv_get : ∀ {as : List A} {i t : Nat} {tr : Tr A} {x : A}, i + as.length ≤ lim → (initEnv i as tr).get D t = some x → (∃ j, t = i + j ∧ nth as j = some x) ∨ tr.get D t = some x
  | [], _, _, _, _, _, h => .inr h
  | a :: as, i, t, tr, x, hl, h => by
    simp only [initEnv] at h
    rcases initEnv_get (by simp at hl; omega) h with ⟨j, e, hj⟩ | h
    · exact .inl ⟨j + 1, by omega, by simpa [nth] using hj⟩
    · rw [Tr.get_set_D _ _ _ _ (by simp at hl; omega)] at h
      split at h
      · rename_i e; injection h with h; subst h; exact .inl ⟨0, by omega, rfl⟩
      · exact .inr h

variable {T : FuncId → Option Spec} {W : FuncId → Bool × Bool}

/-- the table's own functions are what it says of them -/
def TabOk (P : Program) (T : FuncId → Option Spec) : Prop := ∀ f s, T f = some s → ∀ args h v h', (s args h).run = some (v, h') → ∀ (E : Env) (w : World) (vals : List Value), RH E h w → All2 (A.Is E) args vals →
  Calls P f vals.toArray w fun e w' => ∃ x E', e = .returned x ∧ v.Is E' x ∧ Stp E h w E' h' w'

theorem eqC_eq {a b : C} (h : eqC a b = true) : a = b := by
  unfold eqC at h
  split at h
  · simp only [Bool.and_eq_true, decide_eq_true_eq] at h
    rw [h.1, h.2]
  · simp only [beq_iff_eq] at h; rw [h]
  · simp only [decide_eq_true_eq] at h; rw [h]
  · cases h
theorem eqCs_eq : ∀ {a b : List C}, eqCs a b = true → a = b
  | [], [], _ => rfl
  | a :: as, b :: bs, h => by
    simp only [eqCs, Bool.and_eq_true] at h
    rw [eqC_eq h.1, eqCs_eq h.2]
  | [], _ :: _, h => by cases h
  | _ :: _, [], h => by cases h
theorem eqVs_eq : ∀ {a b : List (Bool × List C)}, eqVs a b = true → a = b
  | [], [], _ => rfl
  | (x, a) :: as, (y, b) :: bs, h => by
    simp only [eqVs, Bool.and_eq_true, beq_iff_eq] at h
    rw [h.1, eqCs_eq h.2.1, eqVs_eq h.2.2]
  | [], _ :: _, h => by cases h
  | _ :: _, [], h => by cases h
theorem eqA_eq {a b : A} (h : eqA a b = true) : a = b := by
  unfold eqA at h
  split at h
  · rw [eqC_eq h]
  · rw [eqCs_eq h]
  · rw [eqVs_eq h]
  · cases h

/-- what a call leaves -/
def LeaveIs (h : Hp) (x : Bool × A × Hp) : Prop := x.1 = true → x.2.2 = h

theorem leave_ok {E E' : Env} {h h' : Hp} {w w' : World} {a : A} {x : Value} {v : Bool × A × Hp} (r : RH E h w) (hx : a.Is E' x) (s : Stp E { h with low := h.next } w E' h' w') (e : leaveS h a h' = v) :
    LeaveIs h v ∧ ∃ E'', v.2.1.Is E'' x ∧ Stp E h w E'' v.2.2 w' := by
  unfold leaveS at e
  split at e
  · rename_i hc
    rw [Bool.and_eq_true] at hc
    subst e
    exact ⟨fun _ => rfl, E, hx.noId hc.2, Stp.forget r s.fr (by rw [Nat.eq_of_beq_eq_true hc.1]; exact Nat.le_refl _)⟩
  · subst e
    exact ⟨fun h => (by cases h), E', hx, s.rh.low _, s.fr.low_le (Nat.min_le_right _ _), s.next, Nat.min_le_left _ _, s.globs, s.lp⟩

theorem leaveS_is (h : Hp) (a : A) (h' : Hp) : LeaveIs h (leaveS h a h') := by
  unfold leaveS
  split
  · exact fun _ => rfl
  · exact fun h => by cases h

/-- the outcomes that are held to be one are one, where memory is left as it was -/
theorem Tree.join_leave {h : Hp} {x : Bool × A × Hp} {t : Tree (Bool × A × Hp)} (ht : t.All (LeaveIs h)) (hj : (t.join sameS).run = some x) : t.All fun y => y = x := by
  have key : ∀ {t : Tree (Bool × A × Hp)} {x : Bool × A × Hp}, t.All (LeaveIs h) → (t.join sameS).run = some x → t.All (fun y => y = x) ∧ LeaveIs h x := by
    intro t
    induction t with
    | leaf a =>
      intro x ht hj
      simp only [Tree.join, Tree.run, Option.some.injEq] at hj
      subst hj
      exact ⟨rfl, ht⟩
    | node b t e iht ihe =>
      intro x ht hj
      cases b with
      | true => exact iht ht hj
      | false => exact ihe ht hj
    | need b t ih =>
      intro x ht hj
      obtain ⟨h1, h2⟩ := Tree.need_some hj
      exact ⟨⟨h1, (ih ht.2 h2).1⟩, (ih ht.2 h2).2⟩
    | amb l r ihl ihr =>
      intro x ht hj
      obtain ⟨h1, y, h2, h3⟩ := Tree.meet_run hj
      obtain ⟨l1, l2⟩ := ihl ht.1 h1
      obtain ⟨r1, r2⟩ := ihr ht.2 h2
      have hxy : y = x := by
        unfold sameS at h3
        split at h3
        · rename_i e1 e2
          obtain ⟨x1, x2, x3⟩ := x
          obtain ⟨y1, y2, y3⟩ := y
          have a1 := l2 e1
          have a2 := r2 e2
          simp only at e1 e2 a1 a2 h3
          rw [eqA_eq h3, e1, e2, a1, a2]
        · cases h3
      subst hxy
      exact ⟨⟨l1, r1⟩, l2⟩
    | fail n => intro x ht _; exact ht.elim
  exact (key ht hj).1

/-- an outcome of the code, as the call hands it back -/
def exitS (P : Program) (rs : List ResultVar) (h : Hp) (p : X × St) : Tree (Bool × A × Hp) := match p.1 with
  | .exit _ => .fail 96
  | _ => (resultA P p.2 rs).bind fun a => .leaf (leaveS h a p.2.hp)

theorem exitS_some {rs : List ResultVar} {h : Hp} {p : X × St} {v : Bool × A × Hp} (hv : (exitS P rs h p).run = some v) : (∀ i, p.1 ≠ .exit i) ∧ ∃ a, (resultA P p.2 rs).run = some a ∧ leaveS h a p.2.hp = v := by
  unfold exitS at hv
  split at hv
  · cases hv
  · rename_i hne
    obtain ⟨a, h1, h2⟩ := Tree.bind_some hv
    simp only [Tree.run, Option.some.injEq] at h2
    exact ⟨fun i e => hne i e, a, h1, h2⟩

/-- which outcomes there are, tests and orders aside -/
def Tree.Hits {α : Type} (p : α → Prop) : Tree α → Prop
  | .leaf a => p a
  | .node b t e => match b with | true => t.Hits p | false => e.Hits p
  | .need b t => b = true → t.Hits p
  | .amb l r => l.Hits p ∧ r.Hits p
  | .fail _ => True
theorem Tree.hits_bind {α β : Type} {p : β → Prop} {f : α → Tree β} (hf : ∀ a, (f a).Hits p) : ∀ t : Tree α, (t.bind f).Hits p
  | .leaf a => hf a
  | .node true t _ => Tree.hits_bind hf t
  | .node false _ e => Tree.hits_bind hf e
  | .need _ t => fun _ => Tree.hits_bind hf t
  | .amb l r => ⟨Tree.hits_bind hf l, Tree.hits_bind hf r⟩
  | .fail _ => trivial
/-- where the one outcome is told, each of those that there are is hit -/
theorem Tree.join_hits {h : Hp} : ∀ {t : Tree (Bool × A × Hp)} {x : Bool × A × Hp}, t.Hits (LeaveIs h) → (t.join sameS).run = some x → t.All (LeaveIs h)
  | .leaf _, _, ht, _ => ht
  | .node true t _, _, ht, hj => Tree.join_hits (t := t) ht hj
  | .node false _ e, _, ht, hj => Tree.join_hits (t := e) ht hj
  | .need b t, _, ht, hj => by
    obtain ⟨h1, h2⟩ := Tree.need_some hj
    exact ⟨h1, Tree.join_hits (t := t) (ht h1) h2⟩
  | .amb l r, _, ht, hj => by
    obtain ⟨h1, y, h2, h3⟩ := Tree.meet_run hj
    exact ⟨Tree.join_hits ht.1 h1, Tree.join_hits ht.2 h2⟩
  | .fail _, _, _, hj => by cases hj

/-! ### A round -/
theorem setPs_is {E : Env} {size : Nat} : ∀ {ps : List Nat} {as : List A} {vs : List Value} {env env' : Tr A} {tmps : Array Value}, setPs size ps as env = some env' → All2 (A.Is E) as vs → tmps.size = size →
    (∀ t x, env.get D t = some x → x.Is E (tmps.getD t undef)) → ps.length = vs.length ∧ ((ps.zip vs).foldl (fun t (p, v) => t.setIfInBounds p v) tmps).size = size ∧
      ∀ t x, env'.get D t = some x → x.Is E (((ps.zip vs).foldl (fun t (p, v) => t.setIfInBounds p v) tmps).getD t undef)
  | [], [], [], env, env', tmps, h, _, hz, he => by
    simp only [setPs, Option.some.injEq] at h; subst h
    exact ⟨rfl, hz, he⟩
  | p :: ps, a :: as, v :: vs, env, env', tmps, h, ha, hz, he => by
    simp only [setPs] at h
    split at h
    · rename_i hc
      simp only [Bool.and_eq_true, Nat.blt_eq] at hc
      obtain ⟨h1, h2, h3⟩ := setPs_is (tmps := tmps.setIfInBounds p v) h ha.2 (by simpa using hz) (fun t x hx => by
        rw [Tr.get_set_D _ _ _ _ hc.2] at hx
        have := getD_put (a := { tmps := tmps, defers := [] }) (d := p) (t := t) (v := v) (by show p < tmps.size; omega)
        have e : (Act.put { tmps := tmps, defers := [] } (some p) v).tmps = tmps.setIfInBounds p v := rfl
        rw [e] at this
        rw [this]
        split at hx
        · rename_i e; subst e
          injection hx with hx; subst hx
          rw [if_pos rfl]; exact ha.1
        · rename_i e
          rw [if_neg (Ne.symm e)]
          exact he t x hx)
      exact ⟨by simp [h1], h2, h3⟩
    · cases h
  | [], _ :: _, _, _, _, _, h, _, _, _ => by cases h
  | _ :: _, [], _, _, _, _, h, _, _, _ => by cases h
  | [], [], _ :: _, _, _, _, _, h, _, _ => h.elim
  | _ :: _, _ :: _, [], _, _, _, _, h, _, _ => h.elim

theorem zip_toArray (ps : List Nat) (vs : List Value) (tmps : Array Value) : (ps.toArray.zip vs.toArray).foldl (fun tmps (t, a) => tmps.setIfInBounds t a) tmps = (ps.zip vs).foldl (fun t (p, v) => t.setIfInBounds p v) tmps := by
  rw [List.zip_toArray]
  simp

theorem Fr.round {E E1 E2 : Env} {n n1 lo1 lo2 l : Nat} {w w1 w2 : World} {o ob : Obj} (f1 : Fr E n lo1 w E1 w1) (f2 : Fr E1 n1 lo2 (w1.putObj l ob) E2 w2) (hn : n ≤ n1) (hlo : lo2 ≤ lo1) (hl : w1.heap[l]? = some o) : Fr E n lo2 w E2 (w2.putObj l o) := by
  have hlt : l < w2.heap.size := by
    have h1 := f2.size
    rw [World.putObj_size] at h1
    have h2 := (Array.getElem?_eq_some_iff.1 hl).1
    omega
  refine f1.trans (n' := n1) (E'' := E2) ⟨f2.ext, f2.os, f2.tape, f2.output, ?_, fun b hb hno => ?_, fun id p hp => ?_, fun b o' hb ho => ?_⟩ hn hlo
  · rw [World.putObj_size]; have := f2.size; rwa [World.putObj_size] at this
  · by_cases e : b = l
    · subst e; rw [World.putObj_heap_same hlt, hl]
    · exact (World.putObj_heap_other e).trans ((f2.keep b (by rw [World.putObj_size]; exact hb) hno).trans (World.putObj_heap_other e))
  · have := f2.new id p hp
    rwa [World.putObj_size] at this
  · by_cases e : b = l
    · subst e; rw [World.putObj_heap_same hlt, ← hl]; exact hb
    · exact (World.putObj_heap_other e).trans (f2.oth b o' ((World.putObj_heap_other e).trans hb) ho)

theorem round_ok {rec : Code → St → Tree (X × St)} (hrec : RecOk P rec) {id l : Nat} {s : Nat × Nat} {args : List A} {h h' : Hp} {v : A} (hr : (evRound rec id args h).run = some (v, h')) {E : Env} {w : World} {vals : List Value}
    (rh : RH E h w) (hargs : All2 (A.Is E) args vals) (hE : E id = some (l, s)) :
    YieldAt Fence.wide 0 P l vals.toArray w fun e w' => ∃ x E', e = .returned x ∧ v.Is E' x ∧ Stp E h w E' h' w' := by
  unfold evRound at hr
  split at hr
  · rename_i id' d hlp
    split at hr
    · rename_i env hid hset
      obtain rfl := Nat.eq_of_beq_eq_true hid
      obtain ⟨p, hp, r, hrl, hst, hpe, hps, has, hbo, hsz, henv⟩ := rh.lp id d hlp
      obtain rfl : p = (l, s) := Option.some.inj (hp.symm.trans hE)
      have hall := Tree.join_all (fun a b h => by cases h) hr
      obtain ⟨h1, h2, h3⟩ := setPs_is hset hargs hsz henv
      have hy := run_yield (P := P) (args := vals.toArray) hrl (by rw [hps]; simpa using h1.symm)
      rw [hps, zip_toArray, has, hbo] at hy
      refine ⟨_, _, _, _, hy, roundIn_of_wpIn trivial ?_⟩
      have rh0 : RH E { h with lp := none } w := ⟨rh.nlim, rh.dom, rh.lt, rh.blk, rh.inj, rh.glob, fun _ _ e => by cases e⟩
      refine hrec d.assign _ (some l) [] E _ w _ ⟨rh0, rfl, h2, h3⟩ (fun l' hl' => by injection hl' with hl'; subst hl'; exact ⟨r, hrl⟩) (Tree.All_mono (fun q hq D1 E1 a1 w1 r1 s1 z1 _ => ?_) (Tree.All_bind hall))
      obtain ⟨x1, st1⟩ := q
      cases x1 with
      | exit i => exact hq.elim
      | ret => exact hq.elim
      | normal =>
        have hl1 : w1.heap[l]? = some (.loop r) := s1.fr.oth _ _ hrl rfl
        refine ⟨_, run_beginRound hl1 hst, ?_⟩
        have hlp1 : st1.hp.lp = none := s1.lp
        have rh1 : RH E1 st1.hp (w1.putObj l (.loop { r with state := .busy })) := RH.shut (o' := .loop r) (by rw [← hlp1]; exact r1.rh) hl1 rfl (fun _ _ e => by rw [hlp1] at e; cases e)
        refine hrec d.body st1 (some l) D1 E1 a1 _ _ ⟨rh1, r1.defers, r1.size, r1.env⟩ (fun l' hl' => by injection hl' with hl'; subst hl'; exact ⟨_, World.putObj_heap_same (Array.getElem?_eq_some_iff.1 hl1).1⟩)
          (Tree.All_mono (fun q hq D2 E2 a2 w2 r2 s2 z2 _ => ?_) (Tree.All_bind hq))
        obtain ⟨x2, st2⟩ := q
        cases x2 with
        | exit i => exact hq.elim
        | ret => exact hq.elim
        | normal =>
          injection (show (Tree.leaf (A.one (.lit (.bool true)), { st2.hp with lp := h.lp })).run = some (v, h') from congrArg some hq) with e
          injection e with e1 e2
          subst e1; subst e2
          have hl2 : w2.heap[l]? = some (.loop { r with state := .busy }) := s2.fr.oth _ _ (World.putObj_heap_same (Array.getElem?_eq_some_iff.1 hl1).1) rfl
          have hend := run_endRound (P := P) none hl2
          have hre : ({ ({ r with state := .busy } : Loop) with state := if (none : Option Code).isNone then .ready else .done, pending := none } : Loop) = r := by
            cases r; simp only at hst hpe; subst hst; subst hpe; rfl
          rw [hre] at hend
          have frw : Fr E h.next st2.hp.low w E2 (w2.putObj l (.loop r)) := Fr.round s1.fr s2.fr s1.next s2.low hl1
          refine ⟨_, _, hend, _, E2, rfl, ⟨rfl, rfl⟩, ⟨?_, frw, Nat.le_trans s1.next s2.next, Nat.le_trans s2.low s1.low, s2.globs.trans s1.globs, rfl⟩⟩
          have hlp2 : st2.hp.lp = none := s2.lp.trans hlp1
          refine RH.shut (h := { st2.hp with lp := h.lp }) (o' := .loop { r with state := .busy }) ?_ hl2 rfl (rh.lpStep frw.ext frw.oth)
          have := r2.rh
          exact ⟨this.nlim, this.dom, this.lt, this.blk, this.inj, this.glob, fun _ _ e => by cases e⟩
    · cases hr
  · cases hr

/-! ### Leaving a function -/
/-- the marks' blocks are shut, and nothing else has turned -/
def Gone (B : Nat) (w w' : World) : Prop := w'.os = w.os ∧ w'.tape = w.tape ∧ w'.output = w.output ∧ w'.heap.size = w.heap.size ∧ ∀ k, w'.heap[k]? = w.heap[k]? ∨ (B ≤ k ∧ ∃ x, w.heap[k]? = some (.deferred x))
theorem leaves_ok {fn : Func} {tmps : Array Value} {T : Ending → World → Prop} {B : Nat} : ∀ {l : List Deferred} {w : World}, MarksOk B w l → (∀ w', Gone B w w' → LeavesIn Fence.wide 0 P fn tmps T [] .returning w') → LeavesInM Fence.wide 0 P fn tmps T l .returning w
  | [], w, _, h => h w ⟨rfl, rfl, rfl, rfl, fun _ => .inl rfl⟩
  | d :: l, w, ⟨⟨k, e, hk, hd, hn⟩, hl⟩, h => by
    subst e
    refine ⟨by simp, .inl ⟨_, _, rfl, run_takeDeferred hd, leaves_ok (?_ : MarksOk B (w.putObj k (.deferred none)) l) fun w' hg => h w' ?_⟩⟩
    · revert hn hl
      clear h
      induction l with
      | nil => exact fun _ _ => trivial
      | cons d' l ih =>
        rintro hn ⟨⟨k', e', hk', hd', hn'⟩, hl'⟩
        refine ⟨⟨k', e', hk', (World.putObj_heap_other fun e => ?_).trans hd', hn'⟩, ih (fun d hd => hn d (by simp [hd])) hl'⟩
        subst e
        exact hn d' (by simp) (by rw [e'])
    · obtain ⟨h1, h2, h3, h4, h5⟩ := hg
      refine ⟨h1, h2, h3, by rw [h4, World.putObj_size], fun j => ?_⟩
      by_cases e : j = k
      · subst e; exact .inr ⟨hk, _, hd⟩
      · rcases h5 j with h6 | ⟨h6, x, h7⟩
        · exact .inl (h6.trans (World.putObj_heap_other e))
        · exact .inr ⟨h6, x, by rw [← h7, World.putObj_heap_other e]⟩
theorem Gone.same {B : Nat} {w w' : World} (g : Gone B w w') {k : Nat} {o : Obj} (hk : w.heap[k]? = some o) (ho : ∀ x, o ≠ .deferred x) : w'.heap[k]? = some o := by
  rcases g.2.2.2.2 k with h | ⟨_, x, h⟩
  · exact h.trans hk
  · rw [hk] at h; injection h with h; exact absurd h (ho x)
theorem Gone.rh {B : Nat} {E : Env} {h : Hp} {w w' : World} (g : Gone B w w') (r : RH E h w) : RH E h w' where
  nlim := r.nlim
  dom := r.dom
  lt := fun id p hp => by rw [g.2.2.2.1]; exact r.lt id p hp
  blk := fun id b hb => by
    obtain ⟨p, hp, hi⟩ := r.blk id b hb
    rcases hi with ⟨arr, fz, ⟨ty, h1, ht⟩, h2⟩ | ⟨es, l, h0, hro, h1, h2⟩
    · exact ⟨p, hp, .inl ⟨arr, fz, ⟨ty, g.same h1 (fun x e => by cases e), ht⟩, h2⟩⟩
    · exact ⟨p, hp, .inr ⟨es, l, h0, hro, g.same h1 (fun x e => by cases e), h2⟩⟩
  inj := r.inj
  glob := r.glob
  lp := fun id d hd => by
    obtain ⟨p, hp, q, h1, h2⟩ := r.lp id d hd
    exact ⟨p, hp, q, g.same h1 (fun x e => by cases e), h2⟩
theorem Gone.fr {E E' : Env} {n lo : Nat} {w w1 w2 : World} (g : Gone w.heap.size w1 w2) (f : Fr E n lo w E' w1) : Fr E n lo w E' w2 where
  ext := f.ext
  os := g.1.trans f.os
  tape := g.2.1.trans f.tape
  output := g.2.2.1.trans f.output
  size := by rw [g.2.2.2.1]; exact f.size
  keep := fun b hb hno => by
    rcases g.2.2.2.2 b with h | ⟨h, _⟩
    · exact h.trans (f.keep b hb hno)
    · omega
  new := f.new
  oth := fun b o hb ho => by
    rcases g.2.2.2.2 b with h | ⟨h, _⟩
    · exact h.trans (f.oth b o hb ho)
    · have := (Array.getElem?_eq_some_iff.1 hb).1; omega

theorem funS_ok (hT : TabOk P T) {rec : Code → St → Tree (X × St)} (hrec : RecOk P rec) : EvfOk P (evFunS P T W rec) := by
  intro f args h v h' hr E w vals rh hargs
  unfold evFunS at hr
  split at hr
  · rename_i hge
    have hge := Nat.le_of_ble_eq_true hge
    refine ⟨fun hlt => absurd hlt (Nat.not_lt.2 hge), fun id l s hf hE => ?_⟩
    rw [show f - yieldBase = id from by rw [hf]; exact Nat.add_sub_cancel_left _ _] at hr
    exact round_ok hrec hr rh hargs hE
  · rename_i hge
    have hge : ¬ yieldBase ≤ f := fun h => by rw [Nat.ble_eq_true_of_le h] at hge; cases hge
    refine ⟨fun _ => ?_, fun id l s hf _ => absurd (hf ▸ Nat.le_add_right _ _) hge⟩
    split at hr
    · rename_i s hs
      exact hT f s hs args h v h' hr E w vals rh hargs
    · split at hr
      · rename_i fn hfn
        split at hr
        · rename_i c hc
          split at hr
          · rename_i hsz
            rw [Bool.and_eq_true] at hsz
            have hn := Nat.le_of_ble_eq_true hsz.1
            have hl := Nat.le_of_ble_eq_true hsz.2
            obtain ⟨⟨fl, v0, h0⟩, hj, hr⟩ := Tree.bind_some hr
            simp only [Tree.run, Option.some.injEq, Prod.mk.injEq] at hr
            obtain ⟨rfl, rfl⟩ := hr
            have hj : (((rec c { size := fn.ntmps, env := initEnv 0 args .nil, hp := { h with low := h.next }, wide := (W f).1, keep := (W f).2 }).bind (exitS P fn.results.toList h)).join sameS).run = some (fl, v0, h0) := hj
            have hits : ((rec c { size := fn.ntmps, env := initEnv 0 args .nil, hp := { h with low := h.next }, wide := (W f).1, keep := (W f).2 }).bind (exitS P fn.results.toList h)).Hits (LeaveIs h) :=
              Tree.hits_bind (fun p => by
                unfold exitS
                split
                · trivial
                · exact Tree.hits_bind (p := LeaveIs h) (f := fun a => Tree.leaf (leaveS h a p.2.hp)) (fun a => leaveS_is h a p.2.hp) _) _
            have hall := Tree.All_bind (Tree.join_leave (Tree.join_hits hits hj) hj)
            have hlen := hargs.length
            refine callsIn_wide.1 (callsIn_of_wp_marks (n := 0) hfn hc trivial ?_)
            have r0 : R [] E { size := fn.ntmps, env := initEnv 0 args .nil, hp := { h with low := h.next }, wide := (W f).1, keep := (W f).2 } { tmps := vals.toArray ++ Array.replicate (fn.ntmps - vals.toArray.size) undef, defers := [] } w := by
              refine ⟨rh.low _, rfl, by simp; omega, fun t y hy => ?_⟩
              rcases initEnv_get (by omega) hy with ⟨j, e, hj⟩ | h0
              · rw [Nat.zero_add] at e; subst e
                obtain ⟨z, hz, hzi⟩ := hargs.get t y hj
                have : (vals.toArray ++ Array.replicate (fn.ntmps - vals.toArray.size) undef).getD t undef = z := by
                  have ht : t < vals.length := (List.getElem?_eq_some_iff.1 hz).1
                  simp only [Array.getD_eq_getD_getElem?]
                  rw [Array.getElem?_append_left (by simpa using ht)]
                  simp [hz]
                simp only [this]; exact hzi
              · rw [Tr.get_nil] at h0; cases h0
            refine hrec c _ none [] E _ w _ r0 (fun l hl => by cases hl) (Tree.All_mono (fun p hp D' E' a' w' r' s' _ m' => ?_) hall)
            obtain ⟨u, hu, hue⟩ := Tree.All_run hp
            subst hue
            obtain ⟨hne, va, hva, e⟩ := exitS_some hu
            obtain ⟨x, st'⟩ := p
            obtain ⟨l, hD, hm⟩ := m'
            rw [List.append_nil] at hD
            subst hD
            have fin : LeavesInM Fence.wide 0 P fn a'.tmps (fun e w' => ∃ x E', e = .returned x ∧ v0.Is E' x ∧ Stp E h w E' h0 w') a'.defers .returning w' := by
              rw [r'.defers]
              refine leaves_ok hm fun w2 hg => ?_
              have r2 : R D' E' st' a' w2 := ⟨hg.rh r'.rh, r'.defers, r'.size, r'.env⟩
              have s2 : Stp E { h with low := h.next } w E' st'.hp w2 := ⟨hg.rh r'.rh, hg.fr s'.fr, s'.next, s'.low, s'.globs, s'.lp⟩
              obtain ⟨y, hy, hyi⟩ := resultA_ok r2 hva
              obtain ⟨_, E2, h2, h3⟩ := leave_ok rh hyi s2 e
              exact ⟨y, hy, y, E2, rfl, h2, h3⟩
            cases x with
            | exit i => exact absurd rfl (hne i)
            | normal => exact fin
            | ret => exact fin
          · cases hr
        · cases hr
      · cases hr

theorem code_ok (hT : TabOk P T) (hno : NoOwn P) (hm : P.follows .mixedOrders = true) : ∀ n, RecOk P (evCode P T W n) ∧ LoopOk P n (evCode P T W n)
  | 0 => ⟨fun _ _ _ _ _ _ _ _ _ _ h => h.elim, fun _ _ _ _ _ _ _ _ _ _ h => h.elim⟩
  | n + 1 => let ih := code_ok hT hno hm n
    ⟨codeS_ok (funS_ok hT ih.1) hno hm ih.1 ih.2, loopS_ok (evf := evFunS P T W (evCode P T W n)) ih.1 ih.2⟩

/-- the evaluator's word on a function holds of every run -/
theorem fun_ok (hT : TabOk P T) (hno : NoOwn P) (hm : P.follows .mixedOrders = true) (n : Nat) : EvfOk P (evFun P T W n) := funS_ok hT (code_ok hT hno hm n).1

theorem tab_none : TabOk P fun _ => none := fun f s h => by cases h
end
end Go.Ev
