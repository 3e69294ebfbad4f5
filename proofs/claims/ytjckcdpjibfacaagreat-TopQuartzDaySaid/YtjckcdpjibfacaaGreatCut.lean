/- Behind and ahead of loops: a function cut at its loops. Conditions: none. -/
import Derived.Test.YtjckcdpjibfacaaGreatEvRun
namespace Go.Ev
open Go
def oldC (n : Nat) : C → Bool
 | .lit _ => true
 | .any => true
 | .fb _ _ => true
 | .ptr id _ _ _ => Nat.blt id n
 | .sl _ id _ _ _ _ => Nat.blt id n
 | .fn _ caps => caps.all fun c => Nat.blt c.1 n
 | .yld id => Nat.blt id n
 | .mp id => Nat.blt id n
 | .bd _ id _ _ _ => Nat.blt id n
def oldA (n : Nat) : A → Bool
 | .one c => oldC n c
 | .agg cs => cs.all (oldC n)
 | .tup vs => vs.all fun v => v.2.all (oldC n)
section
variable {E E' : Env} {n : Nat} (hE : ∀ id p, id < n → E' id = some p → E id = some p)
include hE
theorem oldPtr {c : Nat × Nat × Nat × Nat} {x : Value} (hc : Nat.blt c.1 n = true) : ptrIs E' c x → ptrIs E c x
 | ⟨b, s, he, hx⟩ => ⟨b, s, hE _ _ (by simpa [Nat.blt_eq] using hc) he, hx⟩
theorem oldPtrs : ∀ {cs : List (Nat × Nat × Nat × Nat)} {vs : List Value}, (cs.all fun c => Nat.blt c.1 n) = true → All2 (ptrIs E') cs vs → All2 (ptrIs E) cs vs
 | [], [], _, _ => trivial
 | c :: cs, v :: vs, h, ha => by
  rw [List.all_cons, Bool.and_eq_true] at h
  exact ⟨oldPtr hE h.1 ha.1, oldPtrs h.2 ha.2⟩
 | [], _ :: _, _, ha => ha.elim
 | _ :: _, [], _, ha => ha.elim
theorem oldC_is {c : C} {x : Value} (ho : oldC n c = true) (h : c.Is E' x) : c.Is E x := by
 cases c with
 | lit v => exact h
 | ptr id k m j => exact oldPtr hE ho h
 | sl own id k m j n' =>
  rcases h with ⟨b, s, o, cap, he, r⟩ | h
  ·exact .inl ⟨b, s, o, cap, hE _ _ (by simpa [oldC, Nat.blt_eq] using ho) he, r⟩
  ·exact .inr h
 | fn f caps => obtain ⟨vs, hx, ha⟩ := h; exact ⟨vs, hx, oldPtrs hE ho ha⟩
 | yld id => obtain ⟨b, s, he, hx⟩ := h; exact ⟨b, s, hE _ _ (by simpa [oldC, Nat.blt_eq] using ho) he, hx⟩
 | fb f ls => exact h
 | bd f id k m j => obtain ⟨v, hx, hp⟩ := h; exact ⟨v, hx, oldPtr hE ho hp⟩
 | mp id => obtain ⟨b, s, he, hx⟩ := h; exact ⟨b, s, hE _ _ (by simpa [oldC, Nat.blt_eq] using ho) he, hx⟩
 | any => exact h
theorem oldCs_is : ∀ {cs : List C} {vs : List Value}, cs.all (oldC n) = true → All2 (C.Is E') cs vs → All2 (C.Is E) cs vs
 | [], [], _, _ => trivial
 | c :: cs, v :: vs, h, ha => by
  rw [List.all_cons, Bool.and_eq_true] at h
  exact ⟨oldC_is hE h.1 ha.1, oldCs_is h.2 ha.2⟩
 | [], _ :: _, _, ha => ha.elim
 | _ :: _, [], _, ha => ha.elim
theorem oldComp_is {c : Bool × List C} {x : Value} (ho : c.2.all (oldC n) = true) (h : compIs E' c x) : compIs E c x := by
 obtain ⟨b, cs⟩ := c
 cases b with
 | false =>
  obtain ⟨c, e, hh⟩ := h
  subst e
  exact ⟨c, rfl, oldC_is hE (by simpa using ho) hh⟩
 | true => obtain ⟨l, e, hh⟩ := h; exact ⟨l, e, oldCs_is hE ho hh⟩
theorem oldComps_is : ∀ {cs : List (Bool × List C)} {vs : List Value}, (cs.all fun v => v.2.all (oldC n)) = true → All2 (compIs E') cs vs → All2 (compIs E) cs vs
 | [], [], _, _ => trivial
 | c :: cs, v :: vs, h, ha => by
  rw [List.all_cons, Bool.and_eq_true] at h
  exact ⟨oldComp_is hE h.1 ha.1, oldComps_is h.2 ha.2⟩
 | [], _ :: _, _, ha => ha.elim
 | _ :: _, [], _, ha => ha.elim
theorem oldA_is {a : A} {x : Value} (ho : oldA n a = true) (h : a.Is E' x) : a.Is E x := by
 cases a with
 | one c => exact oldC_is hE ho h
 | agg cs => obtain ⟨l, e, hh⟩ := h; exact ⟨l, e, oldCs_is hE ho hh⟩
 | tup vs => obtain ⟨l, e, hh⟩ := h; exact ⟨l, e, oldComps_is hE ho hh⟩
end
def pickE : List Nat → Tr A → Tr A
 | [], _ => .nil
 | t :: ts, env => (pickE ts env).set D t (env.get D t)
def pickOk (n : Nat) (env : Tr A) : List Nat → Bool
 | [] => true
 | t :: ts => Nat.blt t lim && ((match env.get D t with | some a => oldA n a | none => true) && pickOk n env ts)
theorem pickE_get {n : Nat} {env : Tr A} : ∀ {ts : List Nat} {t : Nat} {x : A}, pickOk n env ts = true → (pickE ts env).get D t = some x → env.get D t = some x ∧ oldA n x = true
 | [], t, x, _, h => by rw [show pickE [] env = Tr.nil from rfl, Tr.get_nil] at h; cases h
 | t0 :: ts, t, x, hok, h => by
  simp only [pickOk, Bool.and_eq_true, Nat.blt_eq] at hok
  simp only [pickE] at h
  rw [Tr.get_set_D _ _ _ _ hok.1] at h
  split at h
  ·rename_i e; subst e
   have h2 := hok.2.1
   rw [h] at h2
   exact ⟨h, h2⟩
  ·exact pickE_get hok.2.2 h
def back (slots : List Nat) (st st2 : St) : Option St := match Nat.beq st2.hp.low st.hp.next && pickOk st.hp.next st2.env slots with
 | true => some { st with env := pickE slots st2.env }
 | false => none
theorem back_ok {slots : List Nat} {st st2 st' : St} (hb : back slots st st2 = some st') {ds' : List Deferred} {E E2 : Env} {a2 : Act} {w w2 : World} (rh : RH E st.hp w) (r2 : R ds' E2 st2 a2 w2)
  (s : Stp E { st.hp with low := st.hp.next } w E2 st2.hp w2) (hz : st2.size = st.size) : R ds' E st' a2 w2 ∧ Stp E st.hp w E st.hp w2 ∧ st'.hp = st.hp ∧ st'.size = st.size := by
 unfold back at hb
 split at hb
 ·rename_i hc
  rw [Bool.and_eq_true] at hc
  have hlow := Nat.eq_of_beq_eq_true hc.1
  injection hb with hb; subst hb
  have hs : Stp E st.hp w E st.hp w2 := Stp.forget rh s.fr (by rw [hlow]; exact Nat.le_refl _)
  have hold : ∀ id p, id < st.hp.next → E2 id = some p → E id = some p := fun id p hid hp => by
   rcases s.fr.new id p hp with h | ⟨h, _⟩
   ·exact h
   ·have h : st.hp.next ≤ id := h
    omega
  refine ⟨⟨hs.rh, r2.defers, by rw [r2.size, hz], fun t x hx => ?_⟩, hs, rfl, rfl⟩
  obtain ⟨h1, h2⟩ := pickE_get hc.2 hx
  exact oldA_is hold h2 (r2.env t x h1)
 ·cases hb
inductive O where
 | done (x : X) (st : St)
 | stop (p : List Bool) (st : St)
def O.push (d : Bool) : O → O
 | .done x st => .done x st
 | .stop p st => .stop (d :: p) st
def inBlk (id : Nat) : O → O
 | .done (.exit i) st => match Nat.beq i id with
  | true => .done .normal st
  | false => .done (.exit i) st
 | o => o
def nthLoop : Code → List Bool → Code
 | .seq a b, d :: p => match d with | false => nthLoop a p | true => nthLoop b p
 | .cond _ a b, d :: p => match d with | false => nthLoop a p | true => nthLoop b p
 | .block _ c, p => nthLoop c p
 | .scope c, p => nthLoop c p
 | .loop c, _ => c
 | _, _ => .skip
def loopsN : Code → Nat
 | .seq a b => loopsN a + loopsN b
 | .cond _ a b => loopsN a + loopsN b
 | .block _ c => loopsN c
 | .scope c => loopsN c
 | .loop _ => 1
 | _ => 0
def pathOf : Code → Nat → List Bool
 | .seq a b, i => match Nat.blt i (loopsN a) with | true => false :: pathOf a i | false => true :: pathOf b (i - loopsN a)
 | .cond _ a b, i => match Nat.blt i (loopsN a) with | true => false :: pathOf a i | false => true :: pathOf b (i - loopsN a)
 | .block _ c, i => pathOf c i
 | .scope c, i => pathOf c i
 | _, _ => []
section
variable (rec : Code → St → Tree (X × St))
def evB : Code → St → Tree O
 | .seq a b, st => (evB a st).bind fun o => match o with
  | .done .normal st' => (evB b st').bind fun o => .leaf (o.push true)
  | o => .leaf (o.push false)
 | .cond c a b, st => match st.ρ c with
  | some (.one (.lit (.bool t))) => .node t ((evB a st).bind fun o => .leaf (o.push false)) ((evB b st).bind fun o => .leaf (o.push true))
  | _ => .fail 90
 | .block id c, st => (evB c st).bind fun o => .leaf (inBlk id o)
 | .scope c, st => evB c st
 | .loop _, st => .leaf (.stop [] st)
 | c, st => (rec c st).bind fun p => .leaf (.done p.1 p.2)
def evA (c : Code) (st : St) : Tree O := (rec c st).bind fun p => .leaf (.done p.1 p.2)
def evR (cut : Bool) : Code → List Bool → X → St → Tree O
 | .seq a b, d :: p, x, st => match d with
  | false => (evR cut a p x st).bind fun o => match o with
   | .done .normal st' => ((match cut with | true => evB rec b st' | false => evA rec b st')).bind fun o => .leaf (o.push true)
   | o => .leaf (o.push false)
  | true => (evR cut b p x st).bind fun o => .leaf (o.push true)
 | .cond _ a b, d :: p, x, st => match d with
  | false => (evR cut a p x st).bind fun o => .leaf (o.push false)
  | true => (evR cut b p x st).bind fun o => .leaf (o.push true)
 | .block id c, p, x, st => (evR cut c p x st).bind fun o => .leaf (inBlk id o)
 | .scope c, p, x, st => evR cut c p x st
 | .loop _, _, x, st => .leaf (.done x st)
 | _, _, _, _ => .fail 301
end
section
variable {P : Program} {rec : Code → St → Tree (X × St)} {ro : Option Nat}
variable (P ro) in
def restQ : Code → List Bool → (Exit → Act → World → Prop) → Exit → Act → World → Prop
 | .seq a b, d :: p, Q => match d with
  | false => restQ a p (Exit.then (b.wpIn (G ro) 0 P Q) Q)
  | true => restQ b p Q
 | .cond _ a b, d :: p, Q => match d with
  | false => restQ a p Q
  | true => restQ b p Q
 | .block id c, p, Q => restQ c p (Exit.inBlock id Q)
 | .scope c, p, Q => restQ c p (Exit.noGoto Q)
 | .loop _, _, Q => Q
 | _, _, _ => fun _ _ _ => False
def OAfter (P : Program) (ro : Option Nat) (c : Code) (ds : List Deferred) (st : St) (E : Env) (w : World) (Q : Exit → Act → World → Prop) : O → Prop
 | .done x st' => After ds st E w Q (x, st')
 | .stop p st' => ∀ ds' E' a' w', R ds' E' st' a' w' → Stp E st.hp w E' st'.hp w' → st'.size = st.size → Marks w ds ds' w' → (Code.loop (nthLoop c p)).wpIn (G ro) 0 P (restQ P ro c p Q) a' w'
theorem OAfter.step {c : Code} {ds ds' : List Deferred} {st st1 : St} {E E' : Env} {w w' : World} {Q : Exit → Act → World → Prop} {t : Tree O} (h : t.All (OAfter P ro c ds st E w Q)) (s : Stp E st.hp w E' st1.hp w') (hz : st1.size = st.size) (hm : Marks w ds ds' w') :
  t.All (OAfter P ro c ds' st1 E' w' Q) := Tree.All_mono (fun o hp => by
 cases o with
 | done x st' => exact fun D2 E2 a2 w2 r2 s2 hz2 m2 => hp D2 E2 a2 w2 r2 (s.trans s2) (hz2.trans hz) (Marks.trans s.fr.size s2.fr.oth hm m2)
 | stop p st' => exact fun D2 E2 a2 w2 r2 s2 hz2 m2 => hp D2 E2 a2 w2 r2 (s.trans s2) (hz2.trans hz) (Marks.trans s.fr.size s2.fr.oth hm m2)) h
theorem inBlk_ok {id : Nat} {c : Code} {ds : List Deferred} {st : St} {E : Env} {w : World} {Q : Exit → Act → World → Prop} {o : O} (h : OAfter P ro (.block id c) ds st E w Q (inBlk id o)) : OAfter P ro c ds st E w (Exit.inBlock id Q) o := by
 cases o with
 | stop p st' => exact h
 | done x st' =>
  intro ds' E' a' w' r' s' hz' m'
  cases x with
  | normal => exact h ds' E' a' w' r' s' hz' m'
  | ret => exact h ds' E' a' w' r' s' hz' m'
  | exit i =>
   cases hi : Nat.beq i id with
   | true =>
    simp only [inBlk, hi] at h
    have e := Nat.eq_of_beq_eq_true hi
    simp only [X.out, Exit.inBlock, if_pos e]
    exact h ds' E' a' w' r' s' hz' m'
   | false =>
    simp only [inBlk, hi] at h
    have hne : ¬ i = id := fun e => by subst e; simp at hi
    simp only [X.out, Exit.inBlock, if_neg hne]
    exact h ds' E' a' w' r' s' hz' m'
theorem noGoto_ok {c : Code} {ds : List Deferred} {st : St} {E : Env} {w : World} {Q : Exit → Act → World → Prop} {o : O} (h : OAfter P ro (.scope c) ds st E w Q o) : OAfter P ro c ds st E w (Exit.noGoto Q) o := by
 cases o with
 | stop p st' => exact h
 | done x st' =>
  intro ds' E' a' w' r' s' hz' m'
  have := h ds' E' a' w' r' s' hz' m'
  cases x <;> exact this
theorem seq_after (hB : ∀ {ds : List Deferred} {E : Env} {st : St} {a : Act} {w : World} {Q : Exit → Act → World → Prop}, R ds E st a w → RoAt ro w → ∀ {b : Code}, (evB rec b st).All (OAfter P ro b ds st E w Q) → b.wpIn (G ro) 0 P Q a w)
  {a' b : Code} {ds : List Deferred} {st : St} {E : Env} {w : World} {Q : Exit → Act → World → Prop} (hro : RoAt ro w) {o : O}
  (h : (match o with
   | .done .normal st' => (evB rec b st').bind fun o => .leaf (o.push true)
   | o => .leaf (o.push false)).All (OAfter P ro (.seq a' b) ds st E w Q)) : OAfter P ro a' ds st E w (Exit.then (b.wpIn (G ro) 0 P Q) Q) o := by
 cases o with
 | stop p st' => exact h
 | done x st' =>
  intro ds' E' a1 w' r' s' hz' m'
  cases x with
  | exit i => exact h ds' E' a1 w' r' s' hz' m'
  | ret => exact h ds' E' a1 w' r' s' hz' m'
  | normal =>
   refine hB r' (hro.oth s'.fr.oth) (b := b) (Tree.All_mono (fun o ho => ?_) (Tree.All_bind (OAfter.step h s' hz' m')))
   cases o with
   | done x st2 => exact ho
   | stop p st2 => exact ho
theorem evB_ok (hrec : RecOk P rec) : ∀ (c : Code) {ds : List Deferred} {E : Env} {st : St} {a : Act} {w : World} {Q : Exit → Act → World → Prop}, R ds E st a w → RoAt ro w → (evB rec c st).All (OAfter P ro c ds st E w Q) → c.wpIn (G ro) 0 P Q a w := by
 intro c
 induction c with
 | seq a b iha ihb =>
  intro ds E st act w Q r hro h
  simp only [evB] at h
  refine wpIn_seq (iha r hro (Tree.All_mono (fun o ho => ?_) (Tree.All_bind h)))
  cases o with
  | stop p st' => exact ho
  | done x st' =>
   intro ds' E' a1 w' r' s' hz' m'
   cases x with
   | exit i => exact ho ds' E' a1 w' r' s' hz' m'
   | ret => exact ho ds' E' a1 w' r' s' hz' m'
   | normal =>
    refine ihb r' (hro.oth s'.fr.oth) (Tree.All_mono (fun o ho => ?_) (Tree.All_bind (OAfter.step ho s' hz' m')))
    cases o with
    | done x st2 => exact ho
    | stop p st2 => exact ho
 | cond co a b iha ihb =>
  intro ds E st act w Q r hro h
  simp only [evB] at h
  split at h
  ·rename_i t ht
   obtain ⟨hv, _⟩ := r.fits [co] co (by simp) _ ht
   cases t with
   | true =>
    refine wpIn_cond_true hv (iha r hro (Tree.All_mono (fun o ho => ?_) (Tree.All_bind h)))
    cases o with
    | done x st2 => exact ho
    | stop p st2 => exact ho
   | false =>
    refine wpIn_cond_false hv (ihb r hro (Tree.All_mono (fun o ho => ?_) (Tree.All_bind h)))
    cases o with
    | done x st2 => exact ho
    | stop p st2 => exact ho
  ·exact h.elim
 | block id c ih =>
  intro ds E st act w Q r hro h
  simp only [evB] at h
  exact wpIn_block (ih r hro (Tree.All_mono (fun o ho => inBlk_ok ho) (Tree.All_bind h)))
 | scope c ih =>
  intro ds E st act w Q r hro h
  exact scope_straightG (ih r hro (Tree.All_mono (fun o ho => noGoto_ok ho) h))
 | loop c _ =>
  intro ds E st act w Q r hro h
  exact h ds E act w r (Stp.refl r.rh) rfl (Marks.refl _ _ _)
 | _ =>
  intro ds E st act w Q r hro h
  simp only [evB] at h
  exact hrec _ st ro ds E act w Q r hro (Tree.All_bind h)
theorem evR_ok (hrec : RecOk P rec) {cut : Bool} : ∀ (c : Code) {p : List Bool} {x : X} {ds : List Deferred} {E : Env} {st : St} {a : Act} {w : World} {Q : Exit → Act → World → Prop}, R ds E st a w → RoAt ro w → (evR rec cut c p x st).All (OAfter P ro c ds st E w Q) → restQ P ro c p Q x.out a w := by
 intro c
 induction c with
 | seq a b iha ihb =>
  intro p x ds E st act w Q r hro h
  cases p with
  | nil => exact h.elim
  | cons d p =>
   cases d with
   | false =>
    simp only [evR] at h
    refine iha r hro (Tree.All_mono (fun o ho => ?_) (Tree.All_bind h))
    cases o with
    | stop p st' => exact ho
    | done x st' =>
     intro ds' E' a1 w' r' s' hz' m'
     cases x with
     | exit i => exact ho ds' E' a1 w' r' s' hz' m'
     | ret => exact ho ds' E' a1 w' r' s' hz' m'
     | normal =>
      cases cut with
      | true =>
       refine evB_ok hrec b r' (hro.oth s'.fr.oth) (Tree.All_mono (fun o ho => ?_) (Tree.All_bind (OAfter.step ho s' hz' m')))
       cases o with
       | done x st2 => exact ho
       | stop p st2 => exact ho
      | false =>
       refine hrec b _ _ _ _ _ _ _ r' (hro.oth s'.fr.oth) (Tree.All_mono (fun o ho => ?_) (Tree.All_bind (Tree.All_bind (OAfter.step ho s' hz' m'))))
       exact ho
   | true =>
    simp only [evR] at h
    refine ihb r hro (Tree.All_mono (fun o ho => ?_) (Tree.All_bind h))
    cases o with
    | done x st2 => exact ho
    | stop p st2 => exact ho
 | cond co a b iha ihb =>
  intro p x ds E st act w Q r hro h
  cases p with
  | nil => exact h.elim
  | cons d p =>
   cases d with
   | false =>
    simp only [evR] at h
    refine iha r hro (Tree.All_mono (fun o ho => ?_) (Tree.All_bind h))
    cases o with
    | done x st2 => exact ho
    | stop p st2 => exact ho
   | true =>
    simp only [evR] at h
    refine ihb r hro (Tree.All_mono (fun o ho => ?_) (Tree.All_bind h))
    cases o with
    | done x st2 => exact ho
    | stop p st2 => exact ho
 | block id c ih =>
  intro p x ds E st act w Q r hro h
  simp only [evR] at h
  exact ih r hro (Tree.All_mono (fun o ho => inBlk_ok ho) (Tree.All_bind h))
 | scope c ih =>
  intro p x ds E st act w Q r hro h
  exact ih r hro (Tree.All_mono (fun o ho => noGoto_ok ho) h)
 | loop c _ =>
  intro p x ds E st act w Q r hro h
  exact h ds E act w r (Stp.refl r.rh) rfl (Marks.refl _ _ _)
 | _ =>
  intro p x ds E st act w Q r hro h
  exact h.elim
def SumAt (P : Program) (c : Code) (st : St) (q : X × St) : Prop := ∀ (ro : Option Nat) (ds : List Deferred) (E : Env) (a : Act) (w : World) (Q : Exit → Act → World → Prop), R ds E st a w → RoAt ro w →
 After ds st E w Q q → (Code.loop c).wpIn (G ro) 0 P Q a w
variable (rec) in
def roundT (slots slotsX : List Nat) (c : Code) (st : St) : Tree (X × St) := (rec c { st with hp := { st.hp with low := st.hp.next } }).bind fun p => match back (match p.1 with | .normal => slots | _ => slotsX) st p.2 with
 | some st' => .leaf (p.1, st')
 | none => .fail 310
theorem sum_loop (hrec : RecOk P rec) {c : Code} {slots slotsX : List Nat} {ι : Type} (head : ι → St) (μ : ι → Nat) (good : ι → Prop) (fin : ι → X × St) (stepT : ι → Tree (X × St)) (hstep : ∀ x, good x → roundT rec slots slotsX c (head x) = stepT x)
  (hdec : ∀ x, good x → (stepT x).All fun p => match p.1 with
   | .normal => ∃ y, p.2 = head y ∧ good y ∧ μ y < μ x ∧ fin y = fin x
   | _ => p = fin x) : ∀ (x : ι), good x → SumAt P c (head x) (fin x) := by
 have key : ∀ (m : Nat) (x : ι), μ x < m → good x → ∀ (ro : Option Nat) (ds : List Deferred) (E : Env) (a : Act) (w : World) (Q : Exit → Act → World → Prop), R ds E (head x) a w → RoAt ro w →
   After ds (head x) E w Q (fin x) → Code.roundsIn (G ro) 0 P c Q m a w := by
  intro m
  induction m with
  | zero => intro x hm; omega
  | succ m ih =>
   intro x hm hx ro ds E a w Q r hro hq
   rw [roundsIn_succ]
   have r0 : R ds E { head x with hp := { (head x).hp with low := (head x).hp.next } } a w := ⟨r.rh.low _, r.defers, r.size, r.env⟩
   have hall := hdec x hx
   rw [← hstep x hx] at hall
   refine hrec c _ ro ds E a w _ r0 hro (Tree.All_mono (fun p hp ds' E2 a2 w2 r2 s2 hz2 m2 => ?_) (Tree.All_bind hall))
   split at hp
   ·rename_i st' hb
    obtain ⟨r3, s3, h3, h4⟩ := back_ok hb r.rh r2 s2 hz2
    obtain ⟨x1, st1⟩ := p
    cases x1 with
    | normal =>
     obtain ⟨y, e, hy, hlt, hf⟩ := hp
     simp only at e
     subst e
     refine ih y (by omega) hy ro ds' E a2 w2 Q r3 (hro.oth s3.fr.oth) ?_
     intro ds4 E4 a4 w4 r4 s4 hz4 m4
     rw [hf] at r4 s4 hz4
     have h3' : (head y).hp = (head x).hp := h3
     have h4' : (head y).size = (head x).size := h4
     rw [h3'] at s4
     have := hq ds4 E4 a4 w4 r4 (s3.trans s4) (hz4.trans h4') (Marks.trans s3.fr.size s4.fr.oth m2 m4)
     rw [hf]; exact this
    | exit i =>
     have e : (X.exit i, st') = fin x := hp
     have := hq ds' E a2 w2 (by rw [← e]; exact r3) (by rw [← e, h3]; exact s3) (by rw [← e]; exact h4) m2
     rw [← e] at this
     exact this
    | ret =>
     have e : (X.ret, st') = fin x := hp
     have := hq ds' E a2 w2 (by rw [← e]; exact r3) (by rw [← e, h3]; exact s3) (by rw [← e]; exact h4) m2
     rw [← e] at this
     exact this
   ·exact hp.elim
 intro x hx ro ds E a w Q r hro hq
 exact wpIn_loop_rounds (μ x + 1) (key (μ x + 1) x (Nat.lt_succ_self _) hx ro ds E a w Q r hro hq)
theorem pickE_sub {env : Tr A} : ∀ {ts : List Nat} {t : Nat} {x : A}, (ts.all fun t => Nat.blt t lim) = true → (pickE ts env).get D t = some x → env.get D t = some x
 | [], t, x, _, h => by rw [show pickE [] env = Tr.nil from rfl, Tr.get_nil] at h; cases h
 | t0 :: ts, t, x, hok, h => by
  rw [List.all_cons, Bool.and_eq_true] at hok
  have hlt : t0 < lim := by simpa [Nat.blt_eq] using hok.1
  rw [show pickE (t0 :: ts) env = (pickE ts env).set D t0 (env.get D t0) from rfl, Tr.get_set_D _ _ _ _ hlt] at h
  split at h
  ·rename_i e; subst e; exact h
  ·exact pickE_sub hok.2 h
variable (rec) in
def memT (slots : List Nat) (c : Code) (st : St) : Tree (X × St) := (rec c st).bind fun p => match slots.all fun t => Nat.blt t lim with
 | true => .leaf (p.1, { p.2 with env := pickE slots p.2.env })
 | false => .fail 312
theorem sum_mem (hrec : RecOk P rec) {c : Code} {slots : List Nat} {ι : Type} (head : ι → St) (μ : ι → Nat) (good : ι → Prop) (fin : ι → X × St)
  (hdec : ∀ x, good x → (memT rec slots c (head x)).All fun p => match p.1 with
   | .normal => ∃ y, p.2 = head y ∧ good y ∧ μ y < μ x ∧ fin y = fin x
   | _ => p = fin x) : ∀ (x : ι), good x → SumAt P c (head x) (fin x) := by
 have key : ∀ (m : Nat) (x : ι), μ x < m → good x → ∀ (ro : Option Nat) (ds : List Deferred) (E : Env) (a : Act) (w : World) (Q : Exit → Act → World → Prop), R ds E (head x) a w → RoAt ro w →
   After ds (head x) E w Q (fin x) → Code.roundsIn (G ro) 0 P c Q m a w := by
  intro m
  induction m with
  | zero => intro x hm; omega
  | succ m ih =>
   intro x hm hx ro ds E a w Q r hro hq
   rw [roundsIn_succ]
   refine hrec c _ ro ds E a w _ r hro (Tree.All_mono (fun p hp ds' E2 a2 w2 r2 s2 hz2 m2 => ?_) (Tree.All_bind (hdec x hx)))
   split at hp
   ·rename_i hsl
    have r3 : R ds' E2 { p.2 with env := pickE slots p.2.env } a2 w2 := ⟨r2.rh, r2.defers, r2.size, fun t x hx => r2.env t x (pickE_sub hsl hx)⟩
    have s3 : Stp E (head x).hp w E2 ({ p.2 with env := pickE slots p.2.env } : St).hp w2 := s2
    have z3 : ({ p.2 with env := pickE slots p.2.env } : St).size = (head x).size := hz2
    obtain ⟨x1, st1⟩ := p
    generalize ({ st1 with env := pickE slots st1.env } : St) = st' at hp r3 s3 z3
    cases x1 with
    | normal =>
     obtain ⟨y, e, hy, hlt, hf⟩ := hp
     simp only at e
     subst e
     refine ih y (by omega) hy ro ds' E2 a2 w2 Q r3 (hro.oth s3.fr.oth) ?_
     intro ds4 E4 a4 w4 r4 s4 hz4 m4
     rw [hf] at r4 s4 hz4
     have := hq ds4 E4 a4 w4 r4 (s3.trans s4) (hz4.trans z3) (Marks.trans s3.fr.size s4.fr.oth m2 m4)
     rw [hf]; exact this
    | exit i =>
     have e : (X.exit i, st') = fin x := hp
     have := hq ds' E2 a2 w2 (by rw [← e]; exact r3) (by rw [← e]; exact s3) (by rw [← e]; exact z3) m2
     rw [← e] at this
     exact this
    | ret =>
     have e : (X.ret, st') = fin x := hp
     have := hq ds' E2 a2 w2 (by rw [← e]; exact r3) (by rw [← e]; exact s3) (by rw [← e]; exact z3) m2
     rw [← e] at this
     exact this
   ·exact hp.elim
 intro x hx ro ds E a w Q r hro hq
 exact wpIn_loop_rounds (μ x + 1) (key (μ x + 1) x (Nat.lt_succ_self _) hx ro ds E a w Q r hro hq)
def CallAt (P : Program) (f : FuncId) (args : List A) (h : Hp) (v : A) (h' : Hp) : Prop := ∀ (E : Env) (w : World) (vals : List Value), RH E h w → All2 (A.Is E) args vals →
 Calls P f vals.toArray w fun e w' => ∃ x E', e = .returned x ∧ v.Is E' x ∧ Stp E h w E' h' w'
def st0 (fn : Func) (args : List A) (h : Hp) (m : Bool × Bool) : St := { size := fn.ntmps, env := initEnv 0 args .nil, hp := { h with low := h.next }, wide := m.1, keep := m.2 }
def cutO (P : Program) (fn : Func) (h : Hp) (slots : List Nat) (o : O) : Tree ((Bool × A × Hp) ⊕ (List Bool × St)) := match o with
 | .done x st => (exitS P fn.results.toList h (x, st)).bind fun r => .leaf (.inl r)
 | .stop p st => match back slots { st with hp := { st.hp with low := st.hp.low } } { st with hp := { st.hp with low := st.hp.next } } with
  | some st' => .leaf (.inr (p, st'))
  | none => .fail 311
def CutIs (P : Program) (rec : Code → St → Tree (X × St)) (fn : Func) (c : Code) (h : Hp) (v : A) (h' : Hp) : Nat → (Bool × A × Hp) ⊕ (List Bool × St) → Prop
 | _, .inl r => r.2 = (v, h')
 | 0, .inr _ => False
 | k + 1, .inr (p, st) => ∃ (q : X × St) (slots : List Nat) (cut : Bool), SumAt P (nthLoop c p) st q ∧ q.2.size = st.size ∧ ((evR rec cut c p q.1 q.2).bind (cutO P fn h slots)).All (CutIs P rec fn c h v h' k)
theorem cut_ok {slots : List Nat} {st st' : St} (hb : back slots { st with hp := { st.hp with low := st.hp.low } } { st with hp := { st.hp with low := st.hp.next } } = some st') {ds : List Deferred} {E : Env} {a : Act} {w : World} (r : R ds E st a w) :
  R ds E st' a w ∧ st'.hp = st.hp ∧ st'.size = st.size := by
 unfold back at hb
 split at hb
 ·rename_i hc
  rw [Bool.and_eq_true] at hc
  injection hb with hb; subst hb
  exact ⟨⟨r.rh, r.defers, r.size, fun t x hx => r.env t x (pickE_get hc.2 hx).1⟩, rfl, rfl⟩
 ·cases hb
theorem call_cutT (hrec : RecOk P rec) {f : FuncId} {fn : Func} {c : Code} (hfn : P.funcs[f]? = some fn) (hc : fn.body = some c) {args : List A} (hsz : (Nat.ble args.length fn.ntmps && Nat.ble args.length lim) = true) {h : Hp} (m : Bool × Bool) {v : A} {h' : Hp} (k : Nat) (slots : List Nat) (t : Tree O)
  (hB : ∀ {ds : List Deferred} {E : Env} {a : Act} {w : World} {Q : Exit → Act → World → Prop}, R ds E (st0 fn args h m) a w → RoAt none w → t.All (OAfter P none c ds (st0 fn args h m) E w Q) → c.wpIn (G none) 0 P Q a w)
  (hall : (t.bind (cutO P fn h slots)).All (CutIs P rec fn c h v h' k)) : CallAt P f args h v h' := by
 intro E w vals rh hargs
 rw [Bool.and_eq_true] at hsz
 have hn := Nat.le_of_ble_eq_true hsz.1
 have hl := Nat.le_of_ble_eq_true hsz.2
 have hlen := hargs.length
 refine callsIn_wide.1 (callsIn_of_wp_marks (n := 0) hfn hc trivial ?_)
 have r0 : R [] E (st0 fn args h m) { tmps := vals.toArray ++ Array.replicate (fn.ntmps - vals.toArray.size) undef, defers := [] } w := by
  refine ⟨rh.low _, rfl, by simp [st0]; omega, fun t y hy => ?_⟩
  rcases initEnv_get (by omega) hy with ⟨j, e, hj⟩ | h0
  ·rw [Nat.zero_add] at e; subst e
   obtain ⟨z, hz, hzi⟩ := hargs.get t y hj
   have : (vals.toArray ++ Array.replicate (fn.ntmps - vals.toArray.size) undef).getD t undef = z := by
    have ht : t < vals.length := (List.getElem?_eq_some_iff.1 hz).1
    simp only [Array.getD_eq_getD_getElem?]
    rw [Array.getElem?_append_left (by simpa using ht)]
    simp [hz]
   simp only [this]; exact hzi
  ·rw [Tr.get_nil] at h0; cases h0
 -- an outcome of the code, or a loop
 have key : ∀ (k : Nat) (slots : List Nat) (o : O) (st1 : St) (ds1 : List Deferred) (E1 : Env) (w1 : World), Stp E (st0 fn args h m).hp w E1 st1.hp w1 → st1.size = fn.ntmps → Marks w [] ds1 w1 → (cutO P fn h slots o).All (CutIs P rec fn c h v h' k) →
   OAfter P none c ds1 st1 E1 w1 (bodyPostM Fence.wide 0 P fn (fun e w' => ∃ x E', e = .returned x ∧ v.Is E' x ∧ Stp E h w E' h' w')) o := by
  intro k
  induction k with
  | zero =>
   intro slots o st1 ds1 E1 w1 s1 hz1 m1 ho
   cases o with
   | stop p st =>
    simp only [cutO] at ho
    split at ho <;> exact ho.elim
   | done x st =>
    intro D' E' a' w' r' s' _ m'
    obtain ⟨u, hu, hue⟩ := Tree.All_run (Tree.All_bind ho)
    obtain ⟨l, hD, hm⟩ := Marks.trans s1.fr.size s'.fr.oth m1 m'
    rw [List.append_nil] at hD
    subst hD
    obtain ⟨hne, va, hva, e⟩ := exitS_some hu
    have fin : LeavesInM Fence.wide 0 P fn a'.tmps (fun e w' => ∃ x E', e = .returned x ∧ v.Is E' x ∧ Stp E h w E' h' w') a'.defers .returning w' := by
     rw [r'.defers]
     refine leaves_ok hm fun w2 hg => ?_
     have r2 : R D' E' st a' w2 := ⟨hg.rh r'.rh, r'.defers, r'.size, r'.env⟩
     have s12 := s1.trans s'
     have s2 : Stp E { h with low := h.next } w E' st.hp w2 := ⟨hg.rh r'.rh, hg.fr s12.fr, s12.next, s12.low, s12.globs, s12.lp⟩
     obtain ⟨y, hy, hyi⟩ := resultA_ok r2 hva
     obtain ⟨_, E2, h2, h3⟩ := leave_ok rh hyi s2 e
     have hue : u.2 = (v, h') := hue
     rw [hue] at h2 h3
     exact ⟨y, hy, y, E2, rfl, h2, h3⟩
    cases x with
    | exit i => exact absurd rfl (hne i)
    | normal => exact fin
    | ret => exact fin
  | succ k ih =>
   intro slots o st1 ds1 E1 w1 s1 hz1 m1 ho
   cases o with
   | done x st =>
    intro D' E' a' w' r' s' _ m'
    obtain ⟨u, hu, hue⟩ := Tree.All_run (Tree.All_bind ho)
    obtain ⟨l, hD, hm⟩ := Marks.trans s1.fr.size s'.fr.oth m1 m'
    rw [List.append_nil] at hD
    subst hD
    obtain ⟨hne, va, hva, e⟩ := exitS_some hu
    have fin : LeavesInM Fence.wide 0 P fn a'.tmps (fun e w' => ∃ x E', e = .returned x ∧ v.Is E' x ∧ Stp E h w E' h' w') a'.defers .returning w' := by
     rw [r'.defers]
     refine leaves_ok hm fun w2 hg => ?_
     have r2 : R D' E' st a' w2 := ⟨hg.rh r'.rh, r'.defers, r'.size, r'.env⟩
     have s12 := s1.trans s'
     have s2 : Stp E { h with low := h.next } w E' st.hp w2 := ⟨hg.rh r'.rh, hg.fr s12.fr, s12.next, s12.low, s12.globs, s12.lp⟩
     obtain ⟨y, hy, hyi⟩ := resultA_ok r2 hva
     obtain ⟨_, E2, h2, h3⟩ := leave_ok rh hyi s2 e
     have hue : u.2 = (v, h') := hue
     rw [hue] at h2 h3
     exact ⟨y, hy, y, E2, rfl, h2, h3⟩
    cases x with
    | exit i => exact absurd rfl (hne i)
    | normal => exact fin
    | ret => exact fin
   | stop p st =>
    intro D' E' a' w' r' s' hz' m'
    simp only [cutO] at ho
    split at ho
    ·rename_i st' hb
     obtain ⟨r3, h3, h4⟩ := cut_ok hb r'
     obtain ⟨q, slots', _, hsum, hqz, hrest⟩ := ho
     refine hsum none D' E' a' w' _ r3 (fun l hl => by cases hl) ?_
     intro D2 E2 a2 w2 r2 s2 hz2 m2
     have s2' : Stp E' st.hp w' E2 q.2.hp w2 := by rw [← h3]; exact s2
     have s13 : Stp E (st0 fn args h m).hp w E2 q.2.hp w2 := (s1.trans s').trans s2'
     refine evR_ok hrec c r2 (fun l hl => by cases hl) (Tree.All_mono (fun o ho => ?_) (Tree.All_bind hrest))
     exact ih slots' o q.2 D2 E2 w2 s13 (by rw [hqz, h4, hz', hz1]) (Marks.trans (Nat.le_trans s1.fr.size s'.fr.size) s2'.fr.oth (Marks.trans s1.fr.size s'.fr.oth m1 m') m2) ho
    ·exact ho.elim
 refine hB r0 (fun l hl => by cases hl) (Tree.All_mono (fun o ho => ?_) (Tree.All_bind hall))
 exact key k slots o _ _ _ _ (Stp.refl (rh.low _)) rfl (Marks.refl _ _ _) ho
theorem call_cut (hrec : RecOk P rec) {f : FuncId} {fn : Func} {c : Code} (hfn : P.funcs[f]? = some fn) (hc : fn.body = some c) {args : List A} (hsz : (Nat.ble args.length fn.ntmps && Nat.ble args.length lim) = true) {h : Hp} (m : Bool × Bool) {v : A} {h' : Hp} (k : Nat) (slots : List Nat)
  (hall : ((evB rec c (st0 fn args h m)).bind (cutO P fn h slots)).All (CutIs P rec fn c h v h' k)) : CallAt P f args h v h' :=
 call_cutT hrec hfn hc hsz m k slots _ (fun r hro h => evB_ok hrec c r hro h) hall
theorem call_all (hrec : RecOk P rec) {f : FuncId} {fn : Func} {c : Code} (hfn : P.funcs[f]? = some fn) (hc : fn.body = some c) {args : List A} (hsz : (Nat.ble args.length fn.ntmps && Nat.ble args.length lim) = true) {h : Hp} (m : Bool × Bool) {v : A} {h' : Hp}
  (hall : ((evA rec c (st0 fn args h m)).bind (cutO P fn h [])).All (CutIs P rec fn c h v h' 0)) : CallAt P f args h v h' :=
 call_cutT hrec hfn hc hsz m 0 [] _ (fun r hro h => hrec _ _ _ _ _ _ _ _ r hro (Tree.All_bind h)) hall
end
end Go.Ev
