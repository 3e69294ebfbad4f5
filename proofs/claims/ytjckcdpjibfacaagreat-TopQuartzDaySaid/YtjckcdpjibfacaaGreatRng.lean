/- Code that is cut at its loops over functions: what stands ahead of such a loop and what stands behind it are evaluated each by itself. Conditions: none. -/
import Derived.Test.YtjckcdpjibfacaaGreatLift
namespace Go.Ev
open Go
def nthRng : Code → List Bool → Code
 | .seq a b, d :: p => match d with | false => nthRng a p | true => nthRng b p
 | .cond _ a b, d :: p => match d with | false => nthRng a p | true => nthRng b p
 | .block _ c, p => nthRng c p
 | .scope c, p => nthRng c p
 | .rangeFunc g ps x y, _ => .rangeFunc g ps x y
 | _, _ => .skip
def rngN : Code → Nat
 | .seq a b => rngN a + rngN b
 | .cond _ a b => rngN a + rngN b
 | .block _ c => rngN c
 | .scope c => rngN c
 | .rangeFunc _ _ _ _ => 1
 | _ => 0
def pathR : Code → Nat → List Bool
 | .seq a b, i => match Nat.blt i (rngN a) with | true => false :: pathR a i | false => true :: pathR b (i - rngN a)
 | .cond _ a b, i => match Nat.blt i (rngN a) with | true => false :: pathR a i | false => true :: pathR b (i - rngN a)
 | .block _ c, i => pathR c i
 | .scope c, i => pathR c i
 | _, _ => []
section
variable (rec : Code → St → Tree (X × St))
def evBr : Code → St → Tree O
 | .seq a b, st => (evBr a st).bind fun o => match o with
  | .done .normal st' => (evBr b st').bind fun o => .leaf (o.push true)
  | o => .leaf (o.push false)
 | .cond c a b, st => match st.ρ c with
  | some (.one (.lit (.bool t))) => .node t ((evBr a st).bind fun o => .leaf (o.push false)) ((evBr b st).bind fun o => .leaf (o.push true))
  | _ => .fail 90
 | .block id c, st => (evBr c st).bind fun o => .leaf (inBlk id o)
 | .scope c, st => evBr c st
 | .rangeFunc _ _ _ _, st => .leaf (.stop [] st)
 | c, st => (rec c st).bind fun p => .leaf (.done p.1 p.2)
def evRr (cut : Bool) : Code → List Bool → X → St → Tree O
 | .seq a b, d :: p, x, st => match d with
  | false => (evRr cut a p x st).bind fun o => match o with
   | .done .normal st' => ((match cut with | true => evBr rec b st' | false => evA rec b st')).bind fun o => .leaf (o.push true)
   | o => .leaf (o.push false)
  | true => (evRr cut b p x st).bind fun o => .leaf (o.push true)
 | .cond _ a b, d :: p, x, st => match d with
  | false => (evRr cut a p x st).bind fun o => .leaf (o.push false)
  | true => (evRr cut b p x st).bind fun o => .leaf (o.push true)
 | .block id c, p, x, st => (evRr cut c p x st).bind fun o => .leaf (inBlk id o)
 | .scope c, p, x, st => evRr cut c p x st
 | .rangeFunc _ _ _ _, _, x, st => .leaf (.done x st)
 | _, _, _, _ => .fail 301
end
section
variable {P : Program} {rec : Code → St → Tree (X × St)} {ro : Option Nat}
variable (P ro) in
def restQr : Code → List Bool → (Exit → Act → World → Prop) → Exit → Act → World → Prop
 | .seq a b, d :: p, Q => match d with
  | false => restQr a p (Exit.then (b.wpIn (G ro) 0 P Q) Q)
  | true => restQr b p Q
 | .cond _ a b, d :: p, Q => match d with
  | false => restQr a p Q
  | true => restQr b p Q
 | .block id c, p, Q => restQr c p (Exit.inBlock id Q)
 | .scope c, p, Q => restQr c p (Exit.noGoto Q)
 | .rangeFunc _ _ _ _, _, Q => Q
 | _, _, _ => fun _ _ _ => False
def OAfterR (P : Program) (ro : Option Nat) (c : Code) (ds : List Deferred) (st : St) (E : Env) (w : World) (Q : Exit → Act → World → Prop) : O → Prop
 | .done x st' => After ds st E w Q (x, st')
 | .stop p st' => ∀ ds' E' a' w', R ds' E' st' a' w' → Stp E st.hp w E' st'.hp w' → st'.size = st.size → Marks w ds ds' w' → (nthRng c p).wpIn (G ro) 0 P (restQr P ro c p Q) a' w'
theorem OAfterR.step {c : Code} {ds ds' : List Deferred} {st st1 : St} {E E' : Env} {w w' : World} {Q : Exit → Act → World → Prop} {t : Tree O} (h : t.All (OAfterR P ro c ds st E w Q)) (s : Stp E st.hp w E' st1.hp w') (hz : st1.size = st.size) (hm : Marks w ds ds' w') :
  t.All (OAfterR P ro c ds' st1 E' w' Q) := Tree.All_mono (fun o hp => by
 cases o with
 | done x st' => exact fun D2 E2 a2 w2 r2 s2 hz2 m2 => hp D2 E2 a2 w2 r2 (s.trans s2) (hz2.trans hz) (Marks.trans s.fr.size s2.fr.oth hm m2)
 | stop p st' => exact fun D2 E2 a2 w2 r2 s2 hz2 m2 => hp D2 E2 a2 w2 r2 (s.trans s2) (hz2.trans hz) (Marks.trans s.fr.size s2.fr.oth hm m2)) h
theorem inBlkR_ok {id : Nat} {c : Code} {ds : List Deferred} {st : St} {E : Env} {w : World} {Q : Exit → Act → World → Prop} {o : O} (h : OAfterR P ro (.block id c) ds st E w Q (inBlk id o)) : OAfterR P ro c ds st E w (Exit.inBlock id Q) o := by
 cases o with
 | stop p st' => exact h
 | done x st' =>
  intro ds' E' a' w' r' s' hz' m'
  cases x with
  | normal => exact h ds' E' a' w' r' s' hz' m'
  | ret => exact h ds' E' a' w' r' s' hz' m'
  | exit i =>
   cases hi : Nat.beq i id with
   | true =>
    simp only [inBlk, hi] at h
    have e := Nat.eq_of_beq_eq_true hi
    simp only [X.out, Exit.inBlock, if_pos e]
    exact h ds' E' a' w' r' s' hz' m'
   | false =>
    simp only [inBlk, hi] at h
    have hne : ¬ i = id := fun e => by subst e; simp at hi
    simp only [X.out, Exit.inBlock, if_neg hne]
    exact h ds' E' a' w' r' s' hz' m'
theorem noGotoR_ok {c : Code} {ds : List Deferred} {st : St} {E : Env} {w : World} {Q : Exit → Act → World → Prop} {o : O} (h : OAfterR P ro (.scope c) ds st E w Q o) : OAfterR P ro c ds st E w (Exit.noGoto Q) o := by
 cases o with
 | stop p st' => exact h
 | done x st' =>
  intro ds' E' a' w' r' s' hz' m'
  have := h ds' E' a' w' r' s' hz' m'
  cases x <;> exact this
theorem evBr_ok (hrec : RecOk P rec) : ∀ (c : Code) {ds : List Deferred} {E : Env} {st : St} {a : Act} {w : World} {Q : Exit → Act → World → Prop}, R ds E st a w → RoAt ro w → (evBr rec c st).All (OAfterR P ro c ds st E w Q) → c.wpIn (G ro) 0 P Q a w := by
 intro c
 induction c with
 | seq a b iha ihb =>
  intro ds E st act w Q r hro h
  simp only [evBr] at h
  refine wpIn_seq (iha r hro (Tree.All_mono (fun o ho => ?_) (Tree.All_bind h)))
  cases o with
  | stop p st' => exact ho
  | done x st' =>
   intro ds' E' a1 w' r' s' hz' m'
   cases x with
   | exit i => exact ho ds' E' a1 w' r' s' hz' m'
   | ret => exact ho ds' E' a1 w' r' s' hz' m'
   | normal =>
    refine ihb r' (hro.oth s'.fr.oth) (Tree.All_mono (fun o ho => ?_) (Tree.All_bind (OAfterR.step ho s' hz' m')))
    cases o with
    | done x st2 => exact ho
    | stop p st2 => exact ho
 | cond co a b iha ihb =>
  intro ds E st act w Q r hro h
  simp only [evBr] at h
  split at h
  ·rename_i t ht
   obtain ⟨hv, _⟩ := r.fits [co] co (by simp) _ ht
   cases t with
   | true =>
    refine wpIn_cond_true hv (iha r hro (Tree.All_mono (fun o ho => ?_) (Tree.All_bind h)))
    cases o with
    | done x st2 => exact ho
    | stop p st2 => exact ho
   | false =>
    refine wpIn_cond_false hv (ihb r hro (Tree.All_mono (fun o ho => ?_) (Tree.All_bind h)))
    cases o with
    | done x st2 => exact ho
    | stop p st2 => exact ho
  ·exact h.elim
 | block id c ih =>
  intro ds E st act w Q r hro h
  simp only [evBr] at h
  exact wpIn_block (ih r hro (Tree.All_mono (fun o ho => inBlkR_ok ho) (Tree.All_bind h)))
 | scope c ih =>
  intro ds E st act w Q r hro h
  exact scope_straightG (ih r hro (Tree.All_mono (fun o ho => noGotoR_ok ho) h))
 | rangeFunc g ps x y _ _ =>
  intro ds E st act w Q r hro h
  exact h ds E act w r (Stp.refl r.rh) rfl (Marks.refl _ _ _)
 | _ =>
  intro ds E st act w Q r hro h
  simp only [evBr] at h
  exact hrec _ st ro ds E act w Q r hro (Tree.All_bind h)
theorem evRr_ok (hrec : RecOk P rec) {cut : Bool} : ∀ (c : Code) {p : List Bool} {x : X} {ds : List Deferred} {E : Env} {st : St} {a : Act} {w : World} {Q : Exit → Act → World → Prop}, R ds E st a w → RoAt ro w → (evRr rec cut c p x st).All (OAfterR P ro c ds st E w Q) → restQr P ro c p Q x.out a w := by
 intro c
 induction c with
 | seq a b iha ihb =>
  intro p x ds E st act w Q r hro h
  cases p with
  | nil => exact h.elim
  | cons d p =>
   cases d with
   | false =>
    simp only [evRr] at h
    refine iha r hro (Tree.All_mono (fun o ho => ?_) (Tree.All_bind h))
    cases o with
    | stop p st' => exact ho
    | done x st' =>
     intro ds' E' a1 w' r' s' hz' m'
     cases x with
     | exit i => exact ho ds' E' a1 w' r' s' hz' m'
     | ret => exact ho ds' E' a1 w' r' s' hz' m'
     | normal =>
      cases cut with
      | true =>
       refine evBr_ok hrec b r' (hro.oth s'.fr.oth) (Tree.All_mono (fun o ho => ?_) (Tree.All_bind (OAfterR.step ho s' hz' m')))
       cases o with
       | done x st2 => exact ho
       | stop p st2 => exact ho
      | false =>
       refine hrec b _ _ _ _ _ _ _ r' (hro.oth s'.fr.oth) (Tree.All_mono (fun o ho => ?_) (Tree.All_bind (Tree.All_bind (OAfterR.step ho s' hz' m'))))
       exact ho
   | true =>
    simp only [evRr] at h
    refine ihb r hro (Tree.All_mono (fun o ho => ?_) (Tree.All_bind h))
    cases o with
    | done x st2 => exact ho
    | stop p st2 => exact ho
 | cond co a b iha ihb =>
  intro p x ds E st act w Q r hro h
  cases p with
  | nil => exact h.elim
  | cons d p =>
   cases d with
   | false =>
    simp only [evRr] at h
    refine iha r hro (Tree.All_mono (fun o ho => ?_) (Tree.All_bind h))
    cases o with
    | done x st2 => exact ho
    | stop p st2 => exact ho
   | true =>
    simp only [evRr] at h
    refine ihb r hro (Tree.All_mono (fun o ho => ?_) (Tree.All_bind h))
    cases o with
    | done x st2 => exact ho
    | stop p st2 => exact ho
 | block id c ih =>
  intro p x ds E st act w Q r hro h
  simp only [evRr] at h
  exact ih r hro (Tree.All_mono (fun o ho => inBlkR_ok ho) (Tree.All_bind h))
 | scope c ih =>
  intro p x ds E st act w Q r hro h
  exact ih r hro (Tree.All_mono (fun o ho => noGotoR_ok ho) h)
 | rangeFunc g ps x y _ _ =>
  intro p x ds E st act w Q r hro h
  exact h ds E act w r (Stp.refl r.rh) rfl (Marks.refl _ _ _)
 | _ =>
  intro p x ds E st act w Q r hro h
  exact h.elim
end
section
variable {P : Program} {rec : Code → St → Tree (X × St)}
variable (P rec) in
def CutR (c : Code) (sB : St) (φ : X × St → Prop) : Nat → (X × St) ⊕ (List Bool × St) → Prop
 | _, .inl q => φ q
 | 0, .inr _ => False
 | k + 1, .inr (p, S) => ∃ (ψ : X × St → Prop) (cut : Bool) (slots slotsR : List Nat), ComesF P (nthRng c p) sB S ψ ∧ ∀ q, ψ q → ((evRr rec cut c p q.1 q.2).bind (canO slots slotsR sB)).All (CutR c sB φ k)
theorem comesF_cutR (hrec : RecOk P rec) {c : Code} {sB st : St} {φ : X × St → Prop} (hlow : sB.hp.low = sB.hp.next) (k : Nat) (slots slotsR : List Nat) (h : ((evBr rec c st).bind (canO slots slotsR sB)).All (CutR P rec c sB φ k)) : ComesF P c sB st φ := by
 intro ro ds0 E0 w0 ds E a w Q rh0 r s hz hm hro hq
 have fin : ∀ (slots slotsR : List Nat) (x : X) (st2 : St) (ds1 : List Deferred) (st1 : St) (E1 : Env) (w1 : World) (k : Nat), Stp E0 sB.hp w0 E1 st1.hp w1 → st1.size = sB.size → Marks w0 ds0 ds1 w1 → (canO slots slotsR sB (.done x st2)).All (CutR P rec c sB φ k) → After ds1 st1 E1 w1 Q (x, st2) := by
  intro slots slotsR x st2 ds1 st1 E1 w1 k s1 hz1 m1 ho
  simp only [canO] at ho
  split at ho
  ·rename_i st' hb
   have ho : φ (x, st') := by cases k <;> exact ho
   intro ds' E' a' w' r' s' hz' m'
   obtain ⟨E3, r3, s3, z3⟩ := canonAt_ok hb hlow rh0 r' (s1.trans s') (hz'.trans hz1)
   exact hq _ ho ds' E3 a' w' r3 s3 z3 (Marks.trans s1.fr.size s'.fr.oth m1 m')
  ·exact ho.elim
 have key : ∀ (k : Nat) (slots slotsR : List Nat) (o : O) (ds1 : List Deferred) (st1 : St) (E1 : Env) (w1 : World), Stp E0 sB.hp w0 E1 st1.hp w1 → st1.size = sB.size → Marks w0 ds0 ds1 w1 → (canO slots slotsR sB o).All (CutR P rec c sB φ k) → OAfterR P ro c ds1 st1 E1 w1 Q o := by
  intro k
  induction k with
  | zero =>
   intro slots slotsR o ds1 st1 E1 w1 s1 hz1 m1 ho
   cases o with
   | done x st => exact fin slots slotsR x st ds1 st1 E1 w1 _ s1 hz1 m1 ho
   | stop p st =>
    simp only [canO] at ho
    split at ho <;> exact ho.elim
  | succ k ih =>
   intro slots slotsR o ds1 st1 E1 w1 s1 hz1 m1 ho
   cases o with
   | done x st => exact fin slots slotsR x st ds1 st1 E1 w1 _ s1 hz1 m1 ho
   | stop p st2 =>
    simp only [canO] at ho
    split at ho
    ·rename_i S hb
     obtain ⟨ψ, cut, slots', slotsR', hl, hrest⟩ := ho
     intro ds' E' a' w' r' s' hz' m'
     obtain ⟨E3, r3, s3, z3⟩ := canonAt_ok hb hlow rh0 r' (s1.trans s') (hz'.trans hz1)
     refine hl ro ds0 E0 w0 ds' E3 a' w' _ rh0 r3 s3 z3 (Marks.trans s1.fr.size s'.fr.oth m1 m') hro fun q hψ => ?_
     intro ds4 E4 a4 w4 r4 s4 hz4 m4
     refine evRr_ok hrec c r4 (hro.oth s4.fr.oth) (Tree.All_mono (fun o ho => ?_) (Tree.All_bind (hrest q hψ)))
     exact ih slots' slotsR' o ds4 q.2 E4 w4 s4 hz4 m4 ho
    ·exact ho.elim
 exact evBr_ok hrec c r (hro.oth s.fr.oth) (Tree.All_mono (fun o ho => key k slots slotsR o ds st E w s hz hm ho) (Tree.All_bind h))
end
def evOr (rec : Code → St → Tree (X × St)) (c : Code) (slots slotsR : List Nat) (sB : St) : Tree ((X × St) ⊕ (List Bool × St)) := (evBr rec c sB).bind (canO slots slotsR sB)
def evOr2 (rec : Code → St → Tree (X × St)) (cut : Bool) (c : Code) (p : List Bool) (slots slotsR : List Nat) (sB : St) (q : X × St) : Tree ((X × St) ⊕ (List Bool × St)) := (evRr rec cut c p q.1 q.2).bind (canO slots slotsR sB)
section
variable {P : Program} {rec : Code → St → Tree (X × St)}
theorem call_comesR (hrec : RecOk P rec) {f : FuncId} {fn : Func} {c : Code} (hfn : P.funcs[f]? = some fn) (hc : fn.body = some c) {args : List A} (hsz : (Nat.ble args.length fn.ntmps && Nat.ble args.length lim) = true) {h : Hp} (m : Bool × Bool) {v : A} {h' : Hp} (k : Nat) (slots slotsR : List Nat)
  (hall : (evOr rec c slots slotsR (st0 fn args h m)).All (CutR P rec c (st0 fn args h m) (Left2 P fn h v h') k)) : CallAt P f args h v h' :=
 call_comes hfn hc hsz m (comes_base (St.Le.refl _) (comesF_cutR hrec rfl k slots slotsR hall))
end
theorem call_baseR {P : Program} {rec : Code → St → Tree (X × St)} (hrec : RecOk P rec) {f : FuncId} {fn : Func} {c : Code} (hfn : P.funcs[f]? = some fn) (hc : fn.body = some c) {args : List A} (hsz : (Nat.ble args.length fn.ntmps && Nat.ble args.length lim) = true) {h : Hp} (m : Bool × Bool) {v : A} {h' : Hp} (k : Nat) (slots slotsR : List Nat)
  {sB : St} (hsB : sB = st0 fn args h m) {t : Tree ((X × St) ⊕ (List Bool × St))} (hpre : evOr rec c slots slotsR sB = t) (hall : t.All (CutR P rec c sB (Left2 P fn h v h') k)) : CallAt P f args h v h' := by
 subst hsB
 subst hpre
 exact call_comesR hrec hfn hc hsz m k slots slotsR hall
theorem cutR_stop {P : Program} {rec : Code → St → Tree (X × St)} {c : Code} {sB : St} {φ : X × St → Prop} {k : Nat} {p : List Bool} {S : St} (ψ : X × St → Prop) (cut : Bool) (slots slotsR : List Nat) (hl : ComesF P (nthRng c p) sB S ψ) (hr : ∀ q, ψ q → (evOr2 rec cut c p slots slotsR sB q).All (CutR P rec c sB φ k)) : (Tree.leaf (.inr (p, S))).All (CutR P rec c sB φ (k + 1)) := ⟨ψ, cut, slots, slotsR, hl, hr⟩
theorem cutR_done {P : Program} {rec : Code → St → Tree (X × St)} {c : Code} {sB : St} {φ : X × St → Prop} {k : Nat} {q : X × St} (h : φ q) : (Tree.leaf (.inl q)).All (CutR P rec c sB φ k) := by
 cases k <;> exact h
theorem cutR_dn {P : Program} {rec : Code → St → Tree (X × St)} {c : Code} {sB : St} {φ : X × St → Prop} {k : Nat} {q : X × St} (h : φ q) : CutR P rec c sB φ k (.inl q) := by cases k <;> exact h
end Go.Ev
