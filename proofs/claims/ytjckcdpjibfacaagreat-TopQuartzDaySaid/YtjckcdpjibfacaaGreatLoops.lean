/- A function's code, cut at its loops: what stands ahead of a loop, a loop's round and what stands behind it are evaluated each by itself. Conditions: none. What a piece of code comes to: a calculus over the evaluator's states, for loops within loops. Conditions: none. Loops over lists of unknown length: rounds that lay blocks and lengthen tables, brought back to one form; what holds at a small memory, at any memory of which it is a part. Conditions: none. Loops that count: each round by a sketch. Conditions: none. -/
import Derived.Test.YtjckcdpjibfacaaGreatCut
namespace Go.Ev
open Go
section
variable {P : Program} {rec : Code → St → Tree (X × St)}
def Comes (P : Program) (c : Code) (st : St) (φ : X × St → Prop) : Prop := ∀ (ro : Option Nat) (ds : List Deferred) (E : Env) (a : Act) (w : World) (Q : Exit → Act → World → Prop), R ds E st a w → RoAt ro w →
 (∀ q, φ q → After ds st E w Q q) → c.wpIn (G ro) 0 P Q a w
theorem After.later {ds ds' : List Deferred} {st st1 : St} {E E' : Env} {w w' : World} {Q : Exit → Act → World → Prop} {q : X × St} (h : After ds st E w Q q) (s : Stp E st.hp w E' st1.hp w') (hz : st1.size = st.size) (hm : Marks w ds ds' w') :
  After ds' st1 E' w' Q q := fun D2 E2 a2 w2 r2 s2 hz2 m2 => h D2 E2 a2 w2 r2 (s.trans s2) (hz2.trans hz) (Marks.trans s.fr.size s2.fr.oth hm m2)
theorem comes_rec (hrec : RecOk P rec) {c : Code} {st : St} {φ : X × St → Prop} (h : (rec c st).All φ) : Comes P c st φ := fun ro ds E a w Q r hro hq => hrec c st ro ds E a w Q r hro (Tree.All_mono hq h)
theorem Comes.mono {c : Code} {st : St} {φ ψ : X × St → Prop} (h : Comes P c st φ) (hs : ∀ q, φ q → ψ q) : Comes P c st ψ := fun ro ds E a w Q r hro hq => h ro ds E a w Q r hro fun q hφ => hq q (hs q hφ)
theorem comes_seq {a b : Code} {st : St} {φ ψ : X × St → Prop} (ha : Comes P a st φ) (hb : ∀ q, φ q → match q.1 with | .normal => Comes P b q.2 ψ | _ => ψ q) : Comes P (.seq a b) st ψ := by
 intro ro ds E act w Q r hro hq
 refine wpIn_seq (ha ro ds E act w _ r hro fun q hφ => ?_)
 intro ds' E' a' w' r' s' hz' m'
 have h := hb q hφ
 obtain ⟨x, st1⟩ := q
 cases x with
 | normal => exact h ro ds' E' a' w' Q r' (hro.oth s'.fr.oth) fun q2 h2 => (hq q2 h2).later s' hz' m'
 | exit i => exact hq _ h ds' E' a' w' r' s' hz' m'
 | ret => exact hq _ h ds' E' a' w' r' s' hz' m'
def outBlk (id : Nat) (q : X × St) : X × St := match q.1 with
 | .exit i => match Nat.beq i id with
  | true => (.normal, q.2)
  | false => q
 | _ => q
theorem comes_block {id : Nat} {c : Code} {st : St} {φ : X × St → Prop} (h : Comes P c st fun q => φ (outBlk id q)) : Comes P (.block id c) st φ := by
 intro ro ds E act w Q r hro hq
 refine wpIn_block (h ro ds E act w _ r hro fun q hφ => ?_)
 intro ds' E' a' w' r' s' hz' m'
 have h := hq _ hφ
 obtain ⟨x, st1⟩ := q
 cases x with
 | normal => exact h ds' E' a' w' r' s' hz' m'
 | ret => exact h ds' E' a' w' r' s' hz' m'
 | exit i =>
  cases hi : Nat.beq i id with
  | true =>
   simp only [outBlk, hi] at h
   have e := Nat.eq_of_beq_eq_true hi
   simp only [X.out, Exit.inBlock, if_pos e]
   exact h ds' E' a' w' r' s' hz' m'
  | false =>
   simp only [outBlk, hi] at h
   have hne : ¬ i = id := fun e => by subst e; simp at hi
   simp only [X.out, Exit.inBlock, if_neg hne]
   exact h ds' E' a' w' r' s' hz' m'
theorem comes_scope {c : Code} {st : St} {φ : X × St → Prop} (h : Comes P c st φ) : Comes P (.scope c) st φ := by
 intro ro ds E act w Q r hro hq
 refine scope_straightG (h ro ds E act w _ r hro fun q hφ => ?_)
 intro ds' E' a' w' r' s' hz' m'
 have h := hq _ hφ ds' E' a' w' r' s' hz' m'
 obtain ⟨x, st1⟩ := q
 cases x <;> exact h
theorem comes_cond {co : Operand} {a b : Code} {st : St} {t : Bool} {φ : X × St → Prop} (ht : st.ρ co = some (.one (.lit (.bool t)))) (ha : t = true → Comes P a st φ) (hb : t = false → Comes P b st φ) : Comes P (.cond co a b) st φ := by
 intro ro ds E act w Q r hro hq
 obtain ⟨hv, _⟩ := r.fits [co] co (by simp) _ ht
 cases t with
 | true => exact wpIn_cond_true hv (ha rfl ro ds E act w Q r hro hq)
 | false => exact wpIn_cond_false hv (hb rfl ro ds E act w Q r hro hq)
theorem comes_loop {c : Code} {ι : Type} (head : ι → St) (μ : ι → Nat) (good : ι → Prop) (φ : X × St → Prop)
  (hround : ∀ x, good x → Comes P c (head x) fun p => match p.1 with | .normal => ∃ y, p.2 = head y ∧ good y ∧ μ y < μ x | _ => φ p) : ∀ (x : ι), good x → Comes P (.loop c) (head x) φ := by
 have key : ∀ (m : Nat) (x : ι), μ x < m → good x → ∀ (ro : Option Nat) (ds : List Deferred) (E : Env) (a : Act) (w : World) (Q : Exit → Act → World → Prop), R ds E (head x) a w → RoAt ro w →
   (∀ q, φ q → After ds (head x) E w Q q) → Code.roundsIn (G ro) 0 P c Q m a w := by
  intro m
  induction m with
  | zero => intro x hm; omega
  | succ m ih =>
   intro x hm hx ro ds E a w Q r hro hq
   rw [roundsIn_succ]
   refine hround x hx ro ds E a w _ r hro fun p hp => ?_
   intro ds' E2 a2 w2 r2 s2 hz2 m2
   obtain ⟨x1, st1⟩ := p
   cases x1 with
   | normal =>
    obtain ⟨y, e, hy, hlt⟩ := hp
    simp only at e
    subst e
    exact ih y (by omega) hy ro ds' E2 a2 w2 Q r2 (hro.oth s2.fr.oth) fun q h2 => (hq q h2).later s2 hz2 m2
   | exit i => exact hq _ hp ds' E2 a2 w2 r2 s2 hz2 m2
   | ret => exact hq _ hp ds' E2 a2 w2 r2 s2 hz2 m2
 intro x hx ro ds E a w Q r hro hq
 exact wpIn_loop_rounds (μ x + 1) (key (μ x + 1) x (Nat.lt_succ_self _) hx ro ds E a w Q r hro hq)
theorem comes_pick {c : Code} {st : St} {φ : X × St → Prop} (slots : List Nat) (hsl : (slots.all fun t => Nat.blt t lim) = true) (h : Comes P c st fun p => φ (p.1, { p.2 with env := pickE slots p.2.env })) : Comes P c st φ := by
 intro ro ds E act w Q r hro hq
 refine h ro ds E act w _ r hro fun p hφ => ?_
 intro ds' E' a' w' r' s' hz' m'
 exact hq _ hφ ds' E' a' w' ⟨r'.rh, r'.defers, r'.size, fun t x hx => r'.env t x (pickE_sub hsl hx)⟩ s' hz' m'
theorem comes_back {c : Code} {st : St} {φ : X × St → Prop} (slots : List Nat) (h : Comes P c { st with hp := { st.hp with low := st.hp.next } } fun p => match back slots st p.2 with | some st' => φ (p.1, st') | none => False) : Comes P c st φ := by
 intro ro ds E act w Q r hro hq
 have r0 : R ds E { st with hp := { st.hp with low := st.hp.next } } act w := ⟨r.rh.low _, r.defers, r.size, r.env⟩
 refine h ro ds E act w _ r0 hro fun p hφ => ?_
 intro ds' E' a' w' r' s' hz' m'
 simp only at hφ
 split at hφ
 ·rename_i st' hb
  obtain ⟨r3, s3, h3, h4⟩ := back_ok hb r.rh r' s' hz'
  exact hq (p.1, st') hφ ds' E a' w' r3 (by rw [show ((p.1, st') : X × St).2.hp = st.hp from h3]; exact s3) h4 m'
 ·exact hφ.elim
variable (P rec) in
def OComes (c : Code) (φ : X × St → Prop) : Nat → O → Prop
 | _, .done x st => φ (x, st)
 | 0, .stop _ _ => False
 | k + 1, .stop p st => ∃ (ψ : X × St → Prop) (cut : Bool), Comes P (.loop (nthLoop c p)) st ψ ∧ ∀ q, ψ q → (evR rec cut c p q.1 q.2).All (OComes c φ k)
theorem comes_cut (hrec : RecOk P rec) {c : Code} {st : St} {φ : X × St → Prop} (k : Nat) (h : (evB rec c st).All (OComes P rec c φ k)) : Comes P c st φ := by
 intro ro ds E act w Q r hro hq
 have key : ∀ (k : Nat) (o : O) (ds1 : List Deferred) (st1 : St) (E1 : Env) (w1 : World), OComes P rec c φ k o → (∀ q, φ q → After ds1 st1 E1 w1 Q q) → RoAt ro w1 → OAfter P ro c ds1 st1 E1 w1 Q o := by
  intro k
  induction k with
  | zero =>
   intro o ds1 st1 E1 w1 ho hq1 _
   cases o with
   | done x st => exact hq1 _ ho
   | stop p st => exact ho.elim
  | succ k ih =>
   intro o ds1 st1 E1 w1 ho hq1 hro1
   cases o with
   | done x st => exact hq1 _ ho
   | stop p st2 =>
    obtain ⟨ψ, cut, hl, hrest⟩ := ho
    intro ds' E' a' w' r' s' hz' m'
    refine hl ro ds' E' a' w' _ r' (hro1.oth s'.fr.oth) fun q hψ => ?_
    intro ds3 E3 a3 w3 r3 s3 hz3 m3
    have ro3 : RoAt ro w3 := (hro1.oth s'.fr.oth).oth s3.fr.oth
    refine evR_ok hrec c r3 ro3 (Tree.All_mono (fun o ho => ?_) (hrest q hψ))
    exact ih o ds3 q.2 E3 w3 ho (fun q2 h2 => (hq1 q2 h2).later (s'.trans s3) (hz3.trans hz') (Marks.trans s'.fr.size s3.fr.oth m' m3)) ro3
 exact evB_ok hrec c r hro (Tree.All_mono (fun o ho => key k o ds st E w ho hq hro) h)
theorem comes_start {c : Code} {st : St} {φ : X × St → Prop} (slots : List Nat) (hsl : (slots.all fun t => Nat.blt t lim) = true) (h : Comes P c { st with env := pickE slots st.env } φ) : Comes P c st φ := by
 intro ro ds E act w Q r hro hq
 exact h ro ds E act w Q ⟨r.rh, r.defers, r.size, fun t x hx => r.env t x (pickE_sub hsl hx)⟩ hro hq
theorem comes_round (hrec : RecOk P rec) {c : Code} {st : St} {φ : X × St → Prop} (slots : List Nat) (h : (roundT rec slots slots c st).All φ) : Comes P c st φ := by
 refine comes_back slots (comes_rec hrec (Tree.All_mono (fun p hp => ?_) (Tree.All_bind h)))
 obtain ⟨x, st1⟩ := p
 cases x <;> (simp only at hp ⊢; split at hp <;> (rename_i hb; rw [hb]; exact hp))
def roundO (slotsS slots : List Nat) (st0 : St) : O → Tree ((X × St) ⊕ (List Bool × St))
 | .done x st => match back slots st0 st with
  | some st' => .leaf (.inl (x, st'))
  | none => .fail 313
 | .stop p st => match slotsS.all fun t => Nat.blt t lim with
  | true => .leaf (.inr (p, { st with env := pickE slotsS st.env }))
  | false => .fail 314
theorem comes_nest (hrec : RecOk P rec) {c : Code} {st : St} {φ : X × St → Prop} (slotsS slots : List Nat)
  (h : ((evB rec c { st with hp := { st.hp with low := st.hp.next } }).bind (roundO slotsS slots st)).All fun u => match u with
   | .inl q => φ q
   | .inr (p, S) => ∃ ψ : X × St → Prop, Comes P (.loop (nthLoop c p)) S ψ ∧ ∀ q, ψ q → ((evR rec false c p q.1 q.2).bind (roundO slotsS slots st)).All fun u => match u with
    | .inl q => φ q
    | .inr _ => False) : Comes P c st φ := by
 refine comes_back slots (comes_cut hrec 1 (Tree.All_mono (fun o ho => ?_) (Tree.All_bind h)))
 have fin : ∀ {o : O} {ξ : List Bool × St → Prop}, (∀ x, ¬ ξ x) → (roundO slotsS slots st o).All (fun u => match u with | .inl q => φ q | .inr y => ξ y) → OComes P rec c (fun p => match back slots st p.2 with | some st' => φ (p.1, st') | none => False) 0 o := fun {o ξ} hn ho => by
  cases o with
  | done x st1 =>
   simp only [roundO] at ho
   simp only [OComes]
   split at ho
   ·exact ho
   ·exact ho.elim
  | stop p st1 =>
   simp only [roundO] at ho
   split at ho
   ·exact (hn _ ho).elim
   ·exact ho.elim
 cases o with
 | done x st1 =>
  simp only [roundO] at ho
  simp only [OComes]
  split at ho
  ·exact ho
  ·exact ho.elim
 | stop p st1 =>
  simp only [roundO] at ho
  split at ho
  ·rename_i hsl
   obtain ⟨ψ, hl, hrest⟩ := ho
   exact ⟨ψ, false, comes_start slotsS hsl hl, fun q hq => Tree.All_mono (fun o ho => fin (ξ := fun _ => False) (fun _ h => h) ho) (Tree.All_bind (hrest q hq))⟩
  ·exact ho.elim
theorem call_comes {f : FuncId} {fn : Func} {c : Code} (hfn : P.funcs[f]? = some fn) (hc : fn.body = some c) {args : List A} (hsz : (Nat.ble args.length fn.ntmps && Nat.ble args.length lim) = true) {h : Hp} (m : Bool × Bool) {v : A} {h' : Hp}
  (hall : Comes P c (st0 fn args h m) fun p => (exitS P fn.results.toList h p).All fun u => u.2 = (v, h')) : CallAt P f args h v h' := by
 intro E w vals rh hargs
 rw [Bool.and_eq_true] at hsz
 have hn := Nat.le_of_ble_eq_true hsz.1
 have hl := Nat.le_of_ble_eq_true hsz.2
 have hlen := hargs.length
 refine callsIn_wide.1 (callsIn_of_wp_marks (n := 0) hfn hc trivial ?_)
 have r0 : R [] E (st0 fn args h m) { tmps := vals.toArray ++ Array.replicate (fn.ntmps - vals.toArray.size) undef, defers := [] } w := by
  refine ⟨rh.low _, rfl, by simp [st0]; omega, fun t y hy => ?_⟩
  rcases initEnv_get (by omega) hy with ⟨j, e, hj⟩ | h0
  ·rw [Nat.zero_add] at e; subst e
   obtain ⟨z, hz, hzi⟩ := hargs.get t y hj
   have : (vals.toArray ++ Array.replicate (fn.ntmps - vals.toArray.size) undef).getD t undef = z := by
    have ht : t < vals.length := (List.getElem?_eq_some_iff.1 hz).1
    simp only [Array.getD_eq_getD_getElem?]
    rw [Array.getElem?_append_left (by simpa using ht)]
    simp [hz]
   simp only [this]; exact hzi
  ·rw [Tr.get_nil] at h0; cases h0
 refine hall none [] E _ w _ r0 (fun l hl => by cases hl) fun p hp => ?_
 obtain ⟨x, st⟩ := p
 intro D' E' a' w' r' s' _ m'
 obtain ⟨u, hu, hue⟩ := Tree.All_run hp
 obtain ⟨l, hD, hm⟩ := m'
 rw [List.append_nil] at hD
 subst hD
 obtain ⟨hne, va, hva, e⟩ := exitS_some hu
 have fin : LeavesInM Fence.wide 0 P fn a'.tmps (fun e w' => ∃ x E', e = .returned x ∧ v.Is E' x ∧ Stp E h w E' h' w') a'.defers .returning w' := by
  rw [r'.defers]
  refine leaves_ok hm fun w2 hg => ?_
  have r2 : R D' E' st a' w2 := ⟨hg.rh r'.rh, r'.defers, r'.size, r'.env⟩
  have s2 : Stp E { h with low := h.next } w E' st.hp w2 := ⟨hg.rh r'.rh, hg.fr s'.fr, s'.next, s'.low, s'.globs, s'.lp⟩
  obtain ⟨y, hy, hyi⟩ := resultA_ok r2 hva
  obtain ⟨_, E2, h2, h3⟩ := leave_ok rh hyi s2 e
  have hue : u.2 = (v, h') := hue
  rw [hue] at h2 h3
  exact ⟨y, hy, y, E2, rfl, h2, h3⟩
 cases x with
 | exit i => exact absurd rfl (hne i)
 | normal => exact fin
 | ret => exact fin
end
end Go.Ev
namespace Go.Ev
open Go
def namesE (n0 : Nat) (env : Tr A) : List Nat → List Nat
 | [] => []
 | t :: ts => (match env.get D t with | some a => namesA n0 a | none => []) ++ namesE n0 env ts
def canonL (slots : List Nat) (h0 : Hp) (st : St) : List Nat := closeN st.hp.heap h0.next 2000 (namesE h0.next st.env slots) []
def canonAt (slots : List Nat) (sB st : St) : Option St :=
 match Nat.ble sB.hp.next st.hp.low && (allGe sB.hp.next (canonL slots sB.hp st) && (nodupN (canonL slots sB.hp st) && (Nat.ble (sB.hp.next + (canonL slots sB.hp st).length) lim && slots.all fun t => Nat.blt t lim))) with
 | true => some (stOf sB.hp sB.wide sB.keep sB.hp.low (canonOf sB.hp (canonL slots sB.hp st) { st with env := pickE slots st.env }))
 | false => none
section
variable {P : Program} {rec : Code → St → Tree (X × St)}
theorem canonAt_ok {slots : List Nat} {sB st st' : St} (hb : canonAt slots sB st = some st') (hlow : sB.hp.low = sB.hp.next) {ds' : List Deferred} {E0 E2 : Env} {a2 : Act} {w0 w2 : World} (rh : RH E0 sB.hp w0) (r2 : R ds' E2 st a2 w2)
  (s : Stp E0 sB.hp w0 E2 st.hp w2) (hz : st.size = sB.size) : ∃ E3, R ds' E3 st' a2 w2 ∧ Stp E0 sB.hp w0 E3 st'.hp w2 ∧ st'.size = sB.size := by
 unfold canonAt at hb
 split at hb
 ·rename_i hc
  simp only [Bool.and_eq_true] at hc
  obtain ⟨h1, h2, h3, h4, h5⟩ := hc
  injection hb with hb; subst hb
  have r2' : R ds' E2 { st with env := pickE slots st.env } a2 w2 := ⟨r2.rh, r2.defers, r2.size, fun t x hx => r2.env t x (pickE_sub h5 hx)⟩
  have hB : ({ sB.hp with low := sB.hp.next } : Hp) = sB.hp := by rw [← hlow]
  have := canon_ok (st := sB) (st' := { st with env := pickE slots st.env }) (E := E0) (L := canonL slots sB.hp st) (rh.low _) r2' (by rw [hB]; exact s) (Nat.le_of_ble_eq_true h1) (allGe_spec h2) (nodupN_spec h3) (Nat.le_of_ble_eq_true h4) sB.hp.low
  exact ⟨_, this.1, this.2, hz⟩
 ·cases hb
structure St.Le (s t : St) : Prop where
 next : t.hp.next = s.hp.next
 low : t.hp.low = s.hp.low
 globs : t.hp.globs = s.hp.globs
 lp : t.hp.lp = s.hp.lp
 size : t.size = s.size
 r : ∀ {ds : List Deferred} {E : Env} {a : Act} {w : World}, R ds E s a w → R ds E t a w
theorem St.Le.refl (s : St) : s.Le s := ⟨rfl, rfl, rfl, rfl, rfl, fun h => h⟩
theorem St.Le.stp {s t : St} (h : s.Le t) {ds : List Deferred} {E E0 : Env} {h0 : Hp} {a : Act} {w w0 : World} (r : R ds E s a w) (st : Stp E0 h0 w0 E s.hp w) : Stp E0 h0 w0 E t.hp w :=
 ⟨(h.r r).rh, by rw [h.low]; exact st.fr, by rw [h.next]; exact st.next, by rw [h.low]; exact st.low, by rw [h.globs]; exact st.globs, by rw [h.lp]; exact st.lp⟩
def ComesF (P : Program) (c : Code) (sB st : St) (φ : X × St → Prop) : Prop := ∀ (ro : Option Nat) (ds0 : List Deferred) (E0 : Env) (w0 : World) (ds : List Deferred) (E : Env) (a : Act) (w : World) (Q : Exit → Act → World → Prop),
 RH E0 sB.hp w0 → R ds E st a w → Stp E0 sB.hp w0 E st.hp w → st.size = sB.size → Marks w0 ds0 ds w → RoAt ro w0 → (∀ q, φ q → After ds0 sB E0 w0 Q q) → c.wpIn (G ro) 0 P Q a w
theorem comesF_of {c : Code} {sB st : St} {φ : X × St → Prop} (hlow : sB.hp.low = sB.hp.next) (slots slotsX : List Nat)
  (h : Comes P c st fun p => match canonAt (match p.1 with | .normal => slots | _ => slotsX) sB p.2 with | some st' => φ (p.1, st') | none => False) : ComesF P c sB st φ := by
 intro ro ds0 E0 w0 ds E a w Q rh0 r s hz hm hro hq
 refine h ro ds E a w Q r (hro.oth s.fr.oth) fun p hp => ?_
 intro ds' E' a' w' r' s' hz' m'
 simp only at hp
 split at hp
 ·rename_i st' hb
  obtain ⟨E3, r3, s3, z3⟩ := canonAt_ok hb hlow rh0 r' (s.trans s') (hz'.trans hz)
  exact hq _ hp ds' E3 a' w' r3 s3 z3 (Marks.trans s.fr.size s'.fr.oth hm m')
 ·exact hp.elim
theorem ComesF.mono {c : Code} {sB st : St} {φ ψ : X × St → Prop} (h : ComesF P c sB st φ) (hs : ∀ q, φ q → ψ q) : ComesF P c sB st ψ :=
 fun ro ds0 E0 w0 ds E a w Q rh0 r s hz hm hro hq => h ro ds0 E0 w0 ds E a w Q rh0 r s hz hm hro fun q hφ => hq q (hs q hφ)
theorem comesF_loop {c : Code} {sB : St} {ι : Type} (head : ι → St) (μ : ι → Nat) (good : ι → Prop) (φ : X × St → Prop)
  (hround : ∀ x, good x → ComesF P c sB (head x) fun p => match p.1 with | .normal => ∃ y, p.2.Le (head y) ∧ good y ∧ μ y < μ x | _ => φ p) : ∀ (x : ι), good x → ComesF P (.loop c) sB (head x) φ := by
 have key : ∀ (m : Nat) (x : ι), μ x < m → good x → ∀ (ro : Option Nat) (ds0 : List Deferred) (E0 : Env) (w0 : World) (ds : List Deferred) (E : Env) (a : Act) (w : World) (Q : Exit → Act → World → Prop),
   RH E0 sB.hp w0 → R ds E (head x) a w → Stp E0 sB.hp w0 E (head x).hp w → (head x).size = sB.size → Marks w0 ds0 ds w → RoAt ro w0 → (∀ q, φ q → After ds0 sB E0 w0 Q q) → Code.roundsIn (G ro) 0 P c Q m a w := by
  intro m
  induction m with
  | zero => intro x hm; omega
  | succ m ih =>
   intro x hlt hx ro ds0 E0 w0 ds E a w Q rh0 r s hz hm hro hq
   rw [roundsIn_succ]
   refine hround x hx ro ds0 E0 w0 ds E a w _ rh0 r s hz hm hro fun p hp => ?_
   intro ds' E2 a2 w2 r2 s2 hz2 m2
   obtain ⟨x1, st1⟩ := p
   cases x1 with
   | normal =>
    obtain ⟨y, hle, hy, hly⟩ := hp
    exact ih y (by omega) hy ro ds0 E0 w0 ds' E2 a2 w2 Q rh0 (hle.r r2) (hle.stp r2 s2) (hle.size.trans hz2) m2 hro hq
   | exit i => exact hq _ hp ds' E2 a2 w2 r2 s2 hz2 m2
   | ret => exact hq _ hp ds' E2 a2 w2 r2 s2 hz2 m2
 intro x hx ro ds0 E0 w0 ds E a w Q rh0 r s hz hm hro hq
 exact wpIn_loop_rounds (μ x + 1) (key (μ x + 1) x (Nat.lt_succ_self _) hx ro ds0 E0 w0 ds E a w Q rh0 r s hz hm hro hq)
theorem comes_base {c : Code} {sB st : St} {φ : X × St → Prop} (hle : sB.Le st) (h : ComesF P c sB st φ) : Comes P c sB φ := by
 intro ro ds E a w Q r hro hq
 exact h ro ds E w ds E a w Q r.rh (hle.r r) (hle.stp r (Stp.refl r.rh)) hle.size (Marks.refl _ _ _) hro hq
def canonT (slots slotsX : List Nat) (sB : St) (p : X × St) : Tree (X × St) := match canonAt (match p.1 with | .normal => slots | _ => slotsX) sB p.2 with
 | some st' => .leaf (p.1, st')
 | none => .fail 315
theorem comesF_round (hrec : RecOk P rec) {c : Code} {sB st : St} {φ : X × St → Prop} (hlow : sB.hp.low = sB.hp.next) (slots slotsX : List Nat) (h : ((rec c st).bind (canonT slots slotsX sB)).All φ) : ComesF P c sB st φ := by
 refine comesF_of hlow slots slotsX (comes_rec hrec (Tree.All_mono (fun p hp => ?_) (Tree.All_bind h)))
 unfold canonT at hp
 split at hp
 ·rename_i st' hb
  exact hp
 ·exact hp.elim
def canO (slots slotsR : List Nat) (sB : St) : O → Tree ((X × St) ⊕ (List Bool × St))
 | .done x st => match canonAt slotsR sB st with
  | some st' => .leaf (.inl (x, st'))
  | none => .fail 317
 | .stop p st => match canonAt slots sB st with
  | some st' => .leaf (.inr (p, st'))
  | none => .fail 316
variable (P rec) in
def CutF (c : Code) (sB : St) (φ : X × St → Prop) : Nat → (X × St) ⊕ (List Bool × St) → Prop
 | _, .inl q => φ q
 | 0, .inr _ => False
 | k + 1, .inr (p, S) => ∃ (ψ : X × St → Prop) (cut : Bool) (slots slotsR : List Nat), ComesF P (.loop (nthLoop c p)) sB S ψ ∧ ∀ q, ψ q → ((evR rec cut c p q.1 q.2).bind (canO slots slotsR sB)).All (CutF c sB φ k)
theorem comesF_cut (hrec : RecOk P rec) {c : Code} {sB st : St} {φ : X × St → Prop} (hlow : sB.hp.low = sB.hp.next) (k : Nat) (slots slotsR : List Nat) (h : ((evB rec c st).bind (canO slots slotsR sB)).All (CutF P rec c sB φ k)) : ComesF P c sB st φ := by
 intro ro ds0 E0 w0 ds E a w Q rh0 r s hz hm hro hq
 have fin : ∀ (slots slotsR : List Nat) (x : X) (st2 : St) (ds1 : List Deferred) (st1 : St) (E1 : Env) (w1 : World) (k : Nat), Stp E0 sB.hp w0 E1 st1.hp w1 → st1.size = sB.size → Marks w0 ds0 ds1 w1 → (canO slots slotsR sB (.done x st2)).All (CutF P rec c sB φ k) → After ds1 st1 E1 w1 Q (x, st2) := by
  intro slots slotsR x st2 ds1 st1 E1 w1 k s1 hz1 m1 ho
  simp only [canO] at ho
  split at ho
  ·rename_i st' hb
   have ho : φ (x, st') := by cases k <;> exact ho
   intro ds' E' a' w' r' s' hz' m'
   obtain ⟨E3, r3, s3, z3⟩ := canonAt_ok hb hlow rh0 r' (s1.trans s') (hz'.trans hz1)
   exact hq _ ho ds' E3 a' w' r3 s3 z3 (Marks.trans s1.fr.size s'.fr.oth m1 m')
  ·exact ho.elim
 have key : ∀ (k : Nat) (slots slotsR : List Nat) (o : O) (ds1 : List Deferred) (st1 : St) (E1 : Env) (w1 : World), Stp E0 sB.hp w0 E1 st1.hp w1 → st1.size = sB.size → Marks w0 ds0 ds1 w1 → (canO slots slotsR sB o).All (CutF P rec c sB φ k) → OAfter P ro c ds1 st1 E1 w1 Q o := by
  intro k
  induction k with
  | zero =>
   intro slots slotsR o ds1 st1 E1 w1 s1 hz1 m1 ho
   cases o with
   | done x st => exact fin slots slotsR x st ds1 st1 E1 w1 _ s1 hz1 m1 ho
   | stop p st =>
    simp only [canO] at ho
    split at ho <;> exact ho.elim
  | succ k ih =>
   intro slots slotsR o ds1 st1 E1 w1 s1 hz1 m1 ho
   cases o with
   | done x st => exact fin slots slotsR x st ds1 st1 E1 w1 _ s1 hz1 m1 ho
   | stop p st2 =>
    simp only [canO] at ho
    split at ho
    ·rename_i S hb
     obtain ⟨ψ, cut, slots', slotsR', hl, hrest⟩ := ho
     intro ds' E' a' w' r' s' hz' m'
     obtain ⟨E3, r3, s3, z3⟩ := canonAt_ok hb hlow rh0 r' (s1.trans s') (hz'.trans hz1)
     refine hl ro ds0 E0 w0 ds' E3 a' w' _ rh0 r3 s3 z3 (Marks.trans s1.fr.size s'.fr.oth m1 m') hro fun q hψ => ?_
     intro ds4 E4 a4 w4 r4 s4 hz4 m4
     refine evR_ok hrec c r4 (hro.oth s4.fr.oth) (Tree.All_mono (fun o ho => ?_) (Tree.All_bind (hrest q hψ)))
     exact ih slots' slotsR' o ds4 q.2 E4 w4 s4 hz4 m4 ho
    ·exact ho.elim
 exact evB_ok hrec c r (hro.oth s.fr.oth) (Tree.All_mono (fun o ho => key k slots slotsR o ds st E w s hz hm ho) (Tree.All_bind h))
def evO (rec : Code → St → Tree (X × St)) (c : Code) (slots slotsR : List Nat) (sB : St) : Tree ((X × St) ⊕ (List Bool × St)) := (evB rec c sB).bind (canO slots slotsR sB)
def evO2 (rec : Code → St → Tree (X × St)) (cut : Bool) (c : Code) (p : List Bool) (slots slotsR : List Nat) (sB : St) (q : X × St) : Tree ((X × St) ⊕ (List Bool × St)) := (evR rec cut c p q.1 q.2).bind (canO slots slotsR sB)
variable (P) in
def Left2 (fn : Func) (h : Hp) (v : A) (h' : Hp) (p : X × St) : Prop := (exitS P fn.results.toList h p).All fun u => u.2 = (v, h')
theorem call_comesF (hrec : RecOk P rec) {f : FuncId} {fn : Func} {c : Code} (hfn : P.funcs[f]? = some fn) (hc : fn.body = some c) {args : List A} (hsz : (Nat.ble args.length fn.ntmps && Nat.ble args.length lim) = true) {h : Hp} (m : Bool × Bool) {v : A} {h' : Hp} (k : Nat) (slots slotsR : List Nat)
  (hall : (evO rec c slots slotsR (st0 fn args h m)).All (CutF P rec c (st0 fn args h m) (Left2 P fn h v h') k)) : CallAt P f args h v h' :=
 call_comes hfn hc hsz m (comes_base (St.Le.refl _) (comesF_cut hrec rfl k slots slotsR hall))
theorem loop_is (hrec : RecOk P rec) {c : Code} {sB : St} (hlow : sB.hp.low = sB.hp.next) {ι : Type} (slots slotsX : List Nat) (head : ι → St) (μ : ι → Nat) (good : ι → Prop) (fin : ι → X × St) (stepT : ι → Tree (X × St))
  (hstep : ∀ x, good x → (rec c (head x)).bind (canonT slots slotsX sB) = stepT x)
  (hdec : ∀ x, good x → (stepT x).All fun p => match p.1 with | .normal => ∃ y, p.2.Le (head y) ∧ good y ∧ μ y < μ x ∧ fin y = fin x | _ => p = fin x) (x : ι) (hx : good x) : ComesF P (.loop c) sB (head x) fun q => q = fin x := by
 refine comesF_loop head μ (fun y => good y ∧ fin y = fin x) (fun q => q = fin x) (fun y hy => ?_) x ⟨hx, rfl⟩
 refine comesF_round hrec hlow slots slotsX ?_
 rw [hstep y hy.1]
 refine Tree.All_mono (fun p hp => ?_) (hdec y hy.1)
 obtain ⟨x1, st1⟩ := p
 cases x1 with
 | normal =>
  obtain ⟨z, h1, h2, h3, h4⟩ := hp
  exact ⟨z, h1, ⟨h2, h4.trans hy.2⟩, h3⟩
 | exit i => exact Eq.trans hp hy.2
 | ret => exact Eq.trans hp hy.2
end
theorem le_heap {s : St} {hp : Tr Blk} (h : ∀ k, hp.get D k = s.hp.heap.get D k ∨ ∃ b b', s.hp.heap.get D k = some b ∧ hp.get D k = some b' ∧ b'.ro = b.ro ∧ ∀ E w p, blkIs E w p b → blkIs E w p b') : s.Le { s with hp := { s.hp with heap := hp } } := by
 refine ⟨rfl, rfl, rfl, rfl, rfl, fun {ds E a w} r => ⟨⟨r.rh.nlim, r.rh.dom, r.rh.lt, fun id b hb => ?_, fun id id' b b' p p' hb hb' hro hp1 hp2 he => ?_, r.rh.glob, r.rh.lp⟩, r.defers, r.size, r.env⟩⟩
 ·have hb : hp.get D id = some b := hb
  rcases h id with e | ⟨b0, b1, e0, e1, _, h3⟩
  ·exact r.rh.blk id b (by rw [← e]; exact hb)
  ·obtain rfl : b1 = b := Option.some.inj (e1.symm.trans hb)
   obtain ⟨p, hp, hi⟩ := r.rh.blk id b0 e0
   exact ⟨p, hp, h3 _ _ _ hi⟩
 ·have hb : hp.get D id = some b := hb
  have hb' : hp.get D id' = some b' := hb'
  have g : ∀ {k : Nat} {b : Blk}, hp.get D k = some b → ∃ b0, s.hp.heap.get D k = some b0 ∧ b.ro = b0.ro := fun {k b} hk => by
   rcases h k with e | ⟨b0, b1, e0, e1, h2, _⟩
   ·exact ⟨b, by rw [← e]; exact hk, rfl⟩
   ·obtain rfl : b1 = b := Option.some.inj (e1.symm.trans hk)
    exact ⟨b0, e0, h2⟩
  obtain ⟨c, hc, hr⟩ := g hb
  obtain ⟨c', hc', _⟩ := g hb'
  exact r.rh.inj id id' c c' p p' hc hc' (by rw [← hr]; exact hro) hp1 hp2 he
theorem rows_one {cs : List C} {cols : List Col} {E : Env} {arr : Array Value} (hl : cs.length = cols.length) (hc : ∀ j c col, nth cs j = some c → nth cols j = some col → col.at 0 = c) (h : (Body.flat cs).Is E arr) : (Body.rows 1 cols).Is E arr := by
 intro k j col hk hj
 have h0 : k = 0 := by omega
 subst h0
 have hlt : j < cs.length := by rw [hl]; exact nth_lt hj
 have hcs : nth cs j = some cs[j] := by rw [nth_eq]; exact List.getElem?_eq_getElem hlt
 obtain ⟨x, hx, hi⟩ := h j _ hcs
 exact ⟨x, by rw [Nat.zero_mul, Nat.zero_add]; exact hx, by rw [hc j _ col hcs hj]; exact hi⟩
theorem rows_same {n : Nat} {cols cols' : List Col} {E : Env} {arr : Array Value} (hl : cols'.length = cols.length) (hc : ∀ j c c', nth cols j = some c → nth cols' j = some c' → ∀ k, k < n → c'.at k = c.at k) (h : (Body.rows n cols).Is E arr) : (Body.rows n cols').Is E arr := by
 intro k j c' hk hj
 have hlt : j < cols.length := by rw [← hl]; exact nth_lt hj
 have hcs : nth cols j = some cols[j] := by rw [nth_eq]; exact List.getElem?_eq_getElem hlt
 obtain ⟨x, hx, hi⟩ := h k j _ hk hcs
 exact ⟨x, by rw [hl]; exact hx, by rw [hc j _ c' hcs hj k hk]; exact hi⟩
theorem blk_body {ro : Bool} {e : TypeId} {b b' : Body} (hm : b.isMap = false) (hf : ∀ cs, b' = .flat cs → b = .flat cs) (h : ∀ E arr, b.Is E arr → b'.Is E arr) : ∀ (E : Env) (w : World) (p : Nat × Nat × Nat), blkIs E w p ⟨ro, e, b⟩ → blkIs E w p ⟨ro, e, b'⟩ := by
 intro E w p hb
 obtain ⟨arr, fz, h1, h2, h3, h4⟩ := hb.cells hm
 refine .inl ⟨arr, fz, h1, h2, ⟨h3.1, h _ _ h3.2⟩, ?_⟩
 unfold roIs at h4 ⊢
 cases ro with
 | false => exact h4
 | true => intro cs hcs; exact h4 cs (hf cs hcs)
inductive Sk (α : Type) where
 | leaf (a : α)
 | node (b : Bool) (t e : Sk α)
 | need (b : Bool) (t : Sk α)
 | tt (t : Sk α)
 | ff (t : Sk α)
 | nn (t : Sk α)
 | both (l r : Sk α)
def Sk.All {α : Type} (p : α → Prop) : Sk α → Prop
 | .leaf a => p a
 | .node b t e => match b with | true => t.All p | false => e.All p
 | .need b t => b = true ∧ t.All p
 | .tt t => t.All p
 | .ff t => t.All p
 | .nn t => t.All p
 | .both l r => l.All p ∧ r.All p
def into {α : Type} : Tree α → Sk α → Tree α
 | .leaf _, .leaf a => .leaf a
 | .node _ t e, .node b x y => .node b (into t x) (into e y)
 | .node _ t e, .tt x => .node true (into t x) e
 | .node _ t e, .ff x => .node false t (into e x)
 | .need _ t, .need b x => .need b (into t x)
 | .need _ t, .leaf a => .need true (into t (.leaf a))
 | .need _ t, .node b x y => .need true (into t (.node b x y))
 | .need _ t, .tt x => .need true (into t (.tt x))
 | .need _ t, .ff x => .need true (into t (.ff x))
 | .need _ t, .nn x => .need true (into t x)
 | .amb l r, .both x y => .amb (into l x) (into r y)
 | .amb l r, x => .amb (into l x) (into r x)
 | t, _ => t
def fits {α : Type} : Tree α → Sk α → Bool
 | .leaf _, .leaf _ => true
 | .node _ t e, .node _ x y => match fits t x with | true => fits e y | false => false
 | .node _ t _, .tt x => fits t x
 | .node _ _ e, .ff x => fits e x
 | .need _ t, .need _ x => fits t x
 | .need _ t, .leaf a => fits t (.leaf a)
 | .need _ t, .node b x y => fits t (.node b x y)
 | .need _ t, .tt x => fits t (.tt x)
 | .need _ t, .ff x => fits t (.ff x)
 | .need _ t, .nn x => fits t x
 | .amb l r, .both x y => match fits l x with | true => fits r y | false => false
 | .amb l r, x => match fits l x with | true => fits r x | false => false
 | _, _ => false
theorem all_into {α : Type} {p : α → Prop} : ∀ {T : Tree α} {S : Sk α}, T = into T S → fits T S = true → S.All p → T.All p
 | .leaf a, S, h1, h2, h3 => by
  cases S <;> first | (simp only [fits] at h2; done) | cases h2 | skip
  simp only [into, Tree.leaf.injEq] at h1
  subst h1
  exact h3
 | .node b t e, S, h1, h2, h3 => by
  cases S with
  | leaf a => cases h2
  | need c x => cases h2
  | nn x => cases h2
  | both x y => cases h2
  | node c x y =>
   simp only [into, Tree.node.injEq] at h1
   obtain ⟨e1, e2, e3⟩ := h1
   simp only [fits] at h2
   split at h2
   ·rename_i hf
    subst e1
    cases b with
    | true => exact all_into (T := t) e2 hf h3
    | false => exact all_into (T := e) e3 h2 h3
   ·cases h2
  | tt x =>
   simp only [into, Tree.node.injEq] at h1
   obtain ⟨e1, e2, _⟩ := h1
   subst e1
   exact all_into (T := t) e2 h2 h3
  | ff x =>
   simp only [into, Tree.node.injEq] at h1
   obtain ⟨e1, _, e3⟩ := h1
   subst e1
   exact all_into (T := e) e3 h2 h3
 | .need b t, S, h1, h2, h3 => by
  cases S with
  | need c x =>
   simp only [into, Tree.need.injEq] at h1
   obtain ⟨e1, e2⟩ := h1
   subst e1
   exact ⟨h3.1, all_into (T := t) e2 h2 h3.2⟩
  | leaf a =>
   simp only [into, Tree.need.injEq] at h1
   exact ⟨h1.1, all_into (T := t) h1.2 h2 h3⟩
  | node c x y =>
   simp only [into, Tree.need.injEq] at h1
   exact ⟨h1.1, all_into (T := t) h1.2 h2 h3⟩
  | tt x =>
   simp only [into, Tree.need.injEq] at h1
   exact ⟨h1.1, all_into (T := t) h1.2 h2 h3⟩
  | ff x =>
   simp only [into, Tree.need.injEq] at h1
   exact ⟨h1.1, all_into (T := t) h1.2 h2 h3⟩
  | nn x =>
   simp only [into, Tree.need.injEq] at h1
   exact ⟨h1.1, all_into (T := t) h1.2 h2 h3⟩
  | both x y => cases h2
 | .amb l r, .both x y, h1, h2, h3 => by
  have h1 : Tree.amb l r = Tree.amb (into l x) (into r y) := h1
  have h2 : (match fits l x with | true => fits r y | false => false) = true := h2
  simp only [Tree.amb.injEq] at h1
  split at h2
  ·rename_i hf
   exact ⟨all_into (T := l) h1.1 hf h3.1, all_into (T := r) h1.2 h2 h3.2⟩
  ·cases h2
 | .amb l r, .leaf a, h1, h2, h3 => by
  have h1 : Tree.amb l r = Tree.amb (into l (.leaf a)) (into r (.leaf a)) := h1
  have h2 : (match fits l (.leaf a) with | true => fits r (.leaf a) | false => false) = true := h2
  simp only [Tree.amb.injEq] at h1
  split at h2
  ·rename_i hf
   exact ⟨all_into (T := l) h1.1 hf h3, all_into (T := r) h1.2 h2 h3⟩
  ·cases h2
 | .amb l r, .node b x y, h1, h2, h3 => by
  have h1 : Tree.amb l r = Tree.amb (into l (.node b x y)) (into r (.node b x y)) := h1
  have h2 : (match fits l (.node b x y) with | true => fits r (.node b x y) | false => false) = true := h2
  simp only [Tree.amb.injEq] at h1
  split at h2
  ·rename_i hf
   exact ⟨all_into (T := l) h1.1 hf h3, all_into (T := r) h1.2 h2 h3⟩
  ·cases h2
 | .amb l r, .need b x, h1, h2, h3 => by
  have h1 : Tree.amb l r = Tree.amb (into l (.need b x)) (into r (.need b x)) := h1
  have h2 : (match fits l (.need b x) with | true => fits r (.need b x) | false => false) = true := h2
  simp only [Tree.amb.injEq] at h1
  split at h2
  ·rename_i hf
   exact ⟨all_into (T := l) h1.1 hf h3, all_into (T := r) h1.2 h2 h3⟩
  ·cases h2
 | .amb l r, .tt x, h1, h2, h3 => by
  have h1 : Tree.amb l r = Tree.amb (into l (.tt x)) (into r (.tt x)) := h1
  have h2 : (match fits l (.tt x) with | true => fits r (.tt x) | false => false) = true := h2
  simp only [Tree.amb.injEq] at h1
  split at h2
  ·rename_i hf
   exact ⟨all_into (T := l) h1.1 hf h3, all_into (T := r) h1.2 h2 h3⟩
  ·cases h2
 | .amb l r, .ff x, h1, h2, h3 => by
  have h1 : Tree.amb l r = Tree.amb (into l (.ff x)) (into r (.ff x)) := h1
  have h2 : (match fits l (.ff x) with | true => fits r (.ff x) | false => false) = true := h2
  simp only [Tree.amb.injEq] at h1
  split at h2
  ·rename_i hf
   exact ⟨all_into (T := l) h1.1 hf h3, all_into (T := r) h1.2 h2 h3⟩
  ·cases h2
 | .amb l r, .nn x, h1, h2, h3 => by
  have h1 : Tree.amb l r = Tree.amb (into l (.nn x)) (into r (.nn x)) := h1
  have h2 : (match fits l (.nn x) with | true => fits r (.nn x) | false => false) = true := h2
  simp only [Tree.amb.injEq] at h1
  split at h2
  ·rename_i hf
   exact ⟨all_into (T := l) h1.1 hf h3, all_into (T := r) h1.2 h2 h3⟩
  ·cases h2
 | .fail n, S, h1, h2, h3 => by cases S <;> cases h2
theorem loop_all {P : Program} {rec : Code → St → Tree (X × St)} (hrec : RecOk P rec) {c : Code} {sB : St} (hlow : sB.hp.low = sB.hp.next) {ι : Type} (slots slotsX : List Nat) (head : ι → St) (μ : ι → Nat) (good : ι → Prop) (fin : ι → X × St)
  (hdec : ∀ x, good x → ((rec c (head x)).bind (canonT slots slotsX sB)).All fun p => match p.1 with | .normal => ∃ y, p.2.Le (head y) ∧ good y ∧ μ y < μ x ∧ fin y = fin x | _ => p = fin x) (x : ι) (hx : good x) : ComesF P (.loop c) sB (head x) fun q => q = fin x :=
 loop_is hrec hlow slots slotsX head μ good fin (fun y => (rec c (head y)).bind (canonT slots slotsX sB)) (fun _ _ => rfl) hdec x hx
section
variable {P : Program} {rec : Code → St → Tree (X × St)}
theorem comesF_seq {a b : Code} {sB st : St} {φ ψ : X × St → Prop} (ha : ComesF P a sB st φ) (hb : ∀ q, φ q → match q.1 with | .normal => ComesF P b sB q.2 ψ | _ => ψ q) : ComesF P (.seq a b) sB st ψ := by
 intro ro ds0 E0 w0 ds E act w Q rh0 r s hz hm hro hq
 refine wpIn_seq (ha ro ds0 E0 w0 ds E act w _ rh0 r s hz hm hro fun q hφ => ?_)
 intro ds' E' a' w' r' s' hz' m'
 have h := hb q hφ
 obtain ⟨x, st1⟩ := q
 cases x with
 | normal => exact h ro ds0 E0 w0 ds' E' a' w' Q rh0 r' s' hz' m' hro hq
 | exit i => exact hq _ h ds' E' a' w' r' s' hz' m'
 | ret => exact hq _ h ds' E' a' w' r' s' hz' m'
theorem comesF_block {id : Nat} {c : Code} {sB st : St} {φ : X × St → Prop} (h : ComesF P c sB st fun q => φ (outBlk id q)) : ComesF P (.block id c) sB st φ := by
 intro ro ds0 E0 w0 ds E act w Q rh0 r s hz hm hro hq
 refine wpIn_block (h ro ds0 E0 w0 ds E act w _ rh0 r s hz hm hro fun q hφ => ?_)
 intro ds' E' a' w' r' s' hz' m'
 have h := hq _ hφ
 obtain ⟨x, st1⟩ := q
 cases x with
 | normal => exact h ds' E' a' w' r' s' hz' m'
 | ret => exact h ds' E' a' w' r' s' hz' m'
 | exit i =>
  cases hi : Nat.beq i id with
  | true =>
   simp only [outBlk, hi] at h
   have e := Nat.eq_of_beq_eq_true hi
   simp only [X.out, Exit.inBlock, if_pos e]
   exact h ds' E' a' w' r' s' hz' m'
  | false =>
   simp only [outBlk, hi] at h
   have hne : ¬ i = id := fun e => by subst e; simp at hi
   simp only [X.out, Exit.inBlock, if_neg hne]
   exact h ds' E' a' w' r' s' hz' m'
def navC : Code → List Bool → Code
 | c, [] => c
 | .seq a b, d :: p => match d with | false => navC a p | true => navC b p
 | .block _ c, _ :: p => navC c p
 | .scope c, _ :: p => navC c p
 | .cond _ a b, d :: p => match d with | false => navC a p | true => navC b p
 | c, _ => c
theorem comesF_eq {c c' : Code} {sB st : St} {φ : X × St → Prop} (e : c = c') (h : ComesF P c' sB st φ) : ComesF P c sB st φ := by rw [e]; exact h
def pieceT (rec : Code → St → Tree (X × St)) (slots slotsX : List Nat) (c : Code) (sB st : St) : Tree (X × St) := (rec c st).bind (canonT slots slotsX sB)
theorem comesF_piece (hrec : RecOk P rec) {c : Code} {sB st : St} {φ : X × St → Prop} (hlow : sB.hp.low = sB.hp.next) (slots slotsX : List Nat) {S : Sk (X × St)} (h1 : pieceT rec slots slotsX c sB st = into (pieceT rec slots slotsX c sB st) S) (h2 : fits (pieceT rec slots slotsX c sB st) S = true) (h3 : S.All φ) : ComesF P c sB st φ :=
 comesF_round hrec hlow slots slotsX (all_into h1 h2 h3)
theorem loop_pieces {c : Code} {sB : St} {ι : Type} (head : ι → St) (μ : ι → Nat) (good : ι → Prop) (fin : ι → X × St)
  (hdec : ∀ x, good x → ComesF P c sB (head x) fun p => match p.1 with | .normal => ∃ y, p.2.Le (head y) ∧ good y ∧ μ y < μ x ∧ fin y = fin x | _ => p = fin x) (x : ι) (hx : good x) : ComesF P (.loop c) sB (head x) fun q => q = fin x := by
 refine comesF_loop head μ (fun y => good y ∧ fin y = fin x) (fun q => q = fin x) (fun y hy => ?_) x ⟨hx, rfl⟩
 refine (hdec y hy.1).mono fun p hp => ?_
 obtain ⟨x1, st1⟩ := p
 cases x1 with
 | normal =>
  obtain ⟨z, h1, h2, h3, h4⟩ := hp
  exact ⟨z, h1, ⟨h2, h4.trans hy.2⟩, h3⟩
 | exit i => exact Eq.trans hp hy.2
 | ret => exact Eq.trans hp hy.2
end
end Go.Ev
namespace Go.Ev
open Go
structure SkLeads {α : Type} (p : α → Prop) (S : Sk α) : Prop where
 all : S.All p
theorem sk_need {α : Type} {p : α → Prop} {b : Bool} {S : Sk α} (h : b = true) (hs : SkLeads p S) : SkLeads p (.need b S) := ⟨h, hs.all⟩
theorem sk_yes {α : Type} {p : α → Prop} {b : Bool} {S S' : Sk α} (h : b = true) (hs : SkLeads p S) : SkLeads p (.node b S S') := ⟨by subst h; exact hs.all⟩
theorem sk_no {α : Type} {p : α → Prop} {b : Bool} {S S' : Sk α} (h : b = false) (hs : SkLeads p S') : SkLeads p (.node b S S') := ⟨by subst h; exact hs.all⟩
theorem sk_either {α : Type} {p : α → Prop} {b : Bool} {S S' : Sk α} (h : b = true → SkLeads p S) (h' : b = false → SkLeads p S') : SkLeads p (.node b S S') := by
 cases hb : b with
 | true => exact ⟨(h hb).all⟩
 | false => exact ⟨(h' hb).all⟩
theorem sk_tt {α : Type} {p : α → Prop} {S : Sk α} (hs : SkLeads p S) : SkLeads p (.tt S) := ⟨hs.all⟩
theorem sk_ff {α : Type} {p : α → Prop} {S : Sk α} (hs : SkLeads p S) : SkLeads p (.ff S) := ⟨hs.all⟩
theorem sk_nn {α : Type} {p : α → Prop} {S : Sk α} (hs : SkLeads p S) : SkLeads p (.nn S) := ⟨hs.all⟩
theorem sk_both {α : Type} {p : α → Prop} {S S' : Sk α} (hs : SkLeads p S) (hs' : SkLeads p S') : SkLeads p (.both S S') := ⟨⟨hs.all, hs'.all⟩⟩
theorem sk_leaf {α : Type} {p : α → Prop} {a : α} (h : p a) : SkLeads p (.leaf a) := ⟨h⟩
def Rnd (head : Nat → St) (fin : Nat → X × St) (k : Nat) (q : X × St) : Prop := match q.1 with
 | .normal => q.2.Le (head (k + 1)) ∧ fin (k + 1) = fin k
 | _ => q = fin k
def RndEnd (fin : X × St) (q : X × St) : Prop := match q.1 with
 | .normal => False
 | _ => q = fin
theorem rnd_next {head : Nat → St} {fin : Nat → X × St} {k : Nat} {st : St} (h : st.Le (head (k + 1))) (hf : fin (k + 1) = fin k) : Rnd head fin k (.normal, st) := ⟨h, hf⟩
theorem loop_count {P : Program} {rec : Code → St → Tree (X × St)} (hrec : RecOk P rec) {c : Code} {sB : St} (hlow : sB.hp.low = sB.hp.next) (slots slotsX : List Nat) (head : Nat → St) (fin : Nat → X × St) (n : Nat) (T : Nat → Tree (X × St)) (S : Nat → Sk (X × St))
  (hT : ∀ k, (rec c (head k)).bind (canonT slots slotsX sB) = T k) (h1 : ∀ k, T k = into (T k) (S k)) (h2 : ∀ k, fits (T k) (S k) = true)
  (hstep : ∀ k, k < n → SkLeads (Rnd head fin k) (S k)) (hend : SkLeads (RndEnd (fin n)) (S n)) : ComesF P (.loop c) sB (head 0) fun q => q = fin 0 := by
 refine loop_all hrec hlow slots slotsX head (fun k => n - k) (fun k => k ≤ n) fin (fun k hk => ?_) 0 (Nat.zero_le n)
 rw [hT]
 have hk : k ≤ n := hk
 rcases Nat.lt_or_eq_of_le hk with h | h
 ·have := all_into (h1 k) (h2 k) (hstep k h).all
  refine Tree.All_mono (fun p hp => ?_) this
  unfold Rnd at hp
  obtain ⟨x1, st1⟩ := p
  cases x1 with
  | normal => exact ⟨k + 1, hp.1, h, by omega, hp.2⟩
  | exit i => exact hp
  | ret => exact hp
 ·subst h
  refine Tree.All_mono (fun p hp => ?_) (all_into (h1 k) (h2 k) hend.all)
  unfold RndEnd at hp
  obtain ⟨x1, st1⟩ := p
  cases x1 with
  | normal => exact hp.elim
  | exit i => exact hp
  | ret => exact hp
theorem rnd_lt {k n : Nat} (h : k < n) : decide ((k : Int) < (n : Int)) = true ∧ (decide ((0 : Int) ≤ (k : Int)) && decide ((k : Int) < (n : Int))) = true ∧ Nat.blt (0 + Int.toNat (k : Int)) n = true := by
 have a : decide ((k : Int) < (n : Int)) = true := by simp only [decide_eq_true_eq]; omega
 have b : decide ((0 : Int) ≤ (k : Int)) = true := by simp only [decide_eq_true_eq]; omega
 refine ⟨a, by rw [a, b]; rfl, ?_⟩
 rw [Nat.zero_add, Int.toNat_natCast, Nat.blt_eq]
 exact h
theorem rnd_end (n : Nat) : decide ((n : Int) < (n : Int)) = false := by simp
theorem idx_nat (k : Nat) : 0 + Int.toNat (k : Int) = k := by rw [Nat.zero_add, Int.toNat_natCast]
end Go.Ev
