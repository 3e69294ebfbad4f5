/- What a piece of code comes to: a calculus over the evaluator's states, for loops within loops. Conditions: none. -/
import Derived.Test.YtlpchgidkibbeaaGreatDoorCut
namespace Go.Ev
open Go

section
variable {P : Program} {rec : Code → St → Tree (X × St)}

/-- from this state the code comes to one of these outcomes -/
def Comes (P : Program) (c : Code) (st : St) (φ : X × St → Prop) : Prop := ∀ (ro : Option Nat) (ds : List Deferred) (E : Env) (a : Act) (w : World) (Q : Exit → Act → World → Prop), R ds E st a w → RoAt ro w →
  (∀ q, φ q → After ds st E w Q q) → c.wpIn (G ro) 0 P Q a w

theorem After.later {ds ds' : List Deferred} {st st1 : St} {E E' : Env} {w w' : World} {Q : Exit → Act → World → Prop} {q : X × St} (h : After ds st E w Q q) (s : Stp E st.hp w E' st1.hp w') (hz : st1.size = st.size) (hm : Marks w ds ds' w') :
    After ds' st1 E' w' Q q := fun D2 E2 a2 w2 r2 s2 hz2 m2 => h D2 E2 a2 w2 r2 (s.trans s2) (hz2.trans hz) (Marks.trans s.fr.size s2.fr.oth hm m2)

theorem comes_rec (hrec : RecOk P rec) {c : Code} {st : St} {φ : X × St → Prop} (h : (rec c st).All φ) : Comes P c st φ := fun ro ds E a w Q r hro hq => hrec c st ro ds E a w Q r hro (Tree.All_mono hq h)
theorem Comes.mono {c : Code} {st : St} {φ ψ : X × St → Prop} (h : Comes P c st φ) (hs : ∀ q, φ q → ψ q) : Comes P c st ψ := fun ro ds E a w Q r hro hq => h ro ds E a w Q r hro fun q hφ => hq q (hs q hφ)
theorem comes_seq {a b : Code} {st : St} {φ ψ : X × St → Prop} (ha : Comes P a st φ) (hb : ∀ q, φ q → match q.1 with | .normal => Comes P b q.2 ψ | _ => ψ q) : Comes P (.seq a b) st ψ := by
  intro ro ds E act w Q r hro hq
  refine wpIn_seq (ha ro ds E act w _ r hro fun q hφ => ?_)
  intro ds' E' a' w' r' s' hz' m'
  have h := hb q hφ
  obtain ⟨x, st1⟩ := q
  cases x with
  | normal => exact h ro ds' E' a' w' Q r' (hro.oth s'.fr.oth) fun q2 h2 => (hq q2 h2).later s' hz' m'
  | exit i => exact hq _ h ds' E' a' w' r' s' hz' m'
  | ret => exact hq _ h ds' E' a' w' r' s' hz' m'
/-- the outcome of a block -/
def outBlk (id : Nat) (q : X × St) : X × St := match q.1 with
  | .exit i => match Nat.beq i id with
    | true => (.normal, q.2)
    | false => q
  | _ => q
theorem comes_block {id : Nat} {c : Code} {st : St} {φ : X × St → Prop} (h : Comes P c st fun q => φ (outBlk id q)) : Comes P (.block id c) st φ := by
  intro ro ds E act w Q r hro hq
  refine wpIn_block (h ro ds E act w _ r hro fun q hφ => ?_)
  intro ds' E' a' w' r' s' hz' m'
  have h := hq _ hφ
  obtain ⟨x, st1⟩ := q
  cases x with
  | normal => exact h ds' E' a' w' r' s' hz' m'
  | ret => exact h ds' E' a' w' r' s' hz' m'
  | exit i =>
    cases hi : Nat.beq i id with
    | true =>
      simp only [outBlk, hi] at h
      have e := Nat.eq_of_beq_eq_true hi
      simp only [X.out, Exit.inBlock, if_pos e]
      exact h ds' E' a' w' r' s' hz' m'
    | false =>
      simp only [outBlk, hi] at h
      have hne : ¬ i = id := fun e => by subst e; simp at hi
      simp only [X.out, Exit.inBlock, if_neg hne]
      exact h ds' E' a' w' r' s' hz' m'
theorem comes_scope {c : Code} {st : St} {φ : X × St → Prop} (h : Comes P c st φ) : Comes P (.scope c) st φ := by
  intro ro ds E act w Q r hro hq
  refine scope_straightG (h ro ds E act w _ r hro fun q hφ => ?_)
  intro ds' E' a' w' r' s' hz' m'
  have h := hq _ hφ ds' E' a' w' r' s' hz' m'
  obtain ⟨x, st1⟩ := q
  cases x <;> exact h
theorem comes_cond {co : Operand} {a b : Code} {st : St} {t : Bool} {φ : X × St → Prop} (ht : st.ρ co = some (.one (.lit (.bool t)))) (ha : t = true → Comes P a st φ) (hb : t = false → Comes P b st φ) : Comes P (.cond co a b) st φ := by
  intro ro ds E act w Q r hro hq
  obtain ⟨hv, _⟩ := r.fits [co] co (by simp) _ ht
  cases t with
  | true => exact wpIn_cond_true hv (ha rfl ro ds E act w Q r hro hq)
  | false => exact wpIn_cond_false hv (hb rfl ro ds E act w Q r hro hq)
theorem comes_loop {c : Code} {ι : Type} (head : ι → St) (μ : ι → Nat) (good : ι → Prop) (φ : X × St → Prop)
    (hround : ∀ x, good x → Comes P c (head x) fun p => match p.1 with | .normal => ∃ y, p.2 = head y ∧ good y ∧ μ y < μ x | _ => φ p) : ∀ (x : ι), good x → Comes P (.loop c) (head x) φ := by
  have key : ∀ (m : Nat) (x : ι), μ x < m → good x → ∀ (ro : Option Nat) (ds : List Deferred) (E : Env) (a : Act) (w : World) (Q : Exit → Act → World → Prop), R ds E (head x) a w → RoAt ro w →
      (∀ q, φ q → After ds (head x) E w Q q) → Code.roundsIn (G ro) 0 P c Q m a w := by
    intro m
    induction m with
    | zero => intro x hm; omega
    | succ m ih =>
      intro x hm hx ro ds E a w Q r hro hq
      rw [roundsIn_succ]
      refine hround x hx ro ds E a w _ r hro fun p hp => ?_
      intro ds' E2 a2 w2 r2 s2 hz2 m2
      obtain ⟨x1, st1⟩ := p
      cases x1 with
      | normal =>
        obtain ⟨y, e, hy, hlt⟩ := hp
        simp only at e
        subst e
        exact ih y (by omega) hy ro ds' E2 a2 w2 Q r2 (hro.oth s2.fr.oth) fun q h2 => (hq q h2).later s2 hz2 m2
      | exit i => exact hq _ hp ds' E2 a2 w2 r2 s2 hz2 m2
      | ret => exact hq _ hp ds' E2 a2 w2 r2 s2 hz2 m2
  intro x hx ro ds E a w Q r hro hq
  exact wpIn_loop_rounds (μ x + 1) (key (μ x + 1) x (Nat.lt_succ_self _) hx ro ds E a w Q r hro hq)
/-- temporaries may be forgotten -/
theorem comes_pick {c : Code} {st : St} {φ : X × St → Prop} (slots : List Nat) (hsl : (slots.all fun t => Nat.blt t lim) = true) (h : Comes P c st fun p => φ (p.1, { p.2 with env := pickE slots p.2.env })) : Comes P c st φ := by
  intro ro ds E act w Q r hro hq
  refine h ro ds E act w _ r hro fun p hφ => ?_
  intro ds' E' a' w' r' s' hz' m'
  exact hq _ hφ ds' E' a' w' ⟨r'.rh, r'.defers, r'.size, fun t x hx => r'.env t x (pickE_sub hsl hx)⟩ s' hz' m'
/-- back at the memory with which a piece of code began, if it has written nothing that was there -/
theorem comes_back {c : Code} {st : St} {φ : X × St → Prop} (slots : List Nat) (h : Comes P c { st with hp := { st.hp with low := st.hp.next } } fun p => match back slots st p.2 with | some st' => φ (p.1, st') | none => False) : Comes P c st φ := by
  intro ro ds E act w Q r hro hq
  have r0 : R ds E { st with hp := { st.hp with low := st.hp.next } } act w := ⟨r.rh.low _, r.defers, r.size, r.env⟩
  refine h ro ds E act w _ r0 hro fun p hφ => ?_
  intro ds' E' a' w' r' s' hz' m'
  simp only at hφ
  split at hφ
  · rename_i st' hb
    obtain ⟨r3, s3, h3, h4⟩ := back_ok hb r.rh r' s' hz'
    exact hq (p.1, st') hφ ds' E a' w' r3 (by rw [show ((p.1, st') : X × St).2.hp = st.hp from h3]; exact s3) h4 m'
  · exact hφ.elim

/-! ### Code that is cut at its loops -/
variable (P rec) in
/-- what is asked of an outcome of code that is cut at its loops: each loop comes to what the rest goes on from -/
def OComes (c : Code) (φ : X × St → Prop) : Nat → O → Prop
  | _, .done x st => φ (x, st)
  | 0, .stop _ _ => False
  | k + 1, .stop p st => ∃ (ψ : X × St → Prop) (cut : Bool), Comes P (.loop (nthLoop c p)) st ψ ∧ ∀ q, ψ q → (evR rec cut c p q.1 q.2).All (OComes c φ k)
theorem comes_cut (hrec : RecOk P rec) {c : Code} {st : St} {φ : X × St → Prop} (k : Nat) (h : (evB rec c st).All (OComes P rec c φ k)) : Comes P c st φ := by
  intro ro ds E act w Q r hro hq
  have key : ∀ (k : Nat) (o : O) (ds1 : List Deferred) (st1 : St) (E1 : Env) (w1 : World), OComes P rec c φ k o → (∀ q, φ q → After ds1 st1 E1 w1 Q q) → RoAt ro w1 → OAfter P ro c ds1 st1 E1 w1 Q o := by
    intro k
    induction k with
    | zero =>
      intro o ds1 st1 E1 w1 ho hq1 _
      cases o with
      | done x st => exact hq1 _ ho
      | stop p st => exact ho.elim
    | succ k ih =>
      intro o ds1 st1 E1 w1 ho hq1 hro1
      cases o with
      | done x st => exact hq1 _ ho
      | stop p st2 =>
        obtain ⟨ψ, cut, hl, hrest⟩ := ho
        intro ds' E' a' w' r' s' hz' m'
        refine hl ro ds' E' a' w' _ r' (hro1.oth s'.fr.oth) fun q hψ => ?_
        intro ds3 E3 a3 w3 r3 s3 hz3 m3
        have ro3 : RoAt ro w3 := (hro1.oth s'.fr.oth).oth s3.fr.oth
        refine evR_ok hrec c r3 ro3 (Tree.All_mono (fun o ho => ?_) (hrest q hψ))
        exact ih o ds3 q.2 E3 w3 ho (fun q2 h2 => (hq1 q2 h2).later (s'.trans s3) (hz3.trans hz') (Marks.trans s'.fr.size s3.fr.oth m' m3)) ro3
  exact evB_ok hrec c r hro (Tree.All_mono (fun o ho => key k o ds st E w ho hq hro) h)

theorem comes_start {c : Code} {st : St} {φ : X × St → Prop} (slots : List Nat) (hsl : (slots.all fun t => Nat.blt t lim) = true) (h : Comes P c { st with env := pickE slots st.env } φ) : Comes P c st φ := by
  intro ro ds E act w Q r hro hq
  exact h ro ds E act w Q ⟨r.rh, r.defers, r.size, fun t x hx => r.env t x (pickE_sub hsl hx)⟩ hro hq
theorem comes_round (hrec : RecOk P rec) {c : Code} {st : St} {φ : X × St → Prop} (slots : List Nat) (h : (roundT rec slots slots c st).All φ) : Comes P c st φ := by
  refine comes_back slots (comes_rec hrec (Tree.All_mono (fun p hp => ?_) (Tree.All_bind h)))
  obtain ⟨x, st1⟩ := p
  cases x <;> (simp only at hp ⊢; split at hp <;> (rename_i hb; rw [hb]; exact hp))
/-- a round that holds one loop: the loop's head, or where the round ends, back at the memory with which it began -/
def roundO (slotsS slots : List Nat) (st0 : St) : O → Tree ((X × St) ⊕ (List Bool × St))
  | .done x st => match back slots st0 st with
    | some st' => .leaf (.inl (x, st'))
    | none => .fail 313
  | .stop p st => match slotsS.all fun t => Nat.blt t lim with
    | true => .leaf (.inr (p, { st with env := pickE slotsS st.env }))
    | false => .fail 314
theorem comes_nest (hrec : RecOk P rec) {c : Code} {st : St} {φ : X × St → Prop} (slotsS slots : List Nat)
    (h : ((evB rec c { st with hp := { st.hp with low := st.hp.next } }).bind (roundO slotsS slots st)).All fun u => match u with
      | .inl q => φ q
      | .inr (p, S) => ∃ ψ : X × St → Prop, Comes P (.loop (nthLoop c p)) S ψ ∧ ∀ q, ψ q → ((evR rec false c p q.1 q.2).bind (roundO slotsS slots st)).All fun u => match u with
        | .inl q => φ q
        | .inr _ => False) : Comes P c st φ := by
  refine comes_back slots (comes_cut hrec 1 (Tree.All_mono (fun o ho => ?_) (Tree.All_bind h)))
  have fin : ∀ {o : O} {ξ : List Bool × St → Prop}, (∀ x, ¬ ξ x) → (roundO slotsS slots st o).All (fun u => match u with | .inl q => φ q | .inr y => ξ y) → OComes P rec c (fun p => match back slots st p.2 with | some st' => φ (p.1, st') | none => False) 0 o := fun {o ξ} hn ho => by
    cases o with
    | done x st1 =>
      simp only [roundO] at ho
      simp only [OComes]
      split at ho
      · exact ho
      · exact ho.elim
    | stop p st1 =>
      simp only [roundO] at ho
      split at ho
      · exact (hn _ ho).elim
      · exact ho.elim
  cases o with
  | done x st1 =>
    simp only [roundO] at ho
    simp only [OComes]
    split at ho
    · exact ho
    · exact ho.elim
  | stop p st1 =>
    simp only [roundO] at ho
    split at ho
    · rename_i hsl
      obtain ⟨ψ, hl, hrest⟩ := ho
      exact ⟨ψ, false, comes_start slotsS hsl hl, fun q hq => Tree.All_mono (fun o ho => fin (ξ := fun _ => False) (fun _ h => h) ho) (Tree.All_bind (hrest q hq))⟩
    · exact ho.elim

/-- a function whose code comes to outcomes that hand back this value and this memory -/
theorem call_comes {f : FuncId} {fn : Func} {c : Code} (hfn : P.funcs[f]? = some fn) (hc : fn.body = some c) {args : List A} (hsz : (Nat.ble args.length fn.ntmps && Nat.ble args.length lim) = true) {h : Hp} (m : Bool × Bool) {v : A} {h' : Hp}
    (hall : Comes P c (st0 fn args h m) fun p => (exitS P fn.results.toList h p).All fun u => u.2 = (v, h')) : CallAt P f args h v h' := by
  intro E w vals rh hargs
  rw [Bool.and_eq_true] at hsz
  have hn := Nat.le_of_ble_eq_true hsz.1
  have hl := Nat.le_of_ble_eq_true hsz.2
  have hlen := hargs.length
  refine callsIn_wide.1 (callsIn_of_wp_marks (n := 0) hfn hc trivial ?_)
  have r0 : R [] E (st0 fn args h m) { tmps := vals.toArray ++ Array.replicate (fn.ntmps - vals.toArray.size) undef, defers := [] } w := by
    refine ⟨rh.low _, rfl, by simp [st0]; omega, fun t y hy => ?_⟩
    rcases initEnv_get (by omega) hy with ⟨j, e, hj⟩ | h0
    · rw [Nat.zero_add] at e; subst e
      obtain ⟨z, hz, hzi⟩ := hargs.get t y hj
      have : (vals.toArray ++ Array.replicate (fn.ntmps - vals.toArray.size) undef).getD t undef = z := by
        have ht : t < vals.length := (List.getElem?_eq_some_iff.1 hz).1
        simp only [Array.getD_eq_getD_getElem?]
        rw [Array.getElem?_append_left (by simpa using ht)]
        simp [hz]
      simp only [this]; exact hzi
    · rw [Tr.get_nil] at h0; cases h0
  refine hall none [] E _ w _ r0 (fun l hl => by cases hl) fun p hp => ?_
  obtain ⟨x, st⟩ := p
  intro D' E' a' w' r' s' _ m'
  obtain ⟨u, hu, hue⟩ := Tree.All_run hp
  obtain ⟨l, hD, hm⟩ := m'
  rw [List.append_nil] at hD
  subst hD
  obtain ⟨hne, va, hva, e⟩ := exitS_some hu
  have fin : LeavesInM Fence.wide 0 P fn a'.tmps (fun e w' => ∃ x E', e = .returned x ∧ v.Is E' x ∧ Stp E h w E' h' w') a'.defers .returning w' := by
    rw [r'.defers]
    refine leaves_ok hm fun w2 hg => ?_
    have r2 : R D' E' st a' w2 := ⟨hg.rh r'.rh, r'.defers, r'.size, r'.env⟩
    have s2 : Stp E { h with low := h.next } w E' st.hp w2 := ⟨hg.rh r'.rh, hg.fr s'.fr, s'.next, s'.low, s'.globs, s'.lp⟩
    obtain ⟨y, hy, hyi⟩ := resultA_ok r2 hva
    obtain ⟨_, E2, h2, h3⟩ := leave_ok rh hyi s2 e
    have hue : u.2 = (v, h') := hue
    rw [hue] at h2 h3
    exact ⟨y, hy, y, E2, rfl, h2, h3⟩
  cases x with
  | exit i => exact absurd rfl (hne i)
  | normal => exact fin
  | ret => exact fin
end
end Go.Ev
