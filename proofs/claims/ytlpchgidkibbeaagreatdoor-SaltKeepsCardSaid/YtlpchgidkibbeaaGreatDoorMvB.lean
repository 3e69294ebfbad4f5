/- Loops that write lists that were there: behind each round what it has laid is forgotten. Conditions: none. Entries for lists that are parts of lists: the part is looked at as a list by itself. Conditions: the callee writes nothing. -/
import Derived.Test.YtlpchgidkibbeaaGreatDoorLoops
import Derived.Test.YtlpchgidkibbeaaGreatDoorBas
namespace Go.Ev
open Go
def oldB (n : Nat) : Option Blk → Bool
 | none => true
 | some ⟨_, _, .rows _ _⟩ => true
 | some ⟨_, _, .flat cs⟩ => cs.all (oldC n)
 | some ⟨_, _, .map _⟩ => false
 | some ⟨_, _, .imap ..⟩ => false
 | some ⟨_, _, .iter ..⟩ => false
def oldBs (n : Nat) : List (Option Blk) → Bool
 | [] => true
 | b :: bs => match oldB n b with | true => oldBs n bs | false => false
theorem oldBs_get {n : Nat} : ∀ {bs : List (Option Blk)} {i : Nat} {b : Blk}, oldBs n bs = true → bs[i]? = some (some b) → oldB n (some b) = true
 | b0 :: bs, 0, b, h, hb => by
  unfold oldBs at h
  simp only [List.getElem?_cons_zero, Option.some.injEq] at hb
  subst hb
  split at h
  ·assumption
  ·cases h
 | b0 :: bs, i + 1, b, h, hb => by
  unfold oldBs at h
  split at h
  ·exact oldBs_get h (by simpa using hb)
  ·cases h
 | [], _, _, _, hb => by simp at hb
theorem oldB_is {E E' : Env} {n : Nat} (hE : ∀ id p, id < n → E' id = some p → E id = some p) {w : World} {p : Nat × Nat × Nat} {b : Blk} (ho : oldB n (some b) = true) (h : blkIs E' w p b) : blkIs E w p b := by
 obtain ⟨ro, e, body⟩ := b
 cases body with
 | map es => cases ho
 | imap n f g x => cases ho
 | iter id n => cases ho
 | rows k cols =>
  obtain ⟨arr, fz, h1, h2, h3, h4⟩ := h.cells rfl
  refine .inl ⟨arr, fz, h1, h2, ⟨h3.1, fun k j c hk hj => ?_⟩, h4⟩
  obtain ⟨x, hx, hi⟩ := h3.2 k j c hk hj
  exact ⟨x, hx, at_is hi⟩
 | flat cs =>
  obtain ⟨arr, fz, h1, h2, h3, h4⟩ := h.cells rfl
  refine .inl ⟨arr, fz, h1, h2, ⟨h3.1, fun i c hc => ?_⟩, h4⟩
  obtain ⟨x, hx, hi⟩ := h3.2 i c hc
  have hoc : oldC n c = true := by
   have ho : cs.all (oldC n) = true := ho
   rw [List.all_eq_true] at ho
   rw [nth_eq] at hc
   exact ho c (List.mem_of_getElem? hc)
  exact ⟨x, hx, oldC_is hE hoc hi⟩
def dropAt (slots : List Nat) (sB st : St) : Option St := match pickOk sB.hp.next st.env slots && (oldBs sB.hp.next (newBlks st.hp.heap 0 sB.hp.next) && (match st.hp.lp with | none => true | some _ => false)) with
 | true => some { st with env := pickE slots st.env, wide := sB.wide, keep := sB.keep, hp := { heap := layBlks .nil 0 (newBlks st.hp.heap 0 sB.hp.next), next := sB.hp.next, low := min sB.hp.low st.hp.low, globs := sB.hp.globs, lp := none } }
 | false => none
theorem newBlks_at {t : Tr Blk} : ∀ {n i k : Nat}, k < n → (newBlks t i n)[k]? = some (t.get D (i + k))
 | 0, _, _, h => by omega
 | n + 1, i, 0, _ => by simp [newBlks]
 | n + 1, i, k + 1, h => by
  simp only [newBlks, List.getElem?_cons_succ]
  rw [newBlks_at (by omega)]
  congr 2
  omega
theorem newBlks_size {t : Tr Blk} : ∀ {n i : Nat}, (newBlks t i n).length = n
 | 0, _ => rfl
 | n + 1, i => by simp [newBlks, newBlks_size]
theorem dropAt_ok {slots : List Nat} {sB st st' : St} (hb : dropAt slots sB st = some st') {ds' : List Deferred} {E0 E2 : Env} {a2 : Act} {w0 w2 : World} (rh : RH E0 sB.hp w0) (r2 : R ds' E2 st a2 w2)
  (s : Stp E0 sB.hp w0 E2 st.hp w2) (hz : st.size = sB.size) : ∃ E3, R ds' E3 st' a2 w2 ∧ Stp E0 sB.hp w0 E3 st'.hp w2 ∧ st'.size = sB.size := by
 unfold dropAt at hb
 split at hb
 ·rename_i hc
  simp only [Bool.and_eq_true] at hc
  obtain ⟨h1, h2, h3⟩ := hc
  have hlp : st.hp.lp = none := by
   split at h3
   ·assumption
   ·cases h3
  injection hb with hb; subst hb
  have hnl : 0 + (newBlks st.hp.heap 0 sB.hp.next).length ≤ lim := by rw [newBlks_size, Nat.zero_add]; exact rh.nlim
  have hget : ∀ k, (layBlks .nil 0 (newBlks st.hp.heap 0 sB.hp.next)).get D k = if k < sB.hp.next then st.hp.heap.get D k else none := fun k => by
   rw [layBlks_get hnl, newBlks_size]
   by_cases hk : k < sB.hp.next
   ·rw [if_pos ⟨Nat.zero_le _, by omega⟩, if_pos hk, Nat.sub_zero, newBlks_at hk, Nat.zero_add]
    rfl
   ·rw [if_neg (by omega), if_neg hk]
    exact Tr.get_nil _ _
  obtain ⟨E3, hE3⟩ : ∃ E3 : Env, ∀ id, E3 id = if id < sB.hp.next then E2 id else none := ⟨_, fun _ => rfl⟩
  have hsub : ∀ id p, id < sB.hp.next → E2 id = some p → E3 id = some p := fun id p hid hp => by rw [hE3, if_pos hid]; exact hp
  have hsub' : ∀ id p, E3 id = some p → id < sB.hp.next ∧ E2 id = some p := fun id p hp => by
   rw [hE3] at hp
   split at hp
   ·exact ⟨by assumption, hp⟩
   ·cases hp
  have hext : E0.le E3 := fun id p hp => by
   have hid : id < sB.hp.next := by
    rcases Nat.lt_or_ge id sB.hp.next with h | h
    ·exact h
    ·rw [rh.dom id h] at hp; cases hp
   exact hsub id p hid (s.fr.ext _ _ hp)
  have hrh : RH E3 { heap := layBlks .nil 0 (newBlks st.hp.heap 0 sB.hp.next), next := sB.hp.next, low := min sB.hp.low st.hp.low, globs := sB.hp.globs, lp := none } w2 := by
   refine ⟨rh.nlim, fun id hid => ?_, fun id p hp => r2.rh.lt id p (hsub' id p hp).2, fun id b hbk => ?_, fun id id' b b' p p' e1 e2 hro hp hp' he => ?_, fun g id hg => ?_, fun _ _ e => by cases e⟩
   ·have hid : sB.hp.next ≤ id := hid
    rw [hE3, if_neg (by omega)]
   ·have hbk : (layBlks .nil 0 (newBlks st.hp.heap 0 sB.hp.next)).get D id = some b := hbk
    rw [hget] at hbk
    split at hbk
    ·rename_i hid
     obtain ⟨p, hp, hi⟩ := r2.rh.blk id b hbk
     exact ⟨p, hsub id p hid hp, oldB_is (n := sB.hp.next) hsub (oldBs_get h2 (by rw [newBlks_at hid, Nat.zero_add, hbk])) hi⟩
    ·cases hbk
   ·have e1 : (layBlks .nil 0 (newBlks st.hp.heap 0 sB.hp.next)).get D id = some b := e1
    have e2 : (layBlks .nil 0 (newBlks st.hp.heap 0 sB.hp.next)).get D id' = some b' := e2
    rw [hget] at e1 e2
    split at e1
    ·split at e2
     ·exact r2.rh.inj id id' b b' p p' e1 e2 hro (hsub' _ _ hp).2 (hsub' _ _ hp').2 he
     ·cases e2
    ·cases e1
   ·obtain ⟨s', hs'⟩ := rh.glob g id hg
    exact ⟨s', hext _ _ hs'⟩
  refine ⟨E3, ⟨hrh, r2.defers, r2.size, fun t x hx => ?_⟩, ⟨hrh, ⟨hext, s.fr.os, s.fr.tape, s.fr.output, s.fr.size, fun b hb hno => s.fr.keep b hb fun id p hp he => ?_, fun id p hp => ?_, s.fr.oth⟩, Nat.le_refl _, Nat.min_le_left _ _, rfl, ?_⟩, hz⟩
  ·obtain ⟨g1, g2⟩ := pickE_get h1 hx
   exact oldA_is (n := sB.hp.next) hsub g2 (r2.env t x g1)
  ·have := hno id p hp he
   have h5 : min sB.hp.low st.hp.low ≤ st.hp.low := Nat.min_le_right _ _
   have h6 : id < min sB.hp.low st.hp.low := this
   omega
  ·obtain ⟨hid, hp2⟩ := hsub' id p hp
   rcases s.fr.new id p hp2 with h | ⟨h, _⟩
   ·exact .inl h
   ·omega
  ·show none = sB.hp.lp
   rw [← hlp, s.lp]
 ·cases hb
section
variable {P : Program} {rec : Code → St → Tree (X × St)}
theorem comesF_ofW {c : Code} {sB st : St} {φ : X × St → Prop} (slots slotsX : List Nat)
  (h : Comes P c st fun p => match dropAt (match p.1 with | .normal => slots | _ => slotsX) sB p.2 with | some st' => φ (p.1, st') | none => False) : ComesF P c sB st φ := by
 intro ro ds0 E0 w0 ds E a w Q rh0 r s hz hm hro hq
 refine h ro ds E a w Q r (hro.oth s.fr.oth) fun p hp => ?_
 intro ds' E' a' w' r' s' hz' m'
 simp only at hp
 split at hp
 ·rename_i st' hb
  obtain ⟨E3, r3, s3, z3⟩ := dropAt_ok hb rh0 r' (s.trans s') (hz'.trans hz)
  exact hq _ hp ds' E3 a' w' r3 s3 z3 (Marks.trans s.fr.size s'.fr.oth hm m')
 ·exact hp.elim
def dropT (slots slotsX : List Nat) (sB : St) (p : X × St) : Tree (X × St) := match dropAt (match p.1 with | .normal => slots | _ => slotsX) sB p.2 with
 | some st' => .leaf (p.1, st')
 | none => .fail 325
theorem comesF_roundW (hrec : RecOk P rec) {c : Code} {sB st : St} {φ : X × St → Prop} (slots slotsX : List Nat) (h : ((rec c st).bind (dropT slots slotsX sB)).All φ) : ComesF P c sB st φ := by
 refine comesF_ofW slots slotsX (comes_rec hrec (Tree.All_mono (fun p hp => ?_) (Tree.All_bind h)))
 unfold dropT at hp
 split at hp
 ·rename_i st' hb
  exact hp
 ·exact hp.elim
theorem loop_countW (hrec : RecOk P rec) {c : Code} {sB : St} (slots slotsX : List Nat) (head : Nat → St) (fin : Nat → X × St) (k0 n : Nat) (hk : k0 ≤ n) (T : Nat → Tree (X × St)) (S : Nat → Sk (X × St))
  (hT : ∀ k, (rec c (head k)).bind (dropT slots slotsX sB) = T k) (h1 : ∀ k, T k = into (T k) (S k)) (h2 : ∀ k, fits (T k) (S k) = true) (hstep : ∀ k, k0 ≤ k → k < n → SkLeads (Rnd head fin k) (S k)) (hend : SkLeads (RndEnd (fin n)) (S n)) : ComesF P (.loop c) sB (head k0) fun q => q = fin k0 := by
 refine comesF_loop head (fun k => n - k) (fun k => k0 ≤ k ∧ k ≤ n ∧ fin k = fin k0) _ (fun k hk => ?_) k0 ⟨Nat.le_refl _, hk, rfl⟩
 refine comesF_roundW hrec slots slotsX ?_
 rw [hT k]
 rcases Nat.lt_or_eq_of_le hk.2.1 with h | h
 ·refine Tree.All_mono (fun p hp => ?_) (all_into (h1 k) (h2 k) (hstep k hk.1 h).all)
  unfold Rnd at hp
  obtain ⟨x1, st1⟩ := p
  cases x1 with
  | normal => exact ⟨k + 1, hp.1, ⟨by omega, h, hp.2.trans hk.2.2⟩, by omega⟩
  | exit i => exact Eq.trans hp hk.2.2
  | ret => exact Eq.trans hp hk.2.2
 ·subst h
  refine Tree.All_mono (fun p hp => ?_) (all_into (h1 k) (h2 k) hend.all)
  unfold RndEnd at hp
  obtain ⟨x1, st1⟩ := p
  cases x1 with
  | normal => exact hp.elim
  | exit i => exact Eq.trans hp hk.2.2
  | ret => exact Eq.trans hp hk.2.2
theorem comesF_low {c : Code} {sB st : St} {φ : X × St → Prop} {l : Nat} (hl : l ≤ st.hp.low) (h : ComesF P c sB { st with hp := { st.hp with low := l } } φ) : ComesF P c sB st φ := by
 intro ro ds0 E0 w0 ds E a w Q rh0 r s hz hm hro hq
 refine h ro ds0 E0 w0 ds E a w Q rh0 ⟨⟨r.rh.nlim, r.rh.dom, r.rh.lt, r.rh.blk, r.rh.inj, r.rh.glob, r.rh.lp⟩, r.defers, r.size, r.env⟩ ?_ hz hm hro hq
 exact ⟨⟨s.rh.nlim, s.rh.dom, s.rh.lt, s.rh.blk, s.rh.inj, s.rh.glob, s.rh.lp⟩, ⟨s.fr.ext, s.fr.os, s.fr.tape, s.fr.output, s.fr.size, fun b hb hno => s.fr.keep b hb fun id p hp he => Nat.lt_of_lt_of_le (hno id p hp he) hl, fun id p hp => by
  rcases s.fr.new id p hp with h | ⟨h, h' | ⟨id0, p0, a1, a2, a3⟩⟩
  ·exact .inl h
  ·exact .inr ⟨h, .inl h'⟩
  ·exact .inr ⟨h, .inr ⟨id0, p0, a1, a2, Nat.le_trans hl a3⟩⟩, s.fr.oth⟩, s.next, Nat.le_trans hl s.low, s.globs, s.lp⟩
def dropO (slots slotsR : List Nat) (sB : St) : O → Tree ((X × St) ⊕ (List Bool × St))
 | .done x st => match dropAt slotsR sB st with
  | some st' => .leaf (.inl (x, st'))
  | none => .fail 327
 | .stop p st => match dropAt slots sB st with
  | some st' => .leaf (.inr (p, st'))
  | none => .fail 326
variable (P rec) in
def CutW (c : Code) (sB : St) (φ : X × St → Prop) : Nat → (X × St) ⊕ (List Bool × St) → Prop
 | _, .inl q => φ q
 | 0, .inr _ => False
 | k + 1, .inr (p, S) => ∃ (ψ : X × St → Prop) (cut : Bool) (slots slotsR : List Nat), ComesF P (.loop (nthLoop c p)) sB S ψ ∧ ∀ q, ψ q → ((evR rec cut c p q.1 q.2).bind (dropO slots slotsR sB)).All (CutW c sB φ k)
theorem comesF_cutW (hrec : RecOk P rec) {c : Code} {sB st : St} {φ : X × St → Prop} (k : Nat) (slots slotsR : List Nat) (h : ((evB rec c st).bind (dropO slots slotsR sB)).All (CutW P rec c sB φ k)) : ComesF P c sB st φ := by
 intro ro ds0 E0 w0 ds E a w Q rh0 r s hz hm hro hq
 have fin : ∀ (slots slotsR : List Nat) (x : X) (st2 : St) (ds1 : List Deferred) (st1 : St) (E1 : Env) (w1 : World) (k : Nat), Stp E0 sB.hp w0 E1 st1.hp w1 → st1.size = sB.size → Marks w0 ds0 ds1 w1 → (dropO slots slotsR sB (.done x st2)).All (CutW P rec c sB φ k) → After ds1 st1 E1 w1 Q (x, st2) := by
  intro slots slotsR x st2 ds1 st1 E1 w1 k s1 hz1 m1 ho
  simp only [dropO] at ho
  split at ho
  ·rename_i st' hb
   have ho : φ (x, st') := by cases k <;> exact ho
   intro ds' E' a' w' r' s' hz' m'
   obtain ⟨E3, r3, s3, z3⟩ := dropAt_ok hb rh0 r' (s1.trans s') (hz'.trans hz1)
   exact hq _ ho ds' E3 a' w' r3 s3 z3 (Marks.trans s1.fr.size s'.fr.oth m1 m')
  ·exact ho.elim
 have key : ∀ (k : Nat) (slots slotsR : List Nat) (o : O) (ds1 : List Deferred) (st1 : St) (E1 : Env) (w1 : World), Stp E0 sB.hp w0 E1 st1.hp w1 → st1.size = sB.size → Marks w0 ds0 ds1 w1 → (dropO slots slotsR sB o).All (CutW P rec c sB φ k) → OAfter P ro c ds1 st1 E1 w1 Q o := by
  intro k
  induction k with
  | zero =>
   intro slots slotsR o ds1 st1 E1 w1 s1 hz1 m1 ho
   cases o with
   | done x st => exact fin slots slotsR x st ds1 st1 E1 w1 _ s1 hz1 m1 ho
   | stop p st =>
    simp only [dropO] at ho
    split at ho <;> exact ho.elim
  | succ k ih =>
   intro slots slotsR o ds1 st1 E1 w1 s1 hz1 m1 ho
   cases o with
   | done x st => exact fin slots slotsR x st ds1 st1 E1 w1 _ s1 hz1 m1 ho
   | stop p st2 =>
    simp only [dropO] at ho
    split at ho
    ·rename_i S hb
     obtain ⟨ψ, cut, slots', slotsR', hl, hrest⟩ := ho
     intro ds' E' a' w' r' s' hz' m'
     obtain ⟨E3, r3, s3, z3⟩ := dropAt_ok hb rh0 r' (s1.trans s') (hz'.trans hz1)
     refine hl ro ds0 E0 w0 ds' E3 a' w' _ rh0 r3 s3 z3 (Marks.trans s1.fr.size s'.fr.oth m1 m') hro fun q hψ => ?_
     intro ds4 E4 a4 w4 r4 s4 hz4 m4
     refine evR_ok hrec c r4 (hro.oth s4.fr.oth) (Tree.All_mono (fun o ho => ?_) (Tree.All_bind (hrest q hψ)))
     exact ih slots' slotsR' o ds4 q.2 E4 w4 s4 hz4 m4 ho
    ·exact ho.elim
 exact evB_ok hrec c r (hro.oth s.fr.oth) (Tree.All_mono (fun o ho => key k slots slotsR o ds st E w s hz hm ho) (Tree.All_bind h))
def evW (rec : Code → St → Tree (X × St)) (c : Code) (slots slotsR : List Nat) (sB : St) : Tree ((X × St) ⊕ (List Bool × St)) := (evB rec c sB).bind (dropO slots slotsR sB)
def evW2 (rec : Code → St → Tree (X × St)) (cut : Bool) (c : Code) (p : List Bool) (slots slotsR : List Nat) (sB : St) (q : X × St) : Tree ((X × St) ⊕ (List Bool × St)) := (evR rec cut c p q.1 q.2).bind (dropO slots slotsR sB)
theorem call_baseW (hrec : RecOk P rec) {f : FuncId} {fn : Func} {c : Code} (hfn : P.funcs[f]? = some fn) (hc : fn.body = some c) {args : List A} (hsz : (Nat.ble args.length fn.ntmps && Nat.ble args.length lim) = true) {h : Hp} (m : Bool × Bool) {v : A} {h' : Hp} (k : Nat) (slots slotsR : List Nat)
  {sB : St} (hsB : sB = st0 fn args h m) {t : Tree ((X × St) ⊕ (List Bool × St))} (hpre : evW rec c slots slotsR sB = t) {S : Sk ((X × St) ⊕ (List Bool × St))} (h1 : t = into t S) (h2 : fits t S = true) (h3 : SkLeads (CutW P rec c sB (Left2 P fn h v h') k) S) : CallAt P f args h v h' := by
 subst hsB
 subst hpre
 exact call_comes hfn hc hsz m (comes_base (St.Le.refl _) (comesF_cutW hrec k slots slotsR (all_into h1 h2 h3.all)))
theorem cutW_dn {c : Code} {sB : St} {φ : X × St → Prop} {k : Nat} {q : X × St} (h : φ q) : CutW P rec c sB φ k (.inl q) := by
 cases k <;> exact h
end
end Go.Ev
namespace Go.Ev
open Go
end Go.Ev
