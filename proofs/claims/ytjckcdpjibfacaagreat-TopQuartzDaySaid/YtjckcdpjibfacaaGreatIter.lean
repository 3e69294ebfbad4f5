/- strings.Lines' iterator, walked ('for l := range strings.Lines(s)'), and a loop over it in the calculus of states. Conditions: none. (Turned from the kit's worked proof of slices.Values' iterator.) -/
import Derived.Test.YtjckcdpjibfacaaGreatEvRun
import Derived.Test.YtjckcdpjibfacaaGreatChecked
import Derived.RangeFuncBox
import Derived.RangeFuncLeaves
import Derived.Shelf.Abstract
import Derived.WalkKit
import Derived.OwnWalkIn
import Derived.TacticsInMore
import Derived.LoopNIn
import Derived.LoopIn
import Derived.BigRegionIn
import Derived.Test.YtjckcdpjibfacaaGreatLoops
namespace Go.Ev
open Go
def eqCaps : List (Nat × Nat × Nat × Nat) → List (Nat × Nat × Nat × Nat) → Bool
 | [], [] => true
 | (a, b, c, d) :: l, (a', b', c', d') :: l' => Nat.beq a a' && (Nat.beq b b' && (Nat.beq c c' && (Nat.beq d d' && eqCaps l l')))
 | _, _ => false
def sameP : Option A → Option A → Bool
 | some (.one (.ptr a b c d)), some (.one (.ptr a' b' c' d')) => eqCaps [(a, b, c, d)] [(a', b', c', d')]
 | some (.one (.fn f l)), some (.one (.fn f' l')) => Nat.beq f f' && eqCaps l l'
 | _, _ => false
theorem eqCaps_eq : ∀ {l l' : List (Nat × Nat × Nat × Nat)}, eqCaps l l' = true → l = l'
 | [], [], _ => rfl
 | (a, b, c, d) :: l, (a', b', c', d') :: l', h => by
  simp only [eqCaps, Bool.and_eq_true] at h
  obtain ⟨h1, h2, h3, h4, h5⟩ := h
  rw [Nat.eq_of_beq_eq_true h1, Nat.eq_of_beq_eq_true h2, Nat.eq_of_beq_eq_true h3, Nat.eq_of_beq_eq_true h4, eqCaps_eq h5]
 | [], _ :: _, h => by cases h
 | _ :: _, [], h => by simp [eqCaps] at h
theorem ptrIs_uniq {E E' : Env} (h : E.le E') {c : Nat × Nat × Nat × Nat} {x y : Value} (h1 : ptrIs E c x) (h2 : ptrIs E' c y) : y = x := by
 obtain ⟨b, s, e1, rfl⟩ := h1
 obtain ⟨b', s', e2, rfl⟩ := h2
 have := h _ _ e1
 rw [e2] at this
 injection this with this
 injection this with h3 h4
 subst h3; subst h4; rfl
theorem capsIs_uniq {E E' : Env} (h : E.le E') : ∀ {l : List (Nat × Nat × Nat × Nat)} {vs vs' : List Value}, All2 (ptrIs E) l vs → All2 (ptrIs E') l vs' → vs' = vs
 | [], [], [], _, _ => rfl
 | _ :: _, _ :: _, _ :: _, h1, h2 => by rw [ptrIs_uniq h h1.1 h2.1, capsIs_uniq h h1.2 h2.2]
 | [], _ :: _, _, h1, _ => h1.elim
 | [], [], _ :: _, _, h2 => h2.elim
 | _ :: _, [], _, h1, _ => h1.elim
 | _ :: _, _ :: _, [], _, h2 => h2.elim
theorem sameP_val {E E' : Env} (h : E.le E') {x y : Option A} (hs : sameP x y = true) : ∃ a b, x = some a ∧ y = some b ∧ ∀ v v', a.Is E v → b.Is E' v' → v' = v := by
 unfold sameP at hs
 split at hs
 ·have e := eqCaps_eq hs
  injection e with e _
  injection e with e1 e2
  injection e2 with e2 e3
  injection e3 with e3 e4
  subst e1; subst e2; subst e3; subst e4
  exact ⟨_, _, rfl, rfl, fun v v' h1 h2 => ptrIs_uniq h h1 h2⟩
 ·rw [Bool.and_eq_true] at hs
  have e1 := Nat.eq_of_beq_eq_true hs.1
  have e2 := eqCaps_eq hs.2
  subst e1; subst e2
  refine ⟨_, _, rfl, rfl, fun v v' h1 h2 => ?_⟩
  obtain ⟨vs, rfl, h3⟩ := h1
  obtain ⟨vs', rfl, h4⟩ := h2
  rw [capsIs_uniq h h3 h4]
 ·cases hs
def sameSlots (slots : List Nat) (env env' : Tr A) : Bool := slots.all fun t => sameP (env.get D t) (env'.get D t)
def midL (st : St) (p bx : Nat) (ty : TypeId) (line rest : ByteArray) : St :=
 { st with env := st.env.set D p (some (.one (.lit (.string line)))), hp := { st.hp with heap := st.hp.heap.set D bx (some ⟨false, ty, .flat [.lit (.string rest)]⟩), low := min st.hp.low bx } }
def pickT (slots : List Nat) (q : X × St) : Tree (X × St) := .leaf (q.1, { q.2 with env := pickE slots q.2.env })
def linT (rec : Code → St → Tree (X × St)) (assign body : Code) (slots : List Nat) (sB mid : St) : Tree (X × St) := (rec assign mid).bind fun p => match p.1 with
 | .normal => (rec body p.2).bind fun q => match sameSlots slots mid.env q.2.env with
  | true => (canonT slots slots sB q).bind (pickT slots)
  | false => .fail 318
 | _ => .fail 319
def rngA : Code → Code
 | .rangeFunc _ _ a _ => a
 | _ => .skip
def rngB : Code → Code
 | .rangeFunc _ _ _ b => b
 | _ => .skip
def codeX : X → Code
 | .ret => .ret
 | .exit i => .exit i
 | .normal => .skip
theorem pickE_mem {env : Tr A} : ∀ {ts : List Nat} {t : Nat} {x : A}, (ts.all fun t => Nat.blt t lim) = true → (pickE ts env).get D t = some x → t ∈ ts
 | [], t, x, _, h => by rw [show pickE [] env = Tr.nil from rfl, Tr.get_nil] at h; cases h
 | t0 :: ts, t, x, hok, h => by
  rw [List.all_cons, Bool.and_eq_true] at hok
  have hlt : t0 < lim := by simpa [Nat.blt_eq] using hok.1
  rw [show pickE (t0 :: ts) env = (pickE ts env).set D t0 (env.get D t0) from rfl, Tr.get_set_D _ _ _ _ hlt] at h
  split at h
  ·rename_i e; rw [e]; exact List.mem_cons_self
  ·exact List.mem_cons_of_mem _ (pickE_mem hok.2 h)
theorem MarksOk.but {B l : Nat} {w w' : World} {r : Loop} (hl : w.heap[l]? = some (.loop r)) (ho : ∀ (b : Nat) (o : Obj), w.heap[b]? = some o → isFix o = true → b ≠ l → w'.heap[b]? = some o) : ∀ {mk : List Deferred}, MarksOk B w mk → MarksOk B w' mk
 | [], _ => trivial
 | _ :: _, ⟨⟨k, e, hk, hd, hn⟩, h⟩ => ⟨⟨k, e, hk, ho k _ hd rfl (fun e' => by rw [e', hl] at hd; cases hd), hn⟩, h.but hl ho⟩
theorem grow_same {E : Env} {h : Hp} {w w1 : World} (r : RH E h w) (hold : ∀ k, k < w.heap.size → w1.heap[k]? = w.heap[k]?) (hsize : w.heap.size ≤ w1.heap.size) (hos : w1.os = w.os) (htape : w1.tape = w.tape) (hout : w1.output = w.output) : Stp E h w E h w1 :=
 Stp.forget (h' := { h with low := h.next }) r ⟨Env.le.refl E, hos, htape, hout, hsize, fun b hb _ => hold b hb, fun _ _ h => .inl h, fun b o hb _ => (hold b (Array.getElem?_eq_some_iff.1 hb).1).trans hb⟩ (Nat.le_refl _)
theorem shut_stp {E0 E : Env} {h0 h : Hp} {w0 w : World} {l : Nat} (o : Obj) {o' : Obj} (s : Stp E0 h0 w0 E h w) (hlp : h.lp = none) (hl : w.heap[l]? = some o') (ho : isFix o' = true) (hw : w0.heap.size ≤ l) : Stp E0 h0 w0 E h (w.putObj l o) :=
 ⟨RH.shut (by have := s.rh; rw [← hlp]; exact this) hl ho (fun _ _ e => by rw [hlp] at e; cases e), Fr.shut s.fr hw, s.next, s.low, s.globs, s.lp⟩
theorem box_at {E : Env} {h : Hp} {w : World} {bx B o : Nat} {ty : TypeId} {x : ByteArray} (rh : RH E h w) (hb : h.blk bx = some ⟨false, ty, .flat [.lit (.string x)]⟩) (hp : ptrIs E (bx, 0, 1, 0) (.pointer (some ⟨B, o, none⟩))) :
  o = 0 ∧ ∃ arr sz, E bx = some (B, sz, 0) ∧ arr.size = sz ∧ w.heap[B]? = some (.cells arr ty (0, 0)) ∧ arr[0]? = some (.string x) := by
 obtain ⟨p, hpe, arr, fz, ⟨t, h1, ht⟩, h2, h3, h4⟩ := rh.cells hb rfl
 obtain ⟨b, sz, he, hx⟩ := hp
 rw [hpe] at he
 injection he with he
 subst he
 obtain ⟨h5, h6⟩ := h3.own rfl
 have h5 : sz.2 = 0 := h5
 injection hx with hx
 injection hx with hx
 injection hx with e1 e2
 obtain ⟨y, hy, hi⟩ := h6 0 _ rfl
 have hi : y = .string x := hi.1
 subst hi
 have ht' := ht rfl
 have hfz := roIs_fz h4 rfl
 subst ht'; subst hfz; subst e1
 refine ⟨by simp only at e2; omega, arr, sz.1, ?_, h2, h1, hy⟩
 rw [hpe]
 obtain ⟨s1, s2⟩ := sz
 subst h5; rfl
theorem box_store {E : Env} {h : Hp} {w : World} {bx B : Nat} {ty : TypeId} {x y : ByteArray} (rh : RH E h w) (hb : h.blk bx = some ⟨false, ty, .flat [.lit (.string x)]⟩) {arr : Array Value} {sz : Nat} (he : E bx = some (B, sz, 0)) (hs : arr.size = sz)
  (hw : w.heap[B]? = some (.cells arr ty (0, 0))) (h0 : arr[0]? = some (.string x)) :
  Stp E h w E { h with heap := h.heap.set D bx (some ⟨false, ty, .flat [.lit (.string y)]⟩), low := min h.low bx } (w.setCell ⟨B, 0, none⟩ (.string y)) := by
 rw [setCell_eq_setRow w B 0 arr ty (0, 0) _ hw]
 have hlt : 0 < arr.size := (Array.getElem?_eq_some_iff.1 h0).1
 refine relay_stp (b := ⟨false, ty, .flat [.lit (.string x)]⟩) (p := (B, sz, 0)) rh hb he rfl hw hs rfl rfl rfl (by simp) ?_
 intro i c hc
 match i, hc with
 | 0, hc =>
  injection hc with hc
  subst hc
  exact ⟨.string y, by simp [hlt], rfl, rfl⟩
 | i + 1, hc => cases i <;> cases hc
end Go.Ev
namespace Go.Ev
open Go
theorem flat_at {E : Env} {h : Hp} {w : World} {bx B o : Nat} {ty : TypeId} {cs : List C} (rh : RH E h w) (hb : h.blk bx = some ⟨false, ty, .flat cs⟩) (hp : ptrIs E (bx, 0, 1, 0) (.pointer (some ⟨B, o, none⟩))) :
  o = 0 ∧ ∀ i c, nth cs i = some c → ∃ x, w.cell? ⟨B, i, none⟩ = some x ∧ c.Is E x := by
 obtain ⟨p, hpe, arr, fz, ⟨t, h1, ht⟩, h2, h3, h4⟩ := rh.cells hb rfl
 obtain ⟨b, sz, he, hx⟩ := hp
 rw [hpe] at he
 injection he with he
 subst he
 obtain ⟨h5, h6⟩ := h3.own rfl
 have h5 : sz.2 = 0 := h5
 injection hx with hx
 injection hx with hx
 injection hx with e1 e2
 subst e1
 refine ⟨by simp only at e2; omega, fun i c hc => ?_⟩
 obtain ⟨y, hy, hi⟩ := h6 i c hc
 exact ⟨y, by simp [World.cell?, h1, hy], hi⟩
end Go.Ev
