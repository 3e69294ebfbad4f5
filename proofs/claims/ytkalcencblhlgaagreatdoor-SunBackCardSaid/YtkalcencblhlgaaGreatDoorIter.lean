/- strings.Lines' iterator, walked ('for l := range strings.Lines(s)'), and a loop over it in the calculus of states. Conditions: none. (Turned from the kit's worked proof of slices.Values' iterator.) -/
import Derived.Test.YtkalcencblhlgaaGreatDoorEvRun
import Derived.Test.YtkalcencblhlgaaGreatDoorChecked
import Derived.Test.YtkalcencblhlgaaGreatDoorShelf
import Derived.Lib.IndexLaws
import Derived.RangeFuncBox
import Derived.RangeFuncLeaves
import Derived.Shelf.Abstract
import Derived.WalkKit
import Derived.OwnWalkIn
import Derived.TacticsInMore
import Derived.LoopNIn
import Derived.LoopIn
import Derived.BigRegionIn
import Derived.Test.YtkalcencblhlgaaGreatDoorLoops
namespace Go.Proofs
open Go.RowKit Go.Shelf Go.Ev
attribute [local go_sem] Oper.semAt_some
def nlAt (s : ByteArray) : Int := Lib.indexByte s.data.toList 10
def headL (s : ByteArray) : ByteArray := if 0 ≤ nlAt s then s.extract 0 (nlAt s + 1).toNat else s
def tailL (s : ByteArray) : ByteArray := if 0 ≤ nlAt s then s.extract (nlAt s + 1).toNat s.size else ⟨#[]⟩
def restL (s : ByteArray) : Nat → ByteArray
 | 0 => s
 | k + 1 => tailL (restL s k)
theorem nlAt_lt (s : ByteArray) : nlAt s < s.size ∨ (nlAt s = -1) := by
 by_cases h : nlAt s = -1
 ·exact .inr h
 ·have hg := Lib.indexByte_ge s.data.toList 10
  obtain ⟨o, ho⟩ : ∃ o : Nat, nlAt s = o := ⟨(nlAt s).toNat, by unfold nlAt at *; omega⟩
  obtain ⟨h1, _⟩ := Lib.indexByte_some (show Lib.indexByte s.data.toList 10 = o from ho)
  have h2 := (List.getElem?_eq_some_iff.1 h1).1
  refine .inl ?_
  rw [ho]
  have : s.data.toList.length = s.size := by rw [Array.length_toList]; rfl
  omega
set_option maxRecDepth 100000 in
set_option maxHeartbeats 2000000 in
theorem Tryz.lines_in (l B : Nat) (s : ByteArray) (m : Nat) (hm : ∀ k, k < m → 0 < (restL s k).size) (hm0 : (restL s m).size = 0) (hs : ∀ k, (restL s k).size ≤ 4611686018427387904) (J : Nat → World → Prop) (X : World → Prop)
  (hbox : ∀ k W, J k W → W.cell? ⟨B, 0, none⟩ = some (.string (restL s k)) ∧ W.frozen? ⟨B, 0, none⟩ = false)
  (hY : ∀ k W W1, k < m → J k W → (W1 = W.setCell ⟨B, 0, none⟩ (.string (restL s (k + 1))) ∨ W1 = (W.setCell ⟨B, 0, none⟩ (.string (restL s (k + 1)))).drew) → YieldAt Fence.wide 0 Tryz.prog l #[.string (headL (restL s k))] W1 fun e W' =>
   (e = .returned (.bool true) ∧ J (k + 1) W') ∨ (e = .returned (.bool false) ∧ X W'))
  (W : World) (h0 : J 0 W) :
  Calls Tryz.prog 119 #[.func (.yield l) #[] #[], .pointer (some ⟨B, 0, none⟩)] W fun e W' => (∃ v, e = .returned v) ∧ (J m W' ∨ X W') := by
 refine (callsIn_wide (n := 1)).1 ?_
 refine callsIn_of_wp Tryz.func119 rfl trivial ?_ rfl
 simp only [Tryz.ntmps119, List.size_toArray, List.length_cons, List.length_nil, Nat.reduceAdd, Nat.reduceSub, Array.replicate_succ, Array.replicate_zero, List.push_toArray, List.append_toArray, List.nil_append, List.cons_append]
 gi_wp2
 gi_loopw [] (fun wr => ∃ k : Nat, k ≤ m ∧ J k wr) (fun wr => match wr.cell? ⟨B, 0, none⟩ with | some (.string x) => x.size | _ => 0)
 case atStart => exact ⟨0, Nat.zero_le _, h0⟩
 case round =>
  obtain ⟨k, hk, hJs⟩ := hrel
  obtain ⟨hb1, hb2⟩ := hbox k wr hJs
  by_cases hlt : k < m
  ·have hp := hm k hlt
   have hle := hs k
   have hi := nlAt_lt (restL s k)
   have hd : restL s (k + 1) = tailL (restL s k) := rfl
   have hY1 := fun W1 => hY k wr W1 hlt hJs
   rw [hd] at hY1
   have hidx : Lib.indexByte (restL s k).data.toList (Int.toNat 10).toUInt8 = nlAt (restL s k) := rfl
   generalize hr : restL s k = r at *
   rcases Int.lt_or_le (nlAt r) 0 with hneg | hpos
   ·have htl : tailL r = ⟨#[]⟩ := if_neg (by omega)
    have hhl : headL r = r := if_neg (by omega)
    rw [htl, hhl] at hY1
    obtain ⟨fn, tmps, assign, body, hy, hR⟩ := hY1 _ (.inl rfl)
    gi_wp2_with (refine ⟨trivial, ?_⟩; gi_at_call 120; refine (callsIn_wide.2 (Tryz.strings_IndexByte _ _ _)).mono ?_; rintro e w' ⟨rfl, rfl⟩; rw [hidx])
    refine hR.mono ?_
    rintro e W3 (⟨rfl, hJ3⟩ | ⟨rfl, hX3⟩)
    ·obtain ⟨hc1, hc2⟩ := hbox _ _ hJ3
     rw [hd, htl] at hc1
     gi_wp2
     go_roundw
     case rel => exact ⟨k + 1, by omega, hJ3⟩
     case measure => rw [hc1, hb1]; exact hp
    ·gi_wp2
     refine bodyPost_ret (results_none rfl _ _ _) rfl ?_
     exact ⟨⟨_, rfl⟩, .inr hX3⟩
   ·obtain ⟨i, hi2⟩ : ∃ i : Nat, nlAt r = i := ⟨(nlAt r).toNat, by omega⟩
    have htl : tailL r = r.extract (nlAt r + 1).toNat r.size := if_pos hpos
    have hhl : headL r = r.extract 0 (nlAt r + 1).toNat := if_pos hpos
    have hti : ((i : Int) + 1).toNat = i + 1 := by omega
    rw [htl, hhl, hi2, hti] at hY1
    rw [hi2, hti] at htl
    obtain ⟨fn, tmps, assign, body, hy, hR⟩ := hY1 _ (.inr rfl)
    gi_wp2_with (refine ⟨trivial, ?_⟩; gi_at_call 120; refine (callsIn_wide.2 (Tryz.strings_IndexByte _ _ _)).mono ?_; rintro e w' ⟨rfl, rfl⟩; rw [hidx, hi2])
    have hlt2 : i < r.size := by omega
    gi_region
    all_goals gi_wp2
    refine hR.mono ?_
    rintro e W3 (⟨rfl, hJ3⟩ | ⟨rfl, hX3⟩)
    ·obtain ⟨hc1, hc2⟩ := hbox _ _ hJ3
     rw [hd, htl] at hc1
     gi_wp2
     go_roundw
     case rel => exact ⟨k + 1, by omega, hJ3⟩
     case measure =>
      rw [hc1, hb1]
      show (r.extract (i + 1) r.size).size < r.size
      rw [ByteArray.size_extract]
      omega
    ·gi_wp2
     refine bodyPost_ret (results_none rfl _ _ _) rfl ?_
     exact ⟨⟨_, rfl⟩, .inr hX3⟩
  ·obtain rfl : k = m := by omega
   gi_wp2
   go_end0
   exact ⟨⟨_, rfl⟩, .inl hJs⟩
end Go.Proofs
namespace Go.Ev
open Go
def eqCaps : List (Nat × Nat × Nat × Nat) → List (Nat × Nat × Nat × Nat) → Bool
 | [], [] => true
 | (a, b, c, d) :: l, (a', b', c', d') :: l' => Nat.beq a a' && (Nat.beq b b' && (Nat.beq c c' && (Nat.beq d d' && eqCaps l l')))
 | _, _ => false
def sameP : Option A → Option A → Bool
 | some (.one (.ptr a b c d)), some (.one (.ptr a' b' c' d')) => eqCaps [(a, b, c, d)] [(a', b', c', d')]
 | some (.one (.fn f l)), some (.one (.fn f' l')) => Nat.beq f f' && eqCaps l l'
 | _, _ => false
theorem eqCaps_eq : ∀ {l l' : List (Nat × Nat × Nat × Nat)}, eqCaps l l' = true → l = l'
 | [], [], _ => rfl
 | (a, b, c, d) :: l, (a', b', c', d') :: l', h => by
  simp only [eqCaps, Bool.and_eq_true] at h
  obtain ⟨h1, h2, h3, h4, h5⟩ := h
  rw [Nat.eq_of_beq_eq_true h1, Nat.eq_of_beq_eq_true h2, Nat.eq_of_beq_eq_true h3, Nat.eq_of_beq_eq_true h4, eqCaps_eq h5]
 | [], _ :: _, h => by cases h
 | _ :: _, [], h => by simp [eqCaps] at h
theorem ptrIs_uniq {E E' : Env} (h : E.le E') {c : Nat × Nat × Nat × Nat} {x y : Value} (h1 : ptrIs E c x) (h2 : ptrIs E' c y) : y = x := by
 obtain ⟨b, s, e1, rfl⟩ := h1
 obtain ⟨b', s', e2, rfl⟩ := h2
 have := h _ _ e1
 rw [e2] at this
 injection this with this
 injection this with h3 h4
 subst h3; subst h4; rfl
theorem capsIs_uniq {E E' : Env} (h : E.le E') : ∀ {l : List (Nat × Nat × Nat × Nat)} {vs vs' : List Value}, All2 (ptrIs E) l vs → All2 (ptrIs E') l vs' → vs' = vs
 | [], [], [], _, _ => rfl
 | _ :: _, _ :: _, _ :: _, h1, h2 => by rw [ptrIs_uniq h h1.1 h2.1, capsIs_uniq h h1.2 h2.2]
 | [], _ :: _, _, h1, _ => h1.elim
 | [], [], _ :: _, _, h2 => h2.elim
 | _ :: _, [], _, h1, _ => h1.elim
 | _ :: _, _ :: _, [], _, h2 => h2.elim
theorem sameP_val {E E' : Env} (h : E.le E') {x y : Option A} (hs : sameP x y = true) : ∃ a b, x = some a ∧ y = some b ∧ ∀ v v', a.Is E v → b.Is E' v' → v' = v := by
 unfold sameP at hs
 split at hs
 ·have e := eqCaps_eq hs
  injection e with e _
  injection e with e1 e2
  injection e2 with e2 e3
  injection e3 with e3 e4
  subst e1; subst e2; subst e3; subst e4
  exact ⟨_, _, rfl, rfl, fun v v' h1 h2 => ptrIs_uniq h h1 h2⟩
 ·rw [Bool.and_eq_true] at hs
  have e1 := Nat.eq_of_beq_eq_true hs.1
  have e2 := eqCaps_eq hs.2
  subst e1; subst e2
  refine ⟨_, _, rfl, rfl, fun v v' h1 h2 => ?_⟩
  obtain ⟨vs, rfl, h3⟩ := h1
  obtain ⟨vs', rfl, h4⟩ := h2
  rw [capsIs_uniq h h3 h4]
 ·cases hs
def sameSlots (slots : List Nat) (env env' : Tr A) : Bool := slots.all fun t => sameP (env.get D t) (env'.get D t)
def midL (st : St) (p bx : Nat) (ty : TypeId) (line rest : ByteArray) : St :=
 { st with env := st.env.set D p (some (.one (.lit (.string line)))), hp := { st.hp with heap := st.hp.heap.set D bx (some ⟨false, ty, .flat [.lit (.string rest)]⟩), low := min st.hp.low bx } }
def pickT (slots : List Nat) (q : X × St) : Tree (X × St) := .leaf (q.1, { q.2 with env := pickE slots q.2.env })
def linT (rec : Code → St → Tree (X × St)) (assign body : Code) (slots : List Nat) (sB mid : St) : Tree (X × St) := (rec assign mid).bind fun p => match p.1 with
 | .normal => (rec body p.2).bind fun q => match sameSlots slots mid.env q.2.env with
  | true => (canonT slots slots sB q).bind (pickT slots)
  | false => .fail 318
 | _ => .fail 319
def rngA : Code → Code
 | .rangeFunc _ _ a _ => a
 | _ => .skip
def rngB : Code → Code
 | .rangeFunc _ _ _ b => b
 | _ => .skip
def codeX : X → Code
 | .ret => .ret
 | .exit i => .exit i
 | .normal => .skip
theorem pickE_mem {env : Tr A} : ∀ {ts : List Nat} {t : Nat} {x : A}, (ts.all fun t => Nat.blt t lim) = true → (pickE ts env).get D t = some x → t ∈ ts
 | [], t, x, _, h => by rw [show pickE [] env = Tr.nil from rfl, Tr.get_nil] at h; cases h
 | t0 :: ts, t, x, hok, h => by
  rw [List.all_cons, Bool.and_eq_true] at hok
  have hlt : t0 < lim := by simpa [Nat.blt_eq] using hok.1
  rw [show pickE (t0 :: ts) env = (pickE ts env).set D t0 (env.get D t0) from rfl, Tr.get_set_D _ _ _ _ hlt] at h
  split at h
  ·rename_i e; rw [e]; exact List.mem_cons_self
  ·exact List.mem_cons_of_mem _ (pickE_mem hok.2 h)
theorem MarksOk.but {B l : Nat} {w w' : World} {r : Loop} (hl : w.heap[l]? = some (.loop r)) (ho : ∀ (b : Nat) (o : Obj), w.heap[b]? = some o → isFix o = true → b ≠ l → w'.heap[b]? = some o) : ∀ {mk : List Deferred}, MarksOk B w mk → MarksOk B w' mk
 | [], _ => trivial
 | _ :: _, ⟨⟨k, e, hk, hd, hn⟩, h⟩ => ⟨⟨k, e, hk, ho k _ hd rfl (fun e' => by rw [e', hl] at hd; cases hd), hn⟩, h.but hl ho⟩
theorem grow_same {E : Env} {h : Hp} {w w1 : World} (r : RH E h w) (hold : ∀ k, k < w.heap.size → w1.heap[k]? = w.heap[k]?) (hsize : w.heap.size ≤ w1.heap.size) (hos : w1.os = w.os) (htape : w1.tape = w.tape) (hout : w1.output = w.output) : Stp E h w E h w1 :=
 Stp.forget (h' := { h with low := h.next }) r ⟨Env.le.refl E, hos, htape, hout, hsize, fun b hb _ => hold b hb, fun _ _ h => .inl h, fun b o hb _ => (hold b (Array.getElem?_eq_some_iff.1 hb).1).trans hb⟩ (Nat.le_refl _)
theorem shut_stp {E0 E : Env} {h0 h : Hp} {w0 w : World} {l : Nat} (o : Obj) {o' : Obj} (s : Stp E0 h0 w0 E h w) (hlp : h.lp = none) (hl : w.heap[l]? = some o') (ho : isFix o' = true) (hw : w0.heap.size ≤ l) : Stp E0 h0 w0 E h (w.putObj l o) :=
 ⟨RH.shut (by have := s.rh; rw [← hlp]; exact this) hl ho (fun _ _ e => by rw [hlp] at e; cases e), Fr.shut s.fr hw, s.next, s.low, s.globs, s.lp⟩
theorem box_at {E : Env} {h : Hp} {w : World} {bx B o : Nat} {ty : TypeId} {x : ByteArray} (rh : RH E h w) (hb : h.blk bx = some ⟨false, ty, .flat [.lit (.string x)]⟩) (hp : ptrIs E (bx, 0, 1, 0) (.pointer (some ⟨B, o, none⟩))) :
  o = 0 ∧ ∃ arr sz, E bx = some (B, sz, 0) ∧ arr.size = sz ∧ w.heap[B]? = some (.cells arr ty (0, 0)) ∧ arr[0]? = some (.string x) := by
 obtain ⟨p, hpe, arr, fz, ⟨t, h1, ht⟩, h2, h3, h4⟩ := rh.cells hb rfl
 obtain ⟨b, sz, he, hx⟩ := hp
 rw [hpe] at he
 injection he with he
 subst he
 obtain ⟨h5, h6⟩ := h3.own rfl
 have h5 : sz.2 = 0 := h5
 injection hx with hx
 injection hx with hx
 injection hx with e1 e2
 obtain ⟨y, hy, hi⟩ := h6 0 _ rfl
 have hi : y = .string x := hi.1
 subst hi
 have ht' := ht rfl
 have hfz := roIs_fz h4 rfl
 subst ht'; subst hfz; subst e1
 refine ⟨by simp only at e2; omega, arr, sz.1, ?_, h2, h1, hy⟩
 rw [hpe]
 obtain ⟨s1, s2⟩ := sz
 subst h5; rfl
theorem box_store {E : Env} {h : Hp} {w : World} {bx B : Nat} {ty : TypeId} {x y : ByteArray} (rh : RH E h w) (hb : h.blk bx = some ⟨false, ty, .flat [.lit (.string x)]⟩) {arr : Array Value} {sz : Nat} (he : E bx = some (B, sz, 0)) (hs : arr.size = sz)
  (hw : w.heap[B]? = some (.cells arr ty (0, 0))) (h0 : arr[0]? = some (.string x)) :
  Stp E h w E { h with heap := h.heap.set D bx (some ⟨false, ty, .flat [.lit (.string y)]⟩), low := min h.low bx } (w.setCell ⟨B, 0, none⟩ (.string y)) := by
 rw [setCell_eq_setRow w B 0 arr ty (0, 0) _ hw]
 have hlt : 0 < arr.size := (Array.getElem?_eq_some_iff.1 h0).1
 refine relay_stp (b := ⟨false, ty, .flat [.lit (.string x)]⟩) (p := (B, sz, 0)) rh hb he rfl hw hs rfl rfl rfl (by simp) ?_
 intro i c hc
 match i, hc with
 | 0, hc =>
  injection hc with hc
  subst hc
  exact ⟨.string y, by simp [hlt], rfl, rfl⟩
 | i + 1, hc => cases i <;> cases hc
theorem comesF_lines {rec : Code → St → Tree (X × St)} (hrec : RecOk Proofs.Tryz.prog rec) {sB : St} (hlow : sB.hp.low = sB.hp.next) (hlp0 : sB.hp.lp = none) (gt p : Nat) (assign body : Code) (bx : Nat) (ty : TypeId) (s : ByteArray) (m : Nat)
  (hm : ∀ k, k < m → 0 < (Proofs.restL s k).size) (hm0 : (Proofs.restL s m).size = 0) (hs : ∀ k, (Proofs.restL s k).size ≤ 4611686018427387904) (slots : List Nat) (hslots : (slots.all fun t => Nat.blt t lim && !Nat.beq t p) = true) (hpl : p < lim) (hpz : p < sB.size)
  (head : Nat → St) (good : Nat → Prop) (φ : X × St → Prop) (hgood : good 0)
  (hg : ∀ k, k ≤ m → (head k).env.get D gt = some (.one (.fn 119 [(bx, 0, 1, 0)])))
  (hb : ∀ k, k ≤ m → (head k).hp.blk bx = some ⟨false, ty, .flat [.lit (.string (Proofs.restL s k))]⟩)
  (hround : ∀ k, k < m → good k → (linT rec assign body slots sB (midL (head k) p bx ty (Proofs.headL (Proofs.restL s k)) (Proofs.restL s (k + 1)))).All fun q => match q.1 with | .normal => q.2.Le (head (k + 1)) ∧ good (k + 1) | _ => φ q)
  (hend : good m → φ (.normal, head m)) : ComesF Proofs.Tryz.prog (.rangeFunc (.tmp gt) #[p] assign body) sB (head 0) φ := by
 intro ro ds0 E0 w0 ds E a w Q rh0 r s0 hz hmk hro hq
 refine wpIn_rangeFunc fun fn hfn => ?_
 obtain ⟨l, mark, w1, kk, he, hl, hl1, hold, hsize, hos, htape, hout, hmarks⟩ := enterLoop_ok (P := Proofs.Tryz.prog) (hro.oth s0.fr.oth) fn a.tmps #[p] assign body
 obtain ⟨vs, hgv, hcaps⟩ := r.env gt _ (hg 0 (Nat.zero_le _))
 obtain ⟨v, rfl⟩ : ∃ v, vs = [v] := by
  cases vs with
  | nil => exact hcaps.elim
  | cons v vs =>
   cases vs with
   | nil => exact ⟨v, rfl⟩
   | cons _ _ => exact hcaps.2.elim
 have hcap := hcaps.1
 obtain ⟨B, o, rfl⟩ : ∃ B o, v = .pointer (some ⟨B, o, none⟩) := let ⟨b, s, _, e⟩ := hcap; ⟨b, _, e⟩
 obtain ⟨rfl, _, _, _, _, _, _⟩ := box_at r.rh (hb 0 (Nat.zero_le _)) hcap
 have hw0l : w0.heap.size ≤ l := Nat.le_trans s0.fr.size hl
 let rl : Loop := { state := .ready, pending := none, fn, tmps := a.tmps, params := #[p], assign, body, defers := kk }
 let J : Nat → World → Prop := fun k W => (k ≤ m ∧ good k) ∧ ∃ E', Stp E0 sB.hp w0 E' (head k).hp W ∧ (∀ t x, (head k).env.get D t = some x → x.Is E' (a.tmps.getD t undef)) ∧ (head k).size = sB.size ∧ W.heap[l]? = some (.loop rl) ∧
  ∀ (b : Nat) (ob : Obj), w1.heap[b]? = some ob → isFix ob = true → b ≠ l → W.heap[b]? = some ob
 let Xx : World → Prop := fun W => ∃ x st E', x ≠ X.normal ∧ φ (x, st) ∧ Stp E0 sB.hp w0 E' st.hp W ∧ (∀ t y, st.env.get D t = some y → y.Is E' (a.tmps.getD t undef)) ∧ st.size = sB.size ∧ W.heap[l]? = some (.loop { rl with state := .done, pending := some (codeX x) }) ∧
  ∀ (b : Nat) (ob : Obj), w1.heap[b]? = some ob → isFix ob = true → b ≠ l → W.heap[b]? = some ob
 have hJbox : ∀ k W, J k W → ∃ arr sz E', Stp E0 sB.hp w0 E' (head k).hp W ∧ E' bx = some (B, sz, 0) ∧ arr.size = sz ∧ W.heap[B]? = some (.cells arr ty (0, 0)) ∧ arr[0]? = some (.string (Proofs.restL s k)) ∧ (∀ t x, (head k).env.get D t = some x → x.Is E' (a.tmps.getD t undef)) := by
  rintro k W ⟨⟨hk, _⟩, E', hst, henv, _, _, _⟩
  obtain ⟨vs', hgv', hcaps'⟩ := henv gt _ (hg k hk)
  rw [hgv] at hgv'
  injection hgv' with _ _ e3
  have e4 : [Value.pointer (some ⟨B, 0, none⟩)] = vs' := by simpa using congrArg Array.toList e3
  subst e4
  obtain ⟨_, arr, sz, h1, h2, h3, h4⟩ := box_at hst.rh (hb k hk) hcaps'.1
  exact ⟨arr, sz, E', hst, h1, h2, h3, h4, henv⟩
 have hYY : ∀ k W W1, k < m → J k W → (W1 = W.setCell ⟨B, 0, none⟩ (.string (Proofs.restL s (k + 1))) ∨ W1 = (W.setCell ⟨B, 0, none⟩ (.string (Proofs.restL s (k + 1)))).drew) →
   YieldAt Fence.wide 0 Proofs.Tryz.prog l #[.string (Proofs.headL (Proofs.restL s k))] W1 fun e W' => (e = .returned (.bool true) ∧ J (k + 1) W') ∨ (e = .returned (.bool false) ∧ Xx W') := by
  intro k W W1 hk hJ hW1
  obtain ⟨arr, sz, E', hst, h1, h2, h3, h4, henv⟩ := hJbox k W hJ
  obtain ⟨⟨_, hgk⟩, _, _, _, hzk, hWl, hoth⟩ := hJ
  have sB1 := box_store (y := Proofs.restL s (k + 1)) hst.rh (hb k (by omega)) h1 h2 h3 h4
  have s1 : Stp E' (head k).hp W E' (midL (head k) p bx ty (Proofs.headL (Proofs.restL s k)) (Proofs.restL s (k + 1))).hp W1 := by
   rcases hW1 with rfl | rfl
   ·exact sB1
   ·exact sB1.trans (Stp.drew sB1.rh)
  have hW1l : W1.heap[l]? = some (.loop rl) := s1.fr.oth _ _ hWl rfl
  have hlpk : (head k).hp.lp = none := hst.lp.trans hlp0
  have hy := run_yield (P := Proofs.Tryz.prog) (args := #[.string (Proofs.headL (Proofs.restL s k))]) hW1l rfl
  refine ⟨_, _, _, _, hy, roundIn_of_wpIn trivial ?_⟩
  have htm : ((rl.params.zip #[Value.string (Proofs.headL (Proofs.restL s k))]).foldl (fun tmps (t, a) => tmps.setIfInBounds t a) rl.tmps) = a.tmps.setIfInBounds p (.string (Proofs.headL (Proofs.restL s k))) := by
   show (#[p].zip #[Value.string (Proofs.headL (Proofs.restL s k))]).foldl _ a.tmps = _
   simp
  have hsz0 : a.tmps.size = sB.size := r.size.trans hz
  have rm : R [] E' (midL (head k) p bx ty (Proofs.headL (Proofs.restL s k)) (Proofs.restL s (k + 1))) { tmps := a.tmps.setIfInBounds p (.string (Proofs.headL (Proofs.restL s k))), defers := [] } W1 := by
   refine ⟨s1.rh, rfl, ?_, fun t x hx => ?_⟩
   ·show (a.tmps.setIfInBounds p _).size = (head k).size
    rw [Array.size_setIfInBounds, hsz0, hzk]
   ·have hx : ((head k).env.set D p (some (.one (.lit (.string (Proofs.headL (Proofs.restL s k))))))).get D t = some x := hx
    rw [Tr.get_set_D _ _ _ _ hpl] at hx
    have hget : (a.tmps.setIfInBounds p (.string (Proofs.headL (Proofs.restL s k)))).getD t undef = if p = t then .string (Proofs.headL (Proofs.restL s k)) else a.tmps.getD t undef := by
     rw [Array.getD_eq_getD_getElem?, Array.getElem?_setIfInBounds, Array.getD_eq_getD_getElem?]
     split
     ·rename_i e; subst e; simp [hsz0, hpz]
     ·rfl
    show x.Is E' ((a.tmps.setIfInBounds p _).getD t undef)
    rw [hget]
    split at hx
    ·rename_i e
     injection hx with hx; subst hx; subst e
     rw [if_pos rfl]
     exact ⟨rfl, rfl⟩
    ·rename_i e
     rw [if_neg e]
     exact henv t x hx
  rw [htm]
  have hT := hround k hk hgk
  unfold linT at hT
  refine hrec assign _ (some l) [] E' _ W1 _ rm (fun l' hl' => by injection hl' with hl'; subst hl'; exact ⟨_, hW1l⟩) (Tree.All_mono (fun q hq D1 E1 a1 w2 r1 sA z1 _ => ?_) (Tree.All_bind hT))
  obtain ⟨x1, st1⟩ := q
  cases x1 with
  | exit i => exact hq.elim
  | ret => exact hq.elim
  | normal =>
   have hl2 : w2.heap[l]? = some (.loop rl) := sA.fr.oth _ _ hW1l rfl
   refine ⟨_, run_beginRound hl2 rfl, ?_⟩
   have hlp1 : st1.hp.lp = none := sA.lp.trans hlpk
   have S1 : Stp E0 sB.hp w0 E1 st1.hp w2 := (hst.trans s1).trans sA
   have S1' := shut_stp (.loop { rl with state := .busy }) S1 hlp1 hl2 rfl hw0l
   have hl2' : (w2.putObj l (.loop { rl with state := .busy })).heap[l]? = some (.loop { rl with state := .busy }) := World.putObj_heap_same (Array.getElem?_eq_some_iff.1 hl2).1
   refine hrec body st1 (some l) D1 E1 a1 _ _ ⟨S1'.rh, r1.defers, r1.size, r1.env⟩ (fun l' hl' => by injection hl' with hl'; subst hl'; exact ⟨_, hl2'⟩) (Tree.All_mono (fun q2 hq2 D2 E2 a2 w3 r2 s2 z2 _ => ?_) (Tree.All_bind hq))
   obtain ⟨x2, st2⟩ := q2
   simp only at hq2
   split at hq2
   ·rename_i hss
    have hq3 := Tree.All_bind hq2
    unfold canonT at hq3
    have S2 : Stp E0 sB.hp w0 E2 st2.hp w3 := S1'.trans s2
    have hz2 : st2.size = sB.size := (z2.trans z1).trans hzk
    have hslots1 : (slots.all fun t => Nat.blt t lim) = true := List.all_eq_true.2 fun t ht => by
     have := List.all_eq_true.1 hslots t ht
     rw [Bool.and_eq_true] at this
     exact this.1
    have hsame : ∀ t, t ∈ slots → a2.tmps.getD t undef = a.tmps.getD t undef := fun t ht => by
     have h5 := List.all_eq_true.1 hss t ht
     obtain ⟨y, z, hy1, hz1, huniq⟩ := sameP_val (s1.fr.ext.trans (sA.fr.ext.trans s2.fr.ext)) h5
     have hne : ¬ p = t := fun e => by
      have := List.all_eq_true.1 hslots t ht
      rw [Bool.and_eq_true] at this
      subst e
      simp at this
     have hy2 : ((head k).env.set D p (some (.one (.lit (.string (Proofs.headL (Proofs.restL s k))))))).get D t = some y := hy1
     rw [Tr.get_set_D _ _ _ _ hpl, if_neg hne] at hy2
     exact huniq _ _ (henv t y hy2) (r2.env t z hz1)
    have hbut : ∀ (ob' : Obj) (b : Nat) (ob : Obj), w1.heap[b]? = some ob → isFix ob = true → b ≠ l → (w3.putObj l ob').heap[b]? = some ob := fun ob' b ob h1 h2 h3 => by
     refine (World.putObj_heap_other h3).trans (s2.fr.oth _ _ ((World.putObj_heap_other h3).trans (sA.fr.oth _ _ (s1.fr.oth _ _ (hoth b ob h1 h2 h3) h2) h2)) h2)
    have hl3 : w3.heap[l]? = some (.loop { rl with state := .busy }) := s2.fr.oth _ _ hl2' rfl
    have hl3' : l < w3.heap.size := (Array.getElem?_eq_some_iff.1 hl3).1
    have key : ∀ st', canonAt slots sB st2 = some st' → ∃ E3, R D2 E3 { st' with env := pickE slots st'.env } a2 w3 ∧ Stp E0 sB.hp w0 E3 st'.hp w3 ∧ st'.size = sB.size ∧ ∀ t y, (pickE slots st'.env).get D t = some y → y.Is E3 (a.tmps.getD t undef) := by
     intro st' hst'
     obtain ⟨E3, r3, s3, z3⟩ := canonAt_ok hst' hlow rh0 r2 S2 hz2
     have hpe : ∀ t y, (pickE slots st'.env).get D t = some y → y.Is E3 (a2.tmps.getD t undef) := fun t y hy => r3.env t y (pickE_sub hslots1 hy)
     refine ⟨E3, ⟨r3.rh, r3.defers, r3.size, hpe⟩, s3, z3, fun t y hy => ?_⟩
     rw [← hsame t (pickE_mem hslots1 hy)]
     exact hpe t y hy
    have hlast : ∀ st' : St, st'.hp.lp = sB.hp.lp → st'.hp.lp = none := fun _ h => h.trans hlp0
    cases x2 with
    | normal =>
     simp only at hq3
     split at hq3
     ·rename_i st' hst'
      obtain ⟨E3, r3, s3, z3, h3env⟩ := key st' hst'
      have hle : ({ st' with env := pickE slots st'.env } : St).Le (head (k + 1)) := hq3.1
      have hend := run_endRound (P := Proofs.Tryz.prog) none hl3
      refine ⟨_, _, hend, .inl ⟨rfl, ⟨by omega, hq3.2⟩, E3, ?_, ?_, ?_, World.putObj_heap_same hl3', hbut _⟩⟩
      ·have hlp4 : (head (k + 1)).hp.lp = none := hle.lp.trans (hlast _ s3.lp)
       exact shut_stp _ (hle.stp r3 s3) hlp4 hl3 rfl hw0l
      ·exact (hle.r (a := { tmps := a.tmps, defers := D2 }) ⟨r3.rh, rfl, hsz0.trans (z3.symm), h3env⟩).env
      ·exact hle.size.trans z3
     ·exact hq3.elim
    | ret =>
     simp only at hq3
     split at hq3
     ·rename_i st' hst'
      obtain ⟨E3, r3, s3, z3, h3env⟩ := key st' hst'
      have hend := run_endRound (P := Proofs.Tryz.prog) (some .ret) hl3
      exact ⟨_, _, hend, .inr ⟨rfl, .ret, { st' with env := pickE slots st'.env }, E3, (by simp), hq3, shut_stp _ s3 (hlast _ s3.lp) hl3 rfl hw0l, h3env, z3, World.putObj_heap_same hl3', hbut _⟩⟩
     ·exact hq3.elim
    | exit i =>
     simp only at hq3
     split at hq3
     ·rename_i st' hst'
      obtain ⟨E3, r3, s3, z3, h3env⟩ := key st' hst'
      have hend := run_endRound (P := Proofs.Tryz.prog) (some (.exit i)) hl3
      exact ⟨_, _, hend, .inr ⟨rfl, .exit i, { st' with env := pickE slots st'.env }, E3, (by simp), hq3, shut_stp _ s3 (hlast _ s3.lp) hl3 rfl hw0l, h3env, z3, World.putObj_heap_same hl3', hbut _⟩⟩
     ·exact hq3.elim
   ·exact hq2.elim
 have hcalls := Proofs.Tryz.lines_in l B s m hm hm0 hs J Xx (fun k W hJ => by
   obtain ⟨arr, sz, E', _, _, _, h3, h4, _⟩ := hJbox k W hJ
   exact ⟨by simp [World.cell?, h3, h4], by simp [World.frozen?, h3]⟩) hYY w1 ⟨⟨Nat.zero_le _, hgood⟩, E, s0.trans (grow_same r.rh hold hsize hos htape hout), r.env, hz, hl1, fun _ _ h _ _ => h⟩
 have hbody : ∃ f, Proofs.Tryz.prog.funcs[119]? = some f ∧ f.body.isNone = false ∧ f.name ≠ "runtime.NumGoroutine" := ⟨_, Proofs.Tryz.func119, rfl, by decide⟩
 obtain ⟨f, hf, hb0, hn⟩ := hbody
 have hb' : ¬ f.body = none := by intro e0; rw [e0] at hb0; cases hb0
 have eg : ∀ args w, (callFunc 119 args).run Proofs.Tryz.prog w = .ok (.enter 119 args) w := fun args w => by simp [callFunc, hf, hn, hb']
 refine ⟨l, mark, w1, { target := .fn (.func 119) #[.pointer (some ⟨B, 0, none⟩)], args := #[.func (.yield l) #[] #[]] }, w1, 119, #[.func (.yield l) #[] #[], .pointer (some ⟨B, 0, none⟩)], w1, he, ?_, fun _ _ => trivial, ?_, fun h => (by cases h), callsG ro (hcalls.mono ?_)⟩
 ·have hgv' : a.eval (.tmp gt) = .func (.func 119) #[] #[.pointer (some ⟨B, 0, none⟩)] := hgv
  simp only [resolve, hgv']
  simp [go_sem]
 ·simp [invoke, go_sem, eg]
 ·have hmk2 : ∀ (W : World) (o : Obj), (∀ (b : Nat) (ob : Obj), w1.heap[b]? = some ob → isFix ob = true → b ≠ l → W.heap[b]? = some ob) → Marks w0 ds0 (mark ++ a.defers) (W.putObj l o) := fun W o hW => by
   have hO : Oth w (W.putObj l o) := fun b ob h1 h2 => by
    have hlt : b < w.heap.size := (Array.getElem?_eq_some_iff.1 h1).1
    exact (World.putObj_heap_other (by omega)).trans (hW b ob ((hold b hlt).trans h1) h2 (by omega))
   rw [r.defers]
   exact Marks.trans s0.fr.size hO hmk ⟨mark, rfl, hmarks.but hl1 fun b ob h1 h2 h3 => (World.putObj_heap_other h3).trans (hW b ob h1 h2 h3)⟩
  rintro e W ⟨⟨v, rfl⟩, hJ | hX⟩
  ·obtain ⟨⟨_, hgm⟩, E', hst, henv, hzk, hWl, hoth⟩ := hJ
   have hend' := run_endLoop (P := Proofs.Tryz.prog) hWl (by simp)
   have S := shut_stp (.loop { rl with state := .exhausted }) hst (hst.lp.trans hlp0) hWl rfl hw0l
   exact ⟨none, _, hend', hq _ (hend hgm) (mark ++ a.defers) E' { a with defers := mark ++ a.defers } _ ⟨S.rh, rfl, (r.size.trans hz).trans hzk.symm, henv⟩ S hzk (hmk2 W _ hoth)⟩
  ·obtain ⟨x, st, E', hne, hφ, hst, henv, hzk, hWl, hoth⟩ := hX
   have hend' := run_endLoop (P := Proofs.Tryz.prog) hWl (by simp)
   have S := shut_stp (.loop { rl with state := .exhausted, pending := some (codeX x) }) hst (hst.lp.trans hlp0) hWl rfl hw0l
   have hQ := hq _ hφ (mark ++ a.defers) E' { a with defers := mark ++ a.defers } _ ⟨S.rh, rfl, (r.size.trans hz).trans hzk.symm, henv⟩ S hzk (hmk2 W _ hoth)
   refine ⟨some (codeX x), _, hend', ?_⟩
   cases x with
   | normal => exact absurd rfl hne
   | ret => exact wpIn_ret hQ
   | exit i => exact wpIn_exit hQ
end Go.Ev
namespace Go.Ev
open Go
end Go.Ev
