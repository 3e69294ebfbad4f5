/- What the abstract memory of the evaluator says of a world: the relation, and how it is kept. Conditions: none. -/
import Derived.Test.YtlpchgidkibbeaaGreatDoorEv
import Derived.RangeFuncOwn
namespace Go.Ev
open Go

theorem Tree.run_bind {α β : Type} (t : Tree α) (f : α → Tree β) : (t.bind f).run = t.run.bind fun a => (f a).run := by
  induction t with
  | leaf a => rfl
  | node b t e iht ihe => cases b <;> simp [Tree.bind, Tree.run, iht, ihe]
  | need b t ih => cases b <;> simp [Tree.bind, Tree.run, ih]
  | amb l r ihl _ => simp [Tree.bind, Tree.run, ihl]
  | fail n => rfl

theorem Tree.bind_some {α β : Type} {t : Tree α} {f : α → Tree β} {b : β} (h : (t.bind f).run = some b) : ∃ a, t.run = some a ∧ (f a).run = some b := by
  rw [Tree.run_bind] at h
  cases ht : t.run with
  | none => rw [ht] at h; cases h
  | some a => rw [ht] at h; exact ⟨a, rfl, h⟩

theorem Tree.need_some {α : Type} {b : Bool} {t : Tree α} {a : α} (h : (Tree.need b t).run = some a) : b = true ∧ t.run = some a := by
  cases b
  · cases h
  · exact ⟨rfl, h⟩

/-- what holds of each outcome -/
def Tree.All {α : Type} (p : α → Prop) : Tree α → Prop
  | .leaf a => p a
  | .node b t e => match b with | true => t.All p | false => e.All p
  | .need b t => b = true ∧ t.All p
  | .amb l r => l.All p ∧ r.All p
  | .fail _ => False

theorem Tree.All_run {α : Type} {p : α → Prop} : ∀ {t : Tree α}, t.All p → ∃ a, t.run = some a ∧ p a
  | .leaf a, h => ⟨a, rfl, h⟩
  | .node true t _, h => Tree.All_run (t := t) h
  | .node false _ e, h => Tree.All_run (t := e) h
  | .need true t, h => Tree.All_run (t := t) h.2
  | .need false _, h => by cases h.1
  | .amb l _, h => Tree.All_run (t := l) h.1
  | .fail _, h => h.elim

theorem Tree.All_bind {α β : Type} {p : β → Prop} {f : α → Tree β} : ∀ {t : Tree α}, (t.bind f).All p → t.All fun a => (f a).All p
  | .leaf _, h => h
  | .node true t _, h => Tree.All_bind (t := t) h
  | .node false _ e, h => Tree.All_bind (t := e) h
  | .need _ t, h => ⟨h.1, Tree.All_bind (t := t) h.2⟩
  | .amb l r, h => ⟨Tree.All_bind (t := l) h.1, Tree.All_bind (t := r) h.2⟩
  | .fail _, h => h

theorem Tree.All_mono {α : Type} {p q : α → Prop} (hpq : ∀ a, p a → q a) : ∀ {t : Tree α}, t.All p → t.All q
  | .leaf a, h => hpq a h
  | .node true t _, h => Tree.All_mono hpq (t := t) h
  | .node false _ e, h => Tree.All_mono hpq (t := e) h
  | .need _ t, h => ⟨h.1, Tree.All_mono hpq (t := t) h.2⟩
  | .amb l r, h => ⟨Tree.All_mono hpq (t := l) h.1, Tree.All_mono hpq (t := r) h.2⟩
  | .fail _, h => h

theorem Tree.meetL_run {α : Type} {eq : α → α → Bool} {a x : α} : ∀ {r : Tree α}, (Tree.meet.meetL eq a r).run = some x → a = x ∧ ∃ b, r.run = some b ∧ eq a b = true
  | .leaf b, h => by
    obtain ⟨h1, h2⟩ := Tree.need_some h
    simp only [Tree.run, Option.some.injEq] at h2
    exact ⟨h2, b, rfl, h1⟩
  | .need b t, h => by
    obtain ⟨h1, h2⟩ := Tree.need_some h
    obtain ⟨e, y, hy, he⟩ := Tree.meetL_run (r := t) h2
    subst h1
    exact ⟨e, y, hy, he⟩
  | .node true t _, h => Tree.meetL_run (r := t) h
  | .node false _ e, h => Tree.meetL_run (r := e) h
  | .amb _ _, h => by cases h
  | .fail _, h => by cases h
theorem Tree.meet_run {α : Type} {eq : α → α → Bool} {x : α} : ∀ {l r : Tree α}, (l.meet eq r).run = some x → l.run = some x ∧ ∃ b, r.run = some b ∧ eq x b = true
  | .leaf a, r, h => by
    obtain ⟨e, y, hy, he⟩ := Tree.meetL_run h
    subst e
    exact ⟨rfl, y, hy, he⟩
  | .need b t, r, h => by
    obtain ⟨h1, h2⟩ := Tree.need_some h
    subst h1
    exact Tree.meet_run (l := t) h2
  | .node true t _, r, h => Tree.meet_run (l := t) (r := r) h
  | .node false _ e, r, h => Tree.meet_run (l := e) (r := r) h
  | .amb _ _, _, h => by cases h
  | .fail _, _, h => by cases h
theorem Tree.join_all {α : Type} {eq : α → α → Bool} (heq : ∀ a b, eq a b = true → a = b) {x : α} : ∀ {t : Tree α}, (t.join eq).run = some x → t.All fun a => a = x
  | .leaf a, h => by simpa [Tree.join, Tree.run, Tree.All] using h
  | .node true t _, h => Tree.join_all heq (t := t) h
  | .node false _ e, h => Tree.join_all heq (t := e) h
  | .need b t, h => by
    obtain ⟨h1, h2⟩ := Tree.need_some h
    exact ⟨h1, Tree.join_all heq (t := t) h2⟩
  | .amb l r, h => by
    obtain ⟨h1, b, h2, h3⟩ := Tree.meet_run h
    exact ⟨Tree.join_all heq h1, Tree.All_mono (fun a e => e.trans (heq _ _ h3).symm) (Tree.join_all heq h2)⟩
  | .fail _, h => by cases h
theorem Tree.alts_all {α : Type} {p : α → Prop} : ∀ {l : List (Tree α)}, (Tree.alts l).All p → ∀ t ∈ l, t.All p
  | [], h, _, _ => h.elim
  | [t], h, t', ht => by
    rw [List.mem_singleton] at ht
    subst ht
    exact h
  | t :: u :: ts, h, t', ht => by
    rcases List.mem_cons.1 ht with rfl | ht
    · exact h.1
    · exact Tree.alts_all (l := u :: ts) h.2 t' ht
theorem Tree.alts_ne {α : Type} {p : α → Prop} {l : List (Tree α)} (h : (Tree.alts l).All p) : l ≠ [] := by
  rintro rfl
  exact h

theorem Tree.outs_all {α : Type} {p : α → Prop} : ∀ {t : Tree α} {l : List α}, t.outs = some l → (∀ a ∈ l, p a) → t.All p
  | .leaf a, l, h, hp => by
    simp only [Tree.outs, Option.some.injEq] at h
    subst h
    exact hp a (by simp)
  | .node true t _, l, h, hp => Tree.outs_all (t := t) h hp
  | .node false _ e, l, h, hp => Tree.outs_all (t := e) h hp
  | .need true t, l, h, hp => ⟨rfl, Tree.outs_all (t := t) h hp⟩
  | .need false _, l, h, hp => by cases h
  | .amb x y, l, h, hp => by
    simp only [Tree.outs] at h
    split at h
    · rename_i a b ha hb
      simp only [Option.some.injEq] at h
      subst h
      exact ⟨Tree.outs_all ha fun c hc => hp c (List.mem_append_left _ hc), Tree.outs_all hb fun c hc => hp c (List.mem_append_right _ hc)⟩
    · cases h
  | .fail _, l, h, hp => by cases h
theorem memE_mem {α : Type} {eq : α → α → Bool} (heq : ∀ a b, eq a b = true → a = b) {a : α} : ∀ {l : List α}, memE eq a l = true → a ∈ l
  | [], h => by cases h
  | b :: bs, h => by
    unfold memE at h
    split at h
    · rename_i e
      rw [heq a b e]
      simp
    · exact List.mem_cons_of_mem _ (memE_mem heq h)
theorem uniqL_mem {α : Type} {eq : α → α → Bool} (heq : ∀ a b, eq a b = true → a = b) {a : α} : ∀ {l : List α}, a ∈ l → a ∈ uniqL eq l
  | [], h => by cases h
  | b :: bs, h => by
    unfold uniqL
    split
    · rename_i e
      rcases List.mem_cons.1 h with rfl | h
      · exact uniqL_mem heq (memE_mem heq e)
      · exact uniqL_mem heq h
    · rcases List.mem_cons.1 h with rfl | h
      · simp
      · exact List.mem_cons_of_mem _ (uniqL_mem heq h)
theorem Tree.uniq_all {α : Type} {eq : α → α → Bool} (heq : ∀ a b, eq a b = true → a = b) {p : α → Prop} {t : Tree α} (h : (t.uniq eq).All p) : t.All p := by
  unfold Tree.uniq at h
  split at h
  · rename_i l hl
    refine Tree.outs_all hl fun a ha => ?_
    have := Tree.alts_all h (.leaf a) (List.mem_map_of_mem (uniqL_mem heq ha))
    exact this
  · exact h.elim

theorem Tree.ofOption_run {α : Type} (n : Nat) (o : Option α) : (Tree.ofOption n o).run = o := by cases o <;> rfl

namespace Tr
variable {α : Type}
theorem get_set_other : ∀ (d : Nat) (t : Tr α) (i j : Nat) (x : Option α), i ≠ j → (set d t i x).get d j = t.get d j
  | 0, _, _, _, _, _ => rfl
  | d + 1, t, 0, 0, _, h => absurd rfl h
  | d + 1, t, 0, j + 1, x, _ => by simp [set, get, left, right]
  | d + 1, t, i + 1, 0, x, _ => by
    simp only [set]
    split <;> simp [get, val]
  | d + 1, t, i + 1, j + 1, x, h => by
    have hij : i ≠ j := fun e => h (by rw [e])
    simp only [set, get]
    cases hi : Nat.beq (i % 2) 0 <;> cases hj : Nat.beq (j % 2) 0 <;> simp only [left, right]
    · refine get_set_other d _ _ _ x ?_
      have h1 : ¬ i % 2 = 0 := fun e => by rw [e] at hi; cases hi
      have h2 : ¬ j % 2 = 0 := fun e => by rw [e] at hj; cases hj
      omega
    · refine get_set_other d _ _ _ x ?_
      have h1 := Nat.eq_of_beq_eq_true hi
      have h2 := Nat.eq_of_beq_eq_true hj
      omega

theorem get_set_same : ∀ (d : Nat) (t : Tr α) (i : Nat) (x : Option α), i + 1 < 2 ^ d → (set d t i x).get d i = x
  | 0, _, _, _, h => by simp at h
  | d + 1, t, 0, x, _ => by simp [set, get, val]
  | d + 1, t, i + 1, x, h => by
    simp only [set, get]
    have h2 : i / 2 + 1 < 2 ^ d := by rw [Nat.pow_succ] at h; omega
    cases hi : Nat.beq (i % 2) 0 <;> simp only [left, right] <;> exact get_set_same d _ _ x h2

theorem get_set_D (t : Tr α) (i j : Nat) (x : Option α) (h : i < lim) : (set D t i x).get D j = if i = j then x else t.get D j := by
  split
  · rename_i e; subst e; exact get_set_same D t i x (by have : (2 : Nat) ^ D = 8192 := by decide
                                                        unfold lim at h; omega)
  · rename_i e; exact get_set_other D t i j x e
theorem get_nil (d i : Nat) : (nil : Tr α).get d i = none := by
  induction d generalizing i with
  | zero => rfl
  | succ d ih => cases i with
    | zero => rfl
    | succ i => simp only [get, left, right, ih]; split <;> rfl
end Tr

/-! ### Two lists side by side -/
def All2 {α β : Type} (R : α → β → Prop) : List α → List β → Prop
  | [], [] => True
  | a :: as, b :: bs => R a b ∧ All2 R as bs
  | _, _ => False

section
variable {α β : Type} {R S : α → β → Prop}
theorem All2.imp (h : ∀ a b, R a b → S a b) : ∀ {as : List α} {bs : List β}, All2 R as bs → All2 S as bs
  | [], [], _ => trivial
  | a :: _, b :: _, hh => ⟨h a b hh.1, All2.imp h hh.2⟩
  | [], _ :: _, hh => hh.elim
  | _ :: _, [], hh => hh.elim
theorem All2.length : ∀ {as : List α} {bs : List β}, All2 R as bs → as.length = bs.length
  | [], [], _ => rfl
  | _ :: _, _ :: _, hh => congrArg (· + 1) (All2.length hh.2)
  | [], _ :: _, hh => hh.elim
  | _ :: _, [], hh => hh.elim
theorem All2.append : ∀ {as as' : List α} {bs bs' : List β}, All2 R as bs → All2 R as' bs' → All2 R (as ++ as') (bs ++ bs')
  | [], _, [], _, _, h => h
  | _ :: _, _, _ :: _, _, h, h' => ⟨h.1, All2.append h.2 h'⟩
  | [], _, _ :: _, _, h, _ => h.elim
  | _ :: _, _, [], _, h, _ => h.elim
theorem All2.take : ∀ (n : Nat) {as : List α} {bs : List β}, All2 R as bs → All2 R (as.take n) (bs.take n)
  | 0, _, _, _ => by simp [All2]
  | n + 1, [], [], _ => trivial
  | n + 1, _ :: _, _ :: _, h => ⟨h.1, All2.take n h.2⟩
  | _ + 1, [], _ :: _, h => h.elim
  | _ + 1, _ :: _, [], h => h.elim
theorem All2.drop : ∀ (n : Nat) {as : List α} {bs : List β}, All2 R as bs → All2 R (as.drop n) (bs.drop n)
  | 0, _, _, h => by simpa using h
  | n + 1, [], [], _ => trivial
  | n + 1, _ :: _, _ :: _, h => All2.drop n h.2
  | _ + 1, [], _ :: _, h => h.elim
  | _ + 1, _ :: _, [], h => h.elim
theorem All2.get : ∀ {as : List α} {bs : List β}, All2 R as bs → ∀ i a, nth as i = some a → ∃ b, bs[i]? = some b ∧ R a b
  | [], [], _, _, _, h => by simp [nth] at h
  | a :: as, b :: bs, hh, 0, a', h => by simp [nth] at h; subst h; exact ⟨b, rfl, hh.1⟩
  | a :: as, b :: bs, hh, i + 1, a', h => by
    obtain ⟨b', hb, hr⟩ := All2.get hh.2 i a' (by simpa [nth] using h)
    exact ⟨b', by simpa using hb, hr⟩
  | [], _ :: _, hh, _, _, _ => hh.elim
  | _ :: _, [], hh, _, _, _ => hh.elim
theorem All2.of_get : ∀ {as : List α} {bs : List β}, as.length = bs.length → (∀ i a, nth as i = some a → ∃ b, bs[i]? = some b ∧ R a b) → All2 R as bs
  | [], [], _, _ => trivial
  | a :: as, b :: bs, hl, h => by
    refine ⟨?_, All2.of_get (by simpa using hl) fun i a' ha => ?_⟩
    · obtain ⟨b', hb, hr⟩ := h 0 a rfl
      simp at hb; subst hb; exact hr
    · obtain ⟨b', hb, hr⟩ := h (i + 1) a' (by simpa [nth] using ha)
      exact ⟨b', by simpa using hb, hr⟩
  | [], _ :: _, hl, _ => by simp at hl
  | _ :: _, [], hl, _ => by simp at hl
end

theorem nth_eq {α : Type} : ∀ (l : List α) (i : Nat), nth l i = l[i]?
  | [], _ => by simp [nth]
  | _ :: _, 0 => rfl
  | _ :: l, i + 1 => by simp [nth, nth_eq l i]

/-! ### Values -/
/-- which block bears a name, of how many cells it is, and from which cell on it is told -/
abbrev Env := Nat → Option (Nat × Nat × Nat)

def ptrIs (E : Env) (c : Nat × Nat × Nat × Nat) (x : Value) : Prop := ∃ b s, E c.1 = some (b, s) ∧ x = .pointer (some ⟨b, s.2 + (c.2.1 * c.2.2.1 + c.2.2.2), none⟩)

def C.Is (E : Env) : C → Value → Prop
  | .lit v, x => x = v ∧ v.oneCell' = true
  | .ptr id k m j, x => ptrIs E (id, k, m, j) x
  | .sl own id k m j n, x => (∃ b s o cap, E id = some (b, s) ∧ x = .slice (some ⟨b, o, none⟩) n cap ∧ n ≤ cap ∧ cap ≤ maxLen ∧ (0 < n → o = s.2 + (k * m + j)) ∧ (own = true → o = 0 ∧ k = 0 ∧ j = 0 ∧ s = (cap * m, 0))) ∨ (own = false ∧ n = 0 ∧ x = .slice none 0 0)
  | .fn f caps, x => ∃ vs : List Value, x = .func (.func f) #[] vs.toArray ∧ All2 (ptrIs E) caps vs
  | .yld id, x => ∃ b s, E id = some (b, s) ∧ x = .func (.yield b) #[] #[]
  | .fb f ls, x => x = .func (.func f) (ls.map firstV).toArray #[] ∧ ∀ p ∈ ls, ∀ v ∈ p.2, v.oneCell' = true
  | .mp id, x => ∃ b s, E id = some (b, s) ∧ x = .map (some b)
  | .any, x => x.oneCell' = true

def compIs (E : Env) : Bool × List C → Value → Prop
  | (false, cs), x => ∃ c, cs = [c] ∧ c.Is E x
  | (true, cs), x => ∃ l : List Value, x = .agg l.toArray ∧ All2 (C.Is E) cs l

def A.Is (E : Env) : A → Value → Prop
  | .one c, x => c.Is E x
  | .agg cs, x => ∃ l : List Value, x = .agg l.toArray ∧ All2 (C.Is E) cs l
  | .tup vs, x => ∃ l : List Value, x = .tuple l.toArray ∧ All2 (compIs E) vs l

def Env.le (E E' : Env) : Prop := ∀ id x, E id = some x → E' id = some x
theorem Env.le.refl (E : Env) : E.le E := fun _ _ h => h
theorem Env.le.trans {E E' E'' : Env} (h : E.le E') (h' : E'.le E'') : E.le E'' := fun _ _ hh => h' _ _ (h _ _ hh)

theorem ptrIs.mono {E E' : Env} (h : E.le E') {c : Nat × Nat × Nat × Nat} {x : Value} : ptrIs E c x → ptrIs E' c x
  | ⟨b, s, he, hx⟩ => ⟨b, s, h _ _ he, hx⟩
theorem C.Is.mono {E E' : Env} (h : E.le E') {c : C} {x : Value} (hc : c.Is E x) : c.Is E' x := by
  cases c with
  | lit v => exact hc
  | ptr id k m j => exact ptrIs.mono h hc
  | sl own id k m j n =>
    rcases hc with ⟨b, s, o, cap, he, r⟩ | r
    · exact .inl ⟨b, s, o, cap, h _ _ he, r⟩
    · exact .inr r
  | fn f caps => obtain ⟨vs, hx, ha⟩ := hc; exact ⟨vs, hx, ha.imp fun _ _ hp => hp.mono h⟩
  | yld id => obtain ⟨b, s, he, hx⟩ := hc; exact ⟨b, s, h _ _ he, hx⟩
  | fb f ls => exact hc
  | mp id => obtain ⟨b, s, he, hx⟩ := hc; exact ⟨b, s, h _ _ he, hx⟩
  | any => exact hc
/-- a slice that is not nil -/
theorem sl_some {E : Env} {own : Bool} {id k m j n : Nat} {x : Value} (h : (C.sl own id k m j n).Is E x) (hn : own = true ∨ 0 < n) :
    ∃ b s o cap, E id = some (b, s) ∧ x = .slice (some ⟨b, o, none⟩) n cap ∧ n ≤ cap ∧ cap ≤ maxLen ∧ (0 < n → o = s.2 + (k * m + j)) ∧ (own = true → o = 0 ∧ k = 0 ∧ j = 0 ∧ s = (cap * m, 0)) := by
  rcases h with h | ⟨h1, h2, _⟩
  · exact h
  · rcases hn with hn | hn
    · rw [h1] at hn; cases hn
    · omega
theorem compIs.mono {E E' : Env} (h : E.le E') {c : Bool × List C} {x : Value} (hc : compIs E c x) : compIs E' c x := by
  obtain ⟨b, cs⟩ := c
  cases b with
  | false => obtain ⟨c, e, hh⟩ := hc; exact ⟨c, e, hh.mono h⟩
  | true => obtain ⟨l, e, hh⟩ := hc; exact ⟨l, e, hh.imp fun _ _ hp => hp.mono h⟩
theorem A.Is.mono {E E' : Env} (h : E.le E') {a : A} {x : Value} (ha : a.Is E x) : a.Is E' x := by
  cases a with
  | one c => exact C.Is.mono h ha
  | agg cs => obtain ⟨l, e, hh⟩ := ha; exact ⟨l, e, hh.imp fun _ _ hp => hp.mono h⟩
  | tup vs => obtain ⟨l, e, hh⟩ := ha; exact ⟨l, e, hh.imp fun _ _ hp => hp.mono h⟩

theorem C.Is.oneCell {E : Env} {c : C} {x : Value} (h : c.Is E x) : x.oneCell' = true := by
  cases c with
  | lit v => obtain ⟨rfl, hv⟩ := h; exact hv
  | ptr id k m j => obtain ⟨b, s, _, rfl⟩ := h; rfl
  | sl own id k m j n =>
    rcases h with ⟨b, s, o, cap, _, rfl, _⟩ | ⟨_, _, rfl⟩
    · rfl
    · rfl
  | fn f caps => obtain ⟨vs, rfl, _⟩ := h; rfl
  | yld id => obtain ⟨b, s, _, rfl⟩ := h; rfl
  | fb f ls => obtain ⟨rfl, _⟩ := h; rfl
  | mp id => obtain ⟨b, s, _, rfl⟩ := h; rfl
  | any => exact h

theorem cells_of_oneCell {x : Value} (h : x.oneCell' = true) : x.cells = #[x] := by cases x <;> first | rfl | cases h

theorem A.Is.cells {E : Env} {a : A} {x : Value} {cs : List C} (h : a.Is E x) (hc : a.cells = some cs) : All2 (C.Is E) cs x.cells.toList := by
  cases a with
  | one c => simp only [A.cells, Option.some.injEq] at hc; subst hc; rw [cells_of_oneCell (C.Is.oneCell h)]; exact ⟨h, trivial⟩
  | agg l => simp only [A.cells, Option.some.injEq] at hc; subst hc; obtain ⟨l', rfl, hh⟩ := h; simpa [Value.cells] using hh
  | tup vs => cases hc

theorem litC_is {E : Env} {v : Value} {c : C} (h : litC v = some c) : c.Is E v := by
  cases v <;> simp [litC] at h <;> subst h <;> exact ⟨rfl, rfl⟩
theorem litCs_is {E : Env} : ∀ {vs : List Value} {cs : List C}, litCs vs = some cs → All2 (C.Is E) cs vs
  | [], cs, h => by simp [litCs] at h; subst h; trivial
  | v :: vs, cs, h => by
    simp only [litCs] at h
    split at h
    · rename_i c cs' h1 h2; simp only [Option.some.injEq] at h; subst h; exact ⟨litC_is h1, litCs_is h2⟩
    · cases h
theorem ofVal_is {E : Env} {v : Value} {a : A} (h : ofVal v = some a) : a.Is E v := by
  cases v with
  | agg cs =>
    simp only [ofVal] at h
    split at h
    · rename_i l hl; simp only [Option.some.injEq] at h; subst h; exact ⟨cs.toList, by simp, litCs_is hl⟩
    · cases h
  | tuple vs =>
    simp only [ofVal] at h
    split at h
    · rename_i hl; simp only [Option.some.injEq] at h; subst h; exact ⟨[], by rw [← hl], trivial⟩
    · cases h
  | _ => simp only [ofVal, Option.some.injEq] at h; subst h; exact ⟨rfl, rfl⟩

theorem undefA_is (E : Env) : undefA.Is E undef := ⟨[], rfl, trivial⟩

theorem comp_is {E : Env} {a : A} {x : Value} {c : Bool × List C} (h : a.Is E x) (hc : a.comp = some c) : compIs E c x := by
  cases a with
  | one c' => simp only [A.comp, Option.some.injEq] at hc; subst hc; exact ⟨c', rfl, h⟩
  | agg l => simp only [A.comp, Option.some.injEq] at hc; subst hc; exact h
  | tup vs => cases hc
theorem ofComp_is {E : Env} {a : A} {x : Value} {c : Bool × List C} (h : compIs E c x) (hc : ofComp c = some a) : a.Is E x := by
  obtain ⟨b, cs⟩ := c
  cases b with
  | true => simp only [ofComp, Option.some.injEq] at hc; subst hc; exact h
  | false => obtain ⟨c, rfl, hh⟩ := h; simp only [ofComp, Option.some.injEq] at hc; subst hc; exact hh

/-- what bears no name reads alike whatever the names stand for -/
theorem C.Is.noId {E E' : Env} {c : C} {x : Value} (h : c.Is E x) (hn : c.noId = true) : c.Is E' x := by
  cases c with
  | lit v => exact h
  | ptr id k m j => cases hn
  | sl own id k m j n => cases hn
  | fn f caps =>
    cases caps with
    | nil => obtain ⟨vs, hx, ha⟩ := h; cases vs with
      | nil => exact ⟨[], hx, trivial⟩
      | cons => exact ha.elim
    | cons => cases hn
  | yld id => cases hn
  | fb f ls => exact h
  | mp id => cases hn
  | any => exact h
theorem noIds_is {E E' : Env} : ∀ {cs : List C} {l : List Value}, All2 (C.Is E) cs l → noIds cs = true → All2 (C.Is E') cs l
  | [], [], _, _ => trivial
  | c :: cs, v :: l, h, hn => by
    simp only [noIds] at hn
    split at hn
    · rename_i hc; exact ⟨h.1.noId hc, noIds_is h.2 hn⟩
    · cases hn
  | [], _ :: _, h, _ => h.elim
  | _ :: _, [], h, _ => h.elim
theorem compIs.noId {E E' : Env} {c : Bool × List C} {x : Value} (h : compIs E c x) (hn : noIds c.2 = true) : compIs E' c x := by
  obtain ⟨b, cs⟩ := c
  cases b with
  | true => obtain ⟨l, e, hh⟩ := h; exact ⟨l, e, noIds_is hh hn⟩
  | false =>
    obtain ⟨c, rfl, hh⟩ := h
    simp only [noIds] at hn
    split at hn
    · rename_i hc; exact ⟨c, rfl, hh.noId hc⟩
    · cases hn
theorem compIs_all_noId {E E' : Env} : ∀ {vs : List (Bool × List C)} {l : List Value}, All2 (compIs E) vs l → (vs.all fun v => noIds v.2) = true → All2 (compIs E') vs l
  | [], [], _, _ => trivial
  | c :: cs, v :: l, h, hn => by
    simp only [List.all_cons, Bool.and_eq_true] at hn
    exact ⟨h.1.noId hn.1, compIs_all_noId h.2 hn.2⟩
  | [], _ :: _, h, _ => h.elim
  | _ :: _, [], h, _ => h.elim
theorem A.Is.noId {E E' : Env} {a : A} {x : Value} (h : a.Is E x) (hn : a.noId = true) : a.Is E' x := by
  cases a with
  | one c => exact C.Is.noId h hn
  | agg cs => obtain ⟨l, e, hh⟩ := h; exact ⟨l, e, noIds_is hh hn⟩
  | tup vs => obtain ⟨l, e, hh⟩ := h; exact ⟨l, e, compIs_all_noId hh hn⟩

/-! ### Blocks -/
def Body.Is (E : Env) : Body → Array Value → Prop
  | .flat cs, arr => ∀ i c, nth cs i = some c → ∃ x, arr[i]? = some x ∧ c.Is E x
  | .rows n cols, arr => ∀ k j c, k < n → nth cols j = some c → ∃ x, arr[k * cols.length + j]? = some x ∧ (c.at k).Is E x
  | .map _, _ => False
theorem Body.Is.mono {E E' : Env} (h : E.le E') {b : Body} {arr : Array Value} (hb : b.Is E arr) : b.Is E' arr := by
  cases b with
  | flat cs => exact fun i c hc => let ⟨x, hx, hi⟩ := hb i c hc; ⟨x, hx, hi.mono h⟩
  | rows n cols => exact fun k j c hk hj => let ⟨x, hx, hi⟩ := hb k j c hk hj; ⟨x, hx, hi.mono h⟩
  | map es => exact hb.elim

/-- a block that was known from the first is told whole; one that the code has laid is not frozen -/
def roIs (b : Blk) (size : Nat) (fz : Nat × Nat) : Prop := match b.ro with
  | false => fz = (0, 0)
  | true => ∀ cs, b.body = .flat cs → size = cs.length
theorem roIs_own {b : Blk} {n : Nat} (h : b.ro = false) : roIs b n (0, 0) := by
  unfold roIs
  rw [h]
theorem roIs_fz {b : Blk} {n : Nat} {fz : Nat × Nat} (hr : roIs b n fz) (h : b.ro = false) : fz = (0, 0) := by
  unfold roIs at hr
  rw [h] at hr
  exact hr
/-- cells of the type that is told; the type of a block that is only read is left open -/
def rowAt (w : World) (k : Nat) (b : Blk) (arr : Array Value) (fz : Nat × Nat) : Prop := ∃ t, w.heap[k]? = some (.cells arr t fz) ∧ (b.ro = false → t = b.elem)
/-- cells from one on -/
def vw (o : Nat) (arr : Array Value) : Array Value := arr.extract o arr.size
theorem vw_zero (arr : Array Value) : vw 0 arr = arr := by simp [vw]
theorem vw_get (o : Nat) (arr : Array Value) (i : Nat) : (vw o arr)[i]? = arr[o + i]? := by
  unfold vw
  rw [Array.getElem?_extract]
  split
  · rfl
  · rw [Array.getElem?_eq_none (by omega)]
/-- what is said of a block's cells; a block that may be written is told from its first cell on -/
def bodyAt (E : Env) (b : Blk) (o : Nat) (arr : Array Value) : Prop := (b.ro = false → o = 0) ∧ b.body.Is E (vw o arr)
theorem bodyAt_zero {E : Env} {b : Blk} {arr : Array Value} (h : b.body.Is E arr) : bodyAt E b 0 arr := ⟨fun _ => rfl, by rw [vw_zero]; exact h⟩
theorem bodyAt.own {E : Env} {b : Blk} {o : Nat} {arr : Array Value} (h : bodyAt E b o arr) (hr : b.ro = false) : o = 0 ∧ b.body.Is E arr := by
  obtain ⟨h1, h2⟩ := h
  have := h1 hr
  subst this
  rw [vw_zero] at h2
  exact ⟨rfl, h2⟩
theorem bodyAt.mono {E E' : Env} (he : E.le E') {b : Blk} {o : Nat} {arr : Array Value} (h : bodyAt E b o arr) : bodyAt E' b o arr := ⟨h.1, h.2.mono he⟩
def cellsIs (E : Env) (w : World) (p : Nat × Nat × Nat) (b : Blk) : Prop :=
  ∃ arr fz, rowAt w p.1 b arr fz ∧ arr.size = p.2.1 ∧ bodyAt E b p.2.2 arr ∧ roIs b arr.size fz
/-- the entries of a map that has lost none -/
def ents : List (ByteArray × A) → List Value → Nat → List MapEntry
  | (k, _) :: es, v :: vs, i => ⟨.string k, v, i⟩ :: ents es vs (i + 1)
  | _, _, _ => []
def mapIs (E : Env) (w : World) (p : Nat × Nat × Nat) (b : Blk) : Prop :=
  ∃ es l, b.body = .map es ∧ b.ro = false ∧ w.heap[p.1]? = some (.map (ents es l 0).toArray es.length) ∧ All2 (A.Is E) (es.map (·.2)) l
def blkIs (E : Env) (w : World) (p : Nat × Nat × Nat) (b : Blk) : Prop := cellsIs E w p b ∨ mapIs E w p b
theorem blkIs.cells {E : Env} {w : World} {p : Nat × Nat × Nat} {b : Blk} (h : blkIs E w p b) (hm : b.body.isMap = false) : cellsIs E w p b := by
  rcases h with h | ⟨es, l, hb, _⟩
  · exact h
  · rw [hb] at hm; cases hm
theorem blkIs.mono {E E' : Env} (h : E.le E') {w : World} {p : Nat × Nat × Nat} {b : Blk} : blkIs E w p b → blkIs E' w p b
  | .inl ⟨arr, fz, h1, h2, h3, h4⟩ => .inl ⟨arr, fz, h1, h2, h3.mono h, h4⟩
  | .inr ⟨es, l, h1, h2, h3, h4⟩ => .inr ⟨es, l, h1, h2, h3, h4.imp fun _ _ hp => hp.mono h⟩

/-- what no operation of a walk turns: neither cells nor a map -/
def isFix : Obj → Bool
  | .cells .. => false
  | .map .. => false
  | _ => true
/-- whatever is neither cells nor a map lies as it lay -/
def Oth (w w' : World) : Prop := ∀ (b : Nat) (o : Obj), w.heap[b]? = some o → isFix o = true → w'.heap[b]? = some o
theorem Oth.refl (w : World) : Oth w w := fun _ _ h _ => h
theorem Oth.trans {a b c : World} (h : Oth a b) (k : Oth b c) : Oth a c := fun i o hi ho => k i o (h i o hi ho) ho

/-- the record of a loop over a function, between two rounds -/
def lpIs (E : Env) (w : World) (l : Nat) (d : Lp) : Prop :=
  ∃ r : Loop, w.heap[l]? = some (.loop r) ∧ r.state = .ready ∧ r.pending = none ∧ r.params = d.ps.toArray ∧ r.assign = d.assign ∧ r.body = d.body ∧ r.tmps.size = d.size ∧
    ∀ t x, d.env.get D t = some x → x.Is E (r.tmps.getD t undef)
theorem lpIs.mono {E E' : Env} {w w' : World} {l : Nat} {d : Lp} (h : E.le E') (ho : Oth w w') : lpIs E w l d → lpIs E' w' l d
  | ⟨r, h1, h2, h3, h4, h5, h6, h7, h8⟩ => ⟨r, ho _ _ h1 rfl, h2, h3, h4, h5, h6, h7, fun t x hx => (h8 t x hx).mono h⟩

/-- what the abstract memory says of a world -/
structure RH (E : Env) (h : Hp) (w : World) : Prop where
  nlim : h.next ≤ lim
  dom : ∀ id, h.next ≤ id → E id = none
  lt : ∀ id p, E id = some p → p.1 < w.heap.size
  blk : ∀ id b, h.heap.get D id = some b → ∃ p, E id = some p ∧ blkIs E w p b
  inj : ∀ id id' b b' p p', h.heap.get D id = some b → h.heap.get D id' = some b' → b.ro = false → E id = some p → E id' = some p' → p.1 = p'.1 → id = id'
  glob : ∀ g id, lookupN h.globs g = some id → ∃ s, E id = some (g, s, 0)
  lp : ∀ id d, h.lp = some (id, d) → ∃ p, E id = some p ∧ lpIs E w p.1 d
theorem RH.cells {E : Env} {h : Hp} {w : World} (r : RH E h w) {id : Nat} {b : Blk} (hb : h.blk id = some b) (hm : b.body.isMap = false) : ∃ p, E id = some p ∧ cellsIs E w p b :=
  let ⟨p, hp, hi⟩ := r.blk id b hb; ⟨p, hp, hi.cells hm⟩
theorem RH.lpStep {E E' : Env} {h : Hp} {w w' : World} (r : RH E h w) (he : E.le E') (ho : Oth w w') : ∀ id d, h.lp = some (id, d) → ∃ p, E' id = some p ∧ lpIs E' w' p.1 d :=
  fun id d hd => let ⟨p, hp, hi⟩ := r.lp id d hd; ⟨p, he _ _ hp, hi.mono he ho⟩

/-- from a world to a later one: what has turned, and which names are new -/
structure Fr (E : Env) (next low : Nat) (w : World) (E' : Env) (w' : World) : Prop where
  ext : E.le E'
  os : w'.os = w.os
  tape : w'.tape = w.tape
  output : w'.output = w.output
  size : w.heap.size ≤ w'.heap.size
  keep : ∀ b, b < w.heap.size → (∀ id p, E id = some p → p.1 = b → id < low) → w'.heap[b]? = w.heap[b]?
  new : ∀ id p, E' id = some p → E id = some p ∨ (next ≤ id ∧ (w.heap.size ≤ p.1 ∨ ∃ id0 p0, E id0 = some p0 ∧ p0.1 = p.1 ∧ low ≤ id0))
  oth : Oth w w'

theorem Fr.refl (E : Env) (next low : Nat) (w : World) : Fr E next low w E w :=
  ⟨Env.le.refl E, rfl, rfl, rfl, Nat.le_refl _, fun _ _ _ => rfl, fun _ _ h => .inl h, Oth.refl _⟩

theorem Fr.trans {E E' E'' : Env} {n n' l l' : Nat} {w w' w'' : World} (h : Fr E n l w E' w') (h' : Fr E' n' l' w' E'' w'') (hn : n ≤ n') (hl : l' ≤ l) : Fr E n l' w E'' w'' where
  ext := h.ext.trans h'.ext
  os := h'.os.trans h.os
  tape := h'.tape.trans h.tape
  output := h'.output.trans h.output
  size := Nat.le_trans h.size h'.size
  keep := fun b hb hno => by
    refine (h'.keep b (Nat.lt_of_lt_of_le hb h.size) fun id p hp hpb => ?_).trans (h.keep b hb fun id p hp hpb => Nat.lt_of_lt_of_le (hno id p hp hpb) hl)
    rcases h.new id p hp with he | ⟨_, hge | ⟨id0, p0, he0, hb0, hl0⟩⟩
    · exact hno id p he hpb
    · omega
    · have := hno id0 p0 he0 (hb0.trans hpb); omega
  new := fun id p hp => by
    rcases h'.new id p hp with he | ⟨hge, hs⟩
    · rcases h.new id p he with h1 | ⟨h1, h2 | ⟨id0, p0, he0, hb0, hl0⟩⟩
      · exact .inl h1
      · exact .inr ⟨h1, .inl h2⟩
      · exact .inr ⟨h1, .inr ⟨id0, p0, he0, hb0, Nat.le_trans hl hl0⟩⟩
    · refine .inr ⟨Nat.le_trans hn hge, ?_⟩
      rcases hs with hs | ⟨id0, p0, he0, hb0, hl0⟩
      · exact .inl (Nat.le_trans h.size hs)
      · rcases h.new id0 p0 he0 with h1 | ⟨_, h2 | ⟨id1, p1, he1, hb1, hl1⟩⟩
        · exact .inr ⟨id0, p0, h1, hb0, hl0⟩
        · exact .inl (by rw [← hb0]; exact h2)
        · exact .inr ⟨id1, p1, he1, hb1.trans hb0, Nat.le_trans hl hl1⟩
  oth := h.oth.trans h'.oth

theorem Fr.low_le {E E' : Env} {n l l' : Nat} {w w' : World} (h : Fr E n l w E' w') (hl : l' ≤ l) : Fr E n l' w E' w' :=
  { h with
    keep := fun b hb hno => h.keep b hb fun id p hp hpb => Nat.lt_of_lt_of_le (hno id p hp hpb) hl
    new := fun id p hp => by
      rcases h.new id p hp with h1 | ⟨h1, h2 | ⟨id0, p0, he0, hb0, hl0⟩⟩
      · exact .inl h1
      · exact .inr ⟨h1, .inl h2⟩
      · exact .inr ⟨h1, .inr ⟨id0, p0, he0, hb0, Nat.le_trans hl hl0⟩⟩ }

/-- a step of the evaluation -/
structure Stp (E : Env) (h : Hp) (w : World) (E' : Env) (h' : Hp) (w' : World) : Prop where
  rh : RH E' h' w'
  fr : Fr E h.next h'.low w E' w'
  next : h.next ≤ h'.next
  low : h'.low ≤ h.low
  globs : h'.globs = h.globs
  lp : h'.lp = h.lp

theorem Stp.refl {E : Env} {h : Hp} {w : World} (r : RH E h w) : Stp E h w E h w := ⟨r, Fr.refl _ _ _ _, Nat.le_refl _, Nat.le_refl _, rfl, rfl⟩
theorem Stp.trans {E E' E'' : Env} {h h' h'' : Hp} {w w' w'' : World} (s : Stp E h w E' h' w') (s' : Stp E' h' w' E'' h'' w'') : Stp E h w E'' h'' w'' :=
  ⟨s'.rh, s.fr.trans s'.fr s.next s'.low, Nat.le_trans s.next s'.next, Nat.le_trans s'.low s.low, s'.globs.trans s.globs, s'.lp.trans s.lp⟩

/-- a draw -/
theorem blkIs.of_heap {E : Env} {w w' : World} {p : Nat × Nat × Nat} {b : Blk} (h : w'.heap[p.1]? = w.heap[p.1]?) : blkIs E w p b → blkIs E w' p b
  | .inl ⟨arr, fz, ⟨t, h1, ht⟩, h2, h3, h4⟩ => .inl ⟨arr, fz, ⟨t, h.trans h1, ht⟩, h2, h3, h4⟩
  | .inr ⟨es, l, h1, h2, h3, h4⟩ => .inr ⟨es, l, h1, h2, h.trans h3, h4⟩
theorem RH.of_heap {E : Env} {h : Hp} {w w' : World} (r : RH E h w) (hh : w'.heap = w.heap) : RH E h w' :=
  ⟨r.nlim, r.dom, fun id p hp => by rw [hh]; exact r.lt id p hp, fun id b hb => let ⟨p, hp, hi⟩ := r.blk id b hb; ⟨p, hp, hi.of_heap (by rw [hh])⟩, r.inj, r.glob, r.lpStep (Env.le.refl E) fun b o hb _ => by rw [hh]; exact hb⟩
theorem RH.drew {E : Env} {h : Hp} {w : World} (r : RH E h w) : RH E h { w with drawn := w.drawn + 1 } := r.of_heap rfl
theorem Fr.drew (E : Env) (n l : Nat) (w : World) : Fr E n l w E { w with drawn := w.drawn + 1 } :=
  ⟨Env.le.refl E, rfl, rfl, rfl, Nat.le_refl _, fun _ _ _ => rfl, fun _ _ h => .inl h, fun _ _ hb _ => hb⟩
theorem Stp.drew {E : Env} {h : Hp} {w : World} (r : RH E h w) : Stp E h w E h { w with drawn := w.drawn + 1 } := ⟨r.drew, Fr.drew _ _ _ _, Nat.le_refl _, Nat.le_refl _, rfl, rfl⟩

/-- where a call has written nothing that was there, the memory that was known is known still -/
theorem Stp.forget {E E' : Env} {h h' : Hp} {w w' : World} (r : RH E h w) (f : Fr E h.next h'.low w E' w') (hlow : h.next ≤ h'.low) : Stp E h w E h w' where
  rh := {
    nlim := r.nlim
    dom := r.dom
    lt := fun id p hp => Nat.lt_of_lt_of_le (r.lt id p hp) f.size
    blk := fun id b hb => by
      obtain ⟨p, hp, hi⟩ := r.blk id b hb
      refine ⟨p, hp, hi.of_heap (f.keep p.1 (r.lt id p hp) fun id' p' hp' _ => ?_)⟩
      rcases Nat.lt_or_ge id' h.next with hlt | hge
      · omega
      · rw [r.dom id' hge] at hp'; cases hp'
    inj := r.inj
    glob := r.glob
    lp := r.lpStep (Env.le.refl E) f.oth }
  fr := {
    ext := Env.le.refl E
    os := f.os
    tape := f.tape
    output := f.output
    size := f.size
    keep := fun b hb _ => f.keep b hb fun id' p' hp' _ => by
      rcases Nat.lt_or_ge id' h.next with hlt | hge
      · omega
      · rw [r.dom id' hge] at hp'; cases hp'
    new := fun _ _ hp => .inl hp
    oth := f.oth }
  next := Nat.le_refl _
  low := Nat.le_refl _
  globs := rfl
  lp := rfl
end Go.Ev
