/- What the abstract memory of the evaluator says of a world: the relation, and how it is kept. Conditions: none. How loads, stores and new blocks of a world keep what the evaluator's memory says of it. Conditions: none. '==' of struct and array values as the evaluator says it. Conditions: none. The evaluator's operations are those of the model. Conditions: none. Each operation of the evaluator is sound. Conditions: none. -/
import Derived.Test.YtjckcdpjibfacaaGreatEv
import Derived.RangeFuncOwn
import Derived.Laws.StructEq
import Derived.Maps.AppendAt
namespace Go.Ev
open Go
theorem Tree.run_bind {α β : Type} (t : Tree α) (f : α → Tree β) : (t.bind f).run = t.run.bind fun a => (f a).run := by
 induction t with
 | leaf a => rfl
 | node b t e iht ihe => cases b <;> simp [Tree.bind, Tree.run, iht, ihe]
 | need b t ih => cases b <;> simp [Tree.bind, Tree.run, ih]
 | amb l r ihl _ => simp [Tree.bind, Tree.run, ihl]
 | fail n => rfl
theorem Tree.bind_some {α β : Type} {t : Tree α} {f : α → Tree β} {b : β} (h : (t.bind f).run = some b) : ∃ a, t.run = some a ∧ (f a).run = some b := by
 rw [Tree.run_bind] at h
 cases ht : t.run with
 | none => rw [ht] at h; cases h
 | some a => rw [ht] at h; exact ⟨a, rfl, h⟩
theorem Tree.need_some {α : Type} {b : Bool} {t : Tree α} {a : α} (h : (Tree.need b t).run = some a) : b = true ∧ t.run = some a := by
 cases b
 ·cases h
 ·exact ⟨rfl, h⟩
def Tree.All {α : Type} (p : α → Prop) : Tree α → Prop
 | .leaf a => p a
 | .node b t e => match b with | true => t.All p | false => e.All p
 | .need b t => b = true ∧ t.All p
 | .amb l r => l.All p ∧ r.All p
 | .fail _ => False
theorem Tree.All_run {α : Type} {p : α → Prop} : ∀ {t : Tree α}, t.All p → ∃ a, t.run = some a ∧ p a
 | .leaf a, h => ⟨a, rfl, h⟩
 | .node true t _, h => Tree.All_run (t := t) h
 | .node false _ e, h => Tree.All_run (t := e) h
 | .need true t, h => Tree.All_run (t := t) h.2
 | .need false _, h => by cases h.1
 | .amb l _, h => Tree.All_run (t := l) h.1
 | .fail _, h => h.elim
theorem Tree.All_bind {α β : Type} {p : β → Prop} {f : α → Tree β} : ∀ {t : Tree α}, (t.bind f).All p → t.All fun a => (f a).All p
 | .leaf _, h => h
 | .node true t _, h => Tree.All_bind (t := t) h
 | .node false _ e, h => Tree.All_bind (t := e) h
 | .need _ t, h => ⟨h.1, Tree.All_bind (t := t) h.2⟩
 | .amb l r, h => ⟨Tree.All_bind (t := l) h.1, Tree.All_bind (t := r) h.2⟩
 | .fail _, h => h
theorem Tree.All_mono {α : Type} {p q : α → Prop} (hpq : ∀ a, p a → q a) : ∀ {t : Tree α}, t.All p → t.All q
 | .leaf a, h => hpq a h
 | .node true t _, h => Tree.All_mono hpq (t := t) h
 | .node false _ e, h => Tree.All_mono hpq (t := e) h
 | .need _ t, h => ⟨h.1, Tree.All_mono hpq (t := t) h.2⟩
 | .amb l r, h => ⟨Tree.All_mono hpq (t := l) h.1, Tree.All_mono hpq (t := r) h.2⟩
 | .fail _, h => h
theorem Tree.meetL_run {α : Type} {eq : α → α → Bool} {a x : α} : ∀ {r : Tree α}, (Tree.meet.meetL eq a r).run = some x → a = x ∧ ∃ b, r.run = some b ∧ eq a b = true
 | .leaf b, h => by
  obtain ⟨h1, h2⟩ := Tree.need_some h
  simp only [Tree.run, Option.some.injEq] at h2
  exact ⟨h2, b, rfl, h1⟩
 | .need b t, h => by
  obtain ⟨h1, h2⟩ := Tree.need_some h
  obtain ⟨e, y, hy, he⟩ := Tree.meetL_run (r := t) h2
  subst h1
  exact ⟨e, y, hy, he⟩
 | .node true t _, h => Tree.meetL_run (r := t) h
 | .node false _ e, h => Tree.meetL_run (r := e) h
 | .amb _ _, h => by cases h
 | .fail _, h => by cases h
theorem Tree.meet_run {α : Type} {eq : α → α → Bool} {x : α} : ∀ {l r : Tree α}, (l.meet eq r).run = some x → l.run = some x ∧ ∃ b, r.run = some b ∧ eq x b = true
 | .leaf a, r, h => by
  obtain ⟨e, y, hy, he⟩ := Tree.meetL_run h
  subst e
  exact ⟨rfl, y, hy, he⟩
 | .need b t, r, h => by
  obtain ⟨h1, h2⟩ := Tree.need_some h
  subst h1
  exact Tree.meet_run (l := t) h2
 | .node true t _, r, h => Tree.meet_run (l := t) (r := r) h
 | .node false _ e, r, h => Tree.meet_run (l := e) (r := r) h
 | .amb _ _, _, h => by cases h
 | .fail _, _, h => by cases h
theorem Tree.join_all {α : Type} {eq : α → α → Bool} (heq : ∀ a b, eq a b = true → a = b) {x : α} : ∀ {t : Tree α}, (t.join eq).run = some x → t.All fun a => a = x
 | .leaf a, h => by simpa [Tree.join, Tree.run, Tree.All] using h
 | .node true t _, h => Tree.join_all heq (t := t) h
 | .node false _ e, h => Tree.join_all heq (t := e) h
 | .need b t, h => by
  obtain ⟨h1, h2⟩ := Tree.need_some h
  exact ⟨h1, Tree.join_all heq (t := t) h2⟩
 | .amb l r, h => by
  obtain ⟨h1, b, h2, h3⟩ := Tree.meet_run h
  exact ⟨Tree.join_all heq h1, Tree.All_mono (fun a e => e.trans (heq _ _ h3).symm) (Tree.join_all heq h2)⟩
 | .fail _, h => by cases h
theorem Tree.alts_all {α : Type} {p : α → Prop} : ∀ {l : List (Tree α)}, (Tree.alts l).All p → ∀ t ∈ l, t.All p
 | [], h, _, _ => h.elim
 | [t], h, t', ht => by
  rw [List.mem_singleton] at ht
  subst ht
  exact h
 | t :: u :: ts, h, t', ht => by
  rcases List.mem_cons.1 ht with rfl | ht
  ·exact h.1
  ·exact Tree.alts_all (l := u :: ts) h.2 t' ht
theorem Tree.alts_ne {α : Type} {p : α → Prop} {l : List (Tree α)} (h : (Tree.alts l).All p) : l ≠ [] := by
 rintro rfl
 exact h
theorem Tree.outs_all {α : Type} {p : α → Prop} : ∀ {t : Tree α} {l : List α}, t.outs = some l → (∀ a ∈ l, p a) → t.All p
 | .leaf a, l, h, hp => by
  simp only [Tree.outs, Option.some.injEq] at h
  subst h
  exact hp a (by simp)
 | .node true t _, l, h, hp => Tree.outs_all (t := t) h hp
 | .node false _ e, l, h, hp => Tree.outs_all (t := e) h hp
 | .need true t, l, h, hp => ⟨rfl, Tree.outs_all (t := t) h hp⟩
 | .need false _, l, h, hp => by cases h
 | .amb x y, l, h, hp => by
  simp only [Tree.outs] at h
  split at h
  ·rename_i a b ha hb
   simp only [Option.some.injEq] at h
   subst h
   exact ⟨Tree.outs_all ha fun c hc => hp c (List.mem_append_left _ hc), Tree.outs_all hb fun c hc => hp c (List.mem_append_right _ hc)⟩
  ·cases h
 | .fail _, l, h, hp => by cases h
theorem memE_mem {α : Type} {eq : α → α → Bool} (heq : ∀ a b, eq a b = true → a = b) {a : α} : ∀ {l : List α}, memE eq a l = true → a ∈ l
 | [], h => by cases h
 | b :: bs, h => by
  unfold memE at h
  split at h
  ·rename_i e
   rw [heq a b e]
   simp
  ·exact List.mem_cons_of_mem _ (memE_mem heq h)
theorem uniqL_mem {α : Type} {eq : α → α → Bool} (heq : ∀ a b, eq a b = true → a = b) {a : α} : ∀ {l : List α}, a ∈ l → a ∈ uniqL eq l
 | [], h => by cases h
 | b :: bs, h => by
  unfold uniqL
  split
  ·rename_i e
   rcases List.mem_cons.1 h with rfl | h
   ·exact uniqL_mem heq (memE_mem heq e)
   ·exact uniqL_mem heq h
  ·rcases List.mem_cons.1 h with rfl | h
   ·simp
   ·exact List.mem_cons_of_mem _ (uniqL_mem heq h)
theorem Tree.uniq_all {α : Type} {eq : α → α → Bool} (heq : ∀ a b, eq a b = true → a = b) {p : α → Prop} {t : Tree α} (h : (t.uniq eq).All p) : t.All p := by
 unfold Tree.uniq at h
 split at h
 ·rename_i l hl
  refine Tree.outs_all hl fun a ha => ?_
  have := Tree.alts_all h (.leaf a) (List.mem_map_of_mem (uniqL_mem heq ha))
  exact this
 ·exact h.elim
theorem Tree.ofOption_run {α : Type} (n : Nat) (o : Option α) : (Tree.ofOption n o).run = o := by cases o <;> rfl
namespace Tr
variable {α : Type}
theorem get_set_other : ∀ (d : Nat) (t : Tr α) (i j : Nat) (x : Option α), i ≠ j → (set d t i x).get d j = t.get d j
 | 0, _, _, _, _, _ => rfl
 | d + 1, t, 0, 0, _, h => absurd rfl h
 | d + 1, t, 0, j + 1, x, _ => by simp [set, get, left, right]
 | d + 1, t, i + 1, 0, x, _ => by
  simp only [set]
  split <;> simp [get, val]
 | d + 1, t, i + 1, j + 1, x, h => by
  have hij : i ≠ j := fun e => h (by rw [e])
  simp only [set, get]
  cases hi : Nat.beq (i % 2) 0 <;> cases hj : Nat.beq (j % 2) 0 <;> simp only [left, right]
  ·refine get_set_other d _ _ _ x ?_
   have h1 : ¬ i % 2 = 0 := fun e => by rw [e] at hi; cases hi
   have h2 : ¬ j % 2 = 0 := fun e => by rw [e] at hj; cases hj
   omega
  ·refine get_set_other d _ _ _ x ?_
   have h1 := Nat.eq_of_beq_eq_true hi
   have h2 := Nat.eq_of_beq_eq_true hj
   omega
theorem get_set_same : ∀ (d : Nat) (t : Tr α) (i : Nat) (x : Option α), i + 1 < 2 ^ d → (set d t i x).get d i = x
 | 0, _, _, _, h => by simp at h
 | d + 1, t, 0, x, _ => by simp [set, get, val]
 | d + 1, t, i + 1, x, h => by
  simp only [set, get]
  have h2 : i / 2 + 1 < 2 ^ d := by rw [Nat.pow_succ] at h; omega
  cases hi : Nat.beq (i % 2) 0 <;> simp only [left, right] <;> exact get_set_same d _ _ x h2
theorem get_set_D (t : Tr α) (i j : Nat) (x : Option α) (h : i < lim) : (set D t i x).get D j = if i = j then x else t.get D j := by
  split
  · rename_i e; subst e; exact get_set_same D t i x (by have : (2 : Nat) ^ D = 8192 := by decide
                                                        unfold lim at h; omega)
  · rename_i e; exact get_set_other D t i j x e
theorem get_nil (d i : Nat) : (nil : Tr α).get d i = none := by
 induction d generalizing i with
 | zero => rfl
 | succ d ih => cases i with
  | zero => rfl
  | succ i => simp only [get, left, right, ih]; split <;> rfl
end Tr
def All2 {α β : Type} (R : α → β → Prop) : List α → List β → Prop
 | [], [] => True
 | a :: as, b :: bs => R a b ∧ All2 R as bs
 | _, _ => False
section
variable {α β : Type} {R S : α → β → Prop}
theorem All2.imp (h : ∀ a b, R a b → S a b) : ∀ {as : List α} {bs : List β}, All2 R as bs → All2 S as bs
 | [], [], _ => trivial
 | a :: _, b :: _, hh => ⟨h a b hh.1, All2.imp h hh.2⟩
 | [], _ :: _, hh => hh.elim
 | _ :: _, [], hh => hh.elim
theorem All2.length : ∀ {as : List α} {bs : List β}, All2 R as bs → as.length = bs.length
 | [], [], _ => rfl
 | _ :: _, _ :: _, hh => congrArg (· + 1) (All2.length hh.2)
 | [], _ :: _, hh => hh.elim
 | _ :: _, [], hh => hh.elim
theorem All2.append : ∀ {as as' : List α} {bs bs' : List β}, All2 R as bs → All2 R as' bs' → All2 R (as ++ as') (bs ++ bs')
 | [], _, [], _, _, h => h
 | _ :: _, _, _ :: _, _, h, h' => ⟨h.1, All2.append h.2 h'⟩
 | [], _, _ :: _, _, h, _ => h.elim
 | _ :: _, _, [], _, h, _ => h.elim
theorem All2.take : ∀ (n : Nat) {as : List α} {bs : List β}, All2 R as bs → All2 R (as.take n) (bs.take n)
 | 0, _, _, _ => by simp [All2]
 | n + 1, [], [], _ => trivial
 | n + 1, _ :: _, _ :: _, h => ⟨h.1, All2.take n h.2⟩
 | _ + 1, [], _ :: _, h => h.elim
 | _ + 1, _ :: _, [], h => h.elim
theorem All2.drop : ∀ (n : Nat) {as : List α} {bs : List β}, All2 R as bs → All2 R (as.drop n) (bs.drop n)
 | 0, _, _, h => by simpa using h
 | n + 1, [], [], _ => trivial
 | n + 1, _ :: _, _ :: _, h => All2.drop n h.2
 | _ + 1, [], _ :: _, h => h.elim
 | _ + 1, _ :: _, [], h => h.elim
theorem All2.get : ∀ {as : List α} {bs : List β}, All2 R as bs → ∀ i a, nth as i = some a → ∃ b, bs[i]? = some b ∧ R a b
 | [], [], _, _, _, h => by simp [nth] at h
 | a :: as, b :: bs, hh, 0, a', h => by simp [nth] at h; subst h; exact ⟨b, rfl, hh.1⟩
 | a :: as, b :: bs, hh, i + 1, a', h => by
  obtain ⟨b', hb, hr⟩ := All2.get hh.2 i a' (by simpa [nth] using h)
  exact ⟨b', by simpa using hb, hr⟩
 | [], _ :: _, hh, _, _, _ => hh.elim
 | _ :: _, [], hh, _, _, _ => hh.elim
theorem All2.of_get : ∀ {as : List α} {bs : List β}, as.length = bs.length → (∀ i a, nth as i = some a → ∃ b, bs[i]? = some b ∧ R a b) → All2 R as bs
 | [], [], _, _ => trivial
 | a :: as, b :: bs, hl, h => by
  refine ⟨?_, All2.of_get (by simpa using hl) fun i a' ha => ?_⟩
  ·obtain ⟨b', hb, hr⟩ := h 0 a rfl
   simp at hb; subst hb; exact hr
  ·obtain ⟨b', hb, hr⟩ := h (i + 1) a' (by simpa [nth] using ha)
   exact ⟨b', by simpa using hb, hr⟩
 | [], _ :: _, hl, _ => by simp at hl
 | _ :: _, [], hl, _ => by simp at hl
end
theorem nth_eq {α : Type} : ∀ (l : List α) (i : Nat), nth l i = l[i]?
 | [], _ => by simp [nth]
 | _ :: _, 0 => rfl
 | _ :: l, i + 1 => by simp [nth, nth_eq l i]
abbrev Env := Nat → Option (Nat × Nat × Nat)
def ptrIs (E : Env) (c : Nat × Nat × Nat × Nat) (x : Value) : Prop := ∃ b s, E c.1 = some (b, s) ∧ x = .pointer (some ⟨b, s.2 + (c.2.1 * c.2.2.1 + c.2.2.2), none⟩)
def C.Is (E : Env) : C → Value → Prop
 | .lit v, x => x = v ∧ v.oneCell' = true
 | .ptr id k m j, x => ptrIs E (id, k, m, j) x
 | .sl own id k m j n, x => (∃ b s o cap, E id = some (b, s) ∧ x = .slice (some ⟨b, o, none⟩) n cap ∧ n ≤ cap ∧ cap ≤ maxLen ∧ (0 < n → o = s.2 + (k * m + j)) ∧ (own = true → o = 0 ∧ k = 0 ∧ j = 0 ∧ s = (cap * m, 0))) ∨ (own = false ∧ n = 0 ∧ x = .slice none 0 0)
 | .fn f caps, x => ∃ vs : List Value, x = .func (.func f) #[] vs.toArray ∧ All2 (ptrIs E) caps vs
 | .yld id, x => ∃ b s, E id = some (b, s) ∧ x = .func (.yield b) #[] #[]
 | .fb f ls, x => x = .func (.func f) (ls.map firstV).toArray #[] ∧ ∀ p ∈ ls, ∀ v ∈ p.2, v.oneCell' = true
 | .bd f id k m j, x => ∃ v, x = .func (.func f) #[v] #[] ∧ ptrIs E (id, k, m, j) v
 | .mp id, x => ∃ b s, E id = some (b, s) ∧ x = .map (some b)
 | .any, x => x.oneCell' = true
def compIs (E : Env) : Bool × List C → Value → Prop
 | (false, cs), x => ∃ c, cs = [c] ∧ c.Is E x
 | (true, cs), x => ∃ l : List Value, x = .agg l.toArray ∧ All2 (C.Is E) cs l
def A.Is (E : Env) : A → Value → Prop
 | .one c, x => c.Is E x
 | .agg cs, x => ∃ l : List Value, x = .agg l.toArray ∧ All2 (C.Is E) cs l
 | .tup vs, x => ∃ l : List Value, x = .tuple l.toArray ∧ All2 (compIs E) vs l
def Env.le (E E' : Env) : Prop := ∀ id x, E id = some x → E' id = some x
theorem Env.le.refl (E : Env) : E.le E := fun _ _ h => h
theorem Env.le.trans {E E' E'' : Env} (h : E.le E') (h' : E'.le E'') : E.le E'' := fun _ _ hh => h' _ _ (h _ _ hh)
theorem ptrIs.mono {E E' : Env} (h : E.le E') {c : Nat × Nat × Nat × Nat} {x : Value} : ptrIs E c x → ptrIs E' c x
 | ⟨b, s, he, hx⟩ => ⟨b, s, h _ _ he, hx⟩
theorem C.Is.mono {E E' : Env} (h : E.le E') {c : C} {x : Value} (hc : c.Is E x) : c.Is E' x := by
 cases c with
 | lit v => exact hc
 | ptr id k m j => exact ptrIs.mono h hc
 | sl own id k m j n =>
  rcases hc with ⟨b, s, o, cap, he, r⟩ | r
  ·exact .inl ⟨b, s, o, cap, h _ _ he, r⟩
  ·exact .inr r
 | fn f caps => obtain ⟨vs, hx, ha⟩ := hc; exact ⟨vs, hx, ha.imp fun _ _ hp => hp.mono h⟩
 | yld id => obtain ⟨b, s, he, hx⟩ := hc; exact ⟨b, s, h _ _ he, hx⟩
 | fb f ls => exact hc
 | bd f id k m j => obtain ⟨v, hx, hp⟩ := hc; exact ⟨v, hx, hp.mono h⟩
 | mp id => obtain ⟨b, s, he, hx⟩ := hc; exact ⟨b, s, h _ _ he, hx⟩
 | any => exact hc
theorem sl_some {E : Env} {own : Bool} {id k m j n : Nat} {x : Value} (h : (C.sl own id k m j n).Is E x) (hn : own = true ∨ 0 < n) :
  ∃ b s o cap, E id = some (b, s) ∧ x = .slice (some ⟨b, o, none⟩) n cap ∧ n ≤ cap ∧ cap ≤ maxLen ∧ (0 < n → o = s.2 + (k * m + j)) ∧ (own = true → o = 0 ∧ k = 0 ∧ j = 0 ∧ s = (cap * m, 0)) := by
 rcases h with h | ⟨h1, h2, _⟩
 ·exact h
 ·rcases hn with hn | hn
  ·rw [h1] at hn; cases hn
  ·omega
theorem compIs.mono {E E' : Env} (h : E.le E') {c : Bool × List C} {x : Value} (hc : compIs E c x) : compIs E' c x := by
 obtain ⟨b, cs⟩ := c
 cases b with
 | false => obtain ⟨c, e, hh⟩ := hc; exact ⟨c, e, hh.mono h⟩
 | true => obtain ⟨l, e, hh⟩ := hc; exact ⟨l, e, hh.imp fun _ _ hp => hp.mono h⟩
theorem A.Is.mono {E E' : Env} (h : E.le E') {a : A} {x : Value} (ha : a.Is E x) : a.Is E' x := by
 cases a with
 | one c => exact C.Is.mono h ha
 | agg cs => obtain ⟨l, e, hh⟩ := ha; exact ⟨l, e, hh.imp fun _ _ hp => hp.mono h⟩
 | tup vs => obtain ⟨l, e, hh⟩ := ha; exact ⟨l, e, hh.imp fun _ _ hp => hp.mono h⟩
theorem C.Is.oneCell {E : Env} {c : C} {x : Value} (h : c.Is E x) : x.oneCell' = true := by
 cases c with
 | lit v => obtain ⟨rfl, hv⟩ := h; exact hv
 | ptr id k m j => obtain ⟨b, s, _, rfl⟩ := h; rfl
 | sl own id k m j n =>
  rcases h with ⟨b, s, o, cap, _, rfl, _⟩ | ⟨_, _, rfl⟩
  ·rfl
  ·rfl
 | fn f caps => obtain ⟨vs, rfl, _⟩ := h; rfl
 | yld id => obtain ⟨b, s, _, rfl⟩ := h; rfl
 | fb f ls => obtain ⟨rfl, _⟩ := h; rfl
 | bd f id k m j => obtain ⟨v, rfl, _⟩ := h; rfl
 | mp id => obtain ⟨b, s, _, rfl⟩ := h; rfl
 | any => exact h
theorem cells_of_oneCell {x : Value} (h : x.oneCell' = true) : x.cells = #[x] := by cases x <;> first | rfl | cases h
theorem A.Is.cells {E : Env} {a : A} {x : Value} {cs : List C} (h : a.Is E x) (hc : a.cells = some cs) : All2 (C.Is E) cs x.cells.toList := by
 cases a with
 | one c => simp only [A.cells, Option.some.injEq] at hc; subst hc; rw [cells_of_oneCell (C.Is.oneCell h)]; exact ⟨h, trivial⟩
 | agg l => simp only [A.cells, Option.some.injEq] at hc; subst hc; obtain ⟨l', rfl, hh⟩ := h; simpa [Value.cells] using hh
 | tup vs => cases hc
theorem litC_is {E : Env} {v : Value} {c : C} (h : litC v = some c) : c.Is E v := by
 cases v <;> simp [litC] at h <;> subst h <;> exact ⟨rfl, rfl⟩
theorem litCs_is {E : Env} : ∀ {vs : List Value} {cs : List C}, litCs vs = some cs → All2 (C.Is E) cs vs
 | [], cs, h => by simp [litCs] at h; subst h; trivial
 | v :: vs, cs, h => by
  simp only [litCs] at h
  split at h
  ·rename_i c cs' h1 h2; simp only [Option.some.injEq] at h; subst h; exact ⟨litC_is h1, litCs_is h2⟩
  ·cases h
theorem ofVal_is {E : Env} {v : Value} {a : A} (h : ofVal v = some a) : a.Is E v := by
 cases v with
 | agg cs =>
  simp only [ofVal] at h
  split at h
  ·rename_i l hl; simp only [Option.some.injEq] at h; subst h; exact ⟨cs.toList, by simp, litCs_is hl⟩
  ·cases h
 | tuple vs =>
  simp only [ofVal] at h
  split at h
  ·rename_i hl; simp only [Option.some.injEq] at h; subst h; exact ⟨[], by rw [← hl], trivial⟩
  ·cases h
 | _ => simp only [ofVal, Option.some.injEq] at h; subst h; exact ⟨rfl, rfl⟩
theorem undefA_is (E : Env) : undefA.Is E undef := ⟨[], rfl, trivial⟩
theorem comp_is {E : Env} {a : A} {x : Value} {c : Bool × List C} (h : a.Is E x) (hc : a.comp = some c) : compIs E c x := by
 cases a with
 | one c' => simp only [A.comp, Option.some.injEq] at hc; subst hc; exact ⟨c', rfl, h⟩
 | agg l => simp only [A.comp, Option.some.injEq] at hc; subst hc; exact h
 | tup vs => cases hc
theorem ofComp_is {E : Env} {a : A} {x : Value} {c : Bool × List C} (h : compIs E c x) (hc : ofComp c = some a) : a.Is E x := by
 obtain ⟨b, cs⟩ := c
 cases b with
 | true => simp only [ofComp, Option.some.injEq] at hc; subst hc; exact h
 | false => obtain ⟨c, rfl, hh⟩ := h; simp only [ofComp, Option.some.injEq] at hc; subst hc; exact hh
theorem C.Is.noId {E E' : Env} {c : C} {x : Value} (h : c.Is E x) (hn : c.noId = true) : c.Is E' x := by
 cases c with
 | lit v => exact h
 | ptr id k m j => cases hn
 | sl own id k m j n => cases hn
 | fn f caps =>
  cases caps with
  | nil => obtain ⟨vs, hx, ha⟩ := h; cases vs with
   | nil => exact ⟨[], hx, trivial⟩
   | cons => exact ha.elim
  | cons => cases hn
 | yld id => cases hn
 | fb f ls => exact h
 | bd f id k m j => cases hn
 | mp id => cases hn
 | any => exact h
theorem noIds_is {E E' : Env} : ∀ {cs : List C} {l : List Value}, All2 (C.Is E) cs l → noIds cs = true → All2 (C.Is E') cs l
 | [], [], _, _ => trivial
 | c :: cs, v :: l, h, hn => by
  simp only [noIds] at hn
  split at hn
  ·rename_i hc; exact ⟨h.1.noId hc, noIds_is h.2 hn⟩
  ·cases hn
 | [], _ :: _, h, _ => h.elim
 | _ :: _, [], h, _ => h.elim
theorem compIs.noId {E E' : Env} {c : Bool × List C} {x : Value} (h : compIs E c x) (hn : noIds c.2 = true) : compIs E' c x := by
 obtain ⟨b, cs⟩ := c
 cases b with
 | true => obtain ⟨l, e, hh⟩ := h; exact ⟨l, e, noIds_is hh hn⟩
 | false =>
  obtain ⟨c, rfl, hh⟩ := h
  simp only [noIds] at hn
  split at hn
  ·rename_i hc; exact ⟨c, rfl, hh.noId hc⟩
  ·cases hn
theorem compIs_all_noId {E E' : Env} : ∀ {vs : List (Bool × List C)} {l : List Value}, All2 (compIs E) vs l → (vs.all fun v => noIds v.2) = true → All2 (compIs E') vs l
 | [], [], _, _ => trivial
 | c :: cs, v :: l, h, hn => by
  simp only [List.all_cons, Bool.and_eq_true] at hn
  exact ⟨h.1.noId hn.1, compIs_all_noId h.2 hn.2⟩
 | [], _ :: _, h, _ => h.elim
 | _ :: _, [], h, _ => h.elim
theorem A.Is.noId {E E' : Env} {a : A} {x : Value} (h : a.Is E x) (hn : a.noId = true) : a.Is E' x := by
 cases a with
 | one c => exact C.Is.noId h hn
 | agg cs => obtain ⟨l, e, hh⟩ := h; exact ⟨l, e, noIds_is hh hn⟩
 | tup vs => obtain ⟨l, e, hh⟩ := h; exact ⟨l, e, compIs_all_noId hh hn⟩
def Body.Is (E : Env) : Body → Array Value → Prop
 | .flat cs, arr => ∀ i c, nth cs i = some c → ∃ x, arr[i]? = some x ∧ c.Is E x
 | .rows n cols, arr => ∀ k j c, k < n → nth cols j = some c → ∃ x, arr[k * cols.length + j]? = some x ∧ (c.at k).Is E x
 | .map _, _ => False
 | .imap .., _ => False
 | .iter .., _ => False
theorem Body.Is.mono {E E' : Env} (h : E.le E') {b : Body} {arr : Array Value} (hb : b.Is E arr) : b.Is E' arr := by
 cases b with
 | flat cs => exact fun i c hc => let ⟨x, hx, hi⟩ := hb i c hc; ⟨x, hx, hi.mono h⟩
 | rows n cols => exact fun k j c hk hj => let ⟨x, hx, hi⟩ := hb k j c hk hj; ⟨x, hx, hi.mono h⟩
 | map es => exact hb.elim
 | imap n f b x => exact hb.elim
 | iter id n => exact hb.elim
def roIs (b : Blk) (size : Nat) (fz : Nat × Nat) : Prop := match b.ro with
 | false => fz = (0, 0)
 | true => ∀ cs, b.body = .flat cs → size = cs.length
theorem roIs_own {b : Blk} {n : Nat} (h : b.ro = false) : roIs b n (0, 0) := by
 unfold roIs
 rw [h]
theorem roIs_fz {b : Blk} {n : Nat} {fz : Nat × Nat} (hr : roIs b n fz) (h : b.ro = false) : fz = (0, 0) := by
 unfold roIs at hr
 rw [h] at hr
 exact hr
def rowAt (w : World) (k : Nat) (b : Blk) (arr : Array Value) (fz : Nat × Nat) : Prop := ∃ t, w.heap[k]? = some (.cells arr t fz) ∧ (b.ro = false → t = b.elem)
def vw (o : Nat) (arr : Array Value) : Array Value := arr.extract o arr.size
theorem vw_zero (arr : Array Value) : vw 0 arr = arr := by simp [vw]
theorem vw_get (o : Nat) (arr : Array Value) (i : Nat) : (vw o arr)[i]? = arr[o + i]? := by
 unfold vw
 rw [Array.getElem?_extract]
 split
 ·rfl
 ·rw [Array.getElem?_eq_none (by omega)]
def bodyAt (E : Env) (b : Blk) (o : Nat) (arr : Array Value) : Prop := (b.ro = false → o = 0) ∧ b.body.Is E (vw o arr)
theorem bodyAt_zero {E : Env} {b : Blk} {arr : Array Value} (h : b.body.Is E arr) : bodyAt E b 0 arr := ⟨fun _ => rfl, by rw [vw_zero]; exact h⟩
theorem bodyAt.own {E : Env} {b : Blk} {o : Nat} {arr : Array Value} (h : bodyAt E b o arr) (hr : b.ro = false) : o = 0 ∧ b.body.Is E arr := by
 obtain ⟨h1, h2⟩ := h
 have := h1 hr
 subst this
 rw [vw_zero] at h2
 exact ⟨rfl, h2⟩
theorem bodyAt.mono {E E' : Env} (he : E.le E') {b : Blk} {o : Nat} {arr : Array Value} (h : bodyAt E b o arr) : bodyAt E' b o arr := ⟨h.1, h.2.mono he⟩
def cellsIs (E : Env) (w : World) (p : Nat × Nat × Nat) (b : Blk) : Prop :=
 ∃ arr fz, rowAt w p.1 b arr fz ∧ arr.size = p.2.1 ∧ bodyAt E b p.2.2 arr ∧ roIs b arr.size fz
def ents : List (ByteArray × A) → List Value → Nat → List MapEntry
 | (k, _) :: es, v :: vs, i => ⟨.string k, v, i⟩ :: ents es vs (i + 1)
 | _, _, _ => []
def mapIs (E : Env) (w : World) (p : Nat × Nat × Nat) (b : Blk) : Prop :=
 ∃ es l, b.body = .map es ∧ b.ro = false ∧ w.heap[p.1]? = some (.map (ents es l 0).toArray es.length) ∧ All2 (A.Is E) (es.map (·.2)) l
def entI (k f : Int → Int) (i : Nat) : MapEntry := ⟨.int .i64 (k i), .int .i64 (f (k i)), i⟩
def imapIn (w : World) (r : Nat) (n : Nat) (f b : Int → Int) : Prop :=
 ∃ k : Int → Int, w.heap[r]? = some (.map ((List.range n).map (entI k f)).toArray n) ∧ (∀ i : Nat, i < n → b (k i) = i) ∧ ∀ x, (b x = -1 ∧ f x = 0) ∨ ∃ i : Nat, i < n ∧ k i = x
def imapIs (w : World) (p : Nat × Nat × Nat) (b : Blk) : Prop :=
 ∃ n f g x, b.body = .imap n f g x ∧ b.ro = false ∧ imapIn w p.1 n f g
def iterIs (E : Env) (w : World) (p : Nat × Nat × Nat) (b : Blk) : Prop :=
 ∃ id n, b.body = .iter id n ∧ b.ro = false ∧ p.2.2 = 0 ∧ ∃ m, w.heap[p.1]? = some (.mapIter m n #[] n) ∧ ∀ i, id = some i → ∃ q, E i = some q ∧ m = some q.1
def blkIs (E : Env) (w : World) (p : Nat × Nat × Nat) (b : Blk) : Prop := cellsIs E w p b ∨ mapIs E w p b ∨ imapIs w p b ∨ iterIs E w p b
theorem blkIs.cells {E : Env} {w : World} {p : Nat × Nat × Nat} {b : Blk} (h : blkIs E w p b) (hm : b.body.isMap = false) : cellsIs E w p b := by
 rcases h with h | ⟨es, l, hb, _⟩ | ⟨n, f, g, x, hb, _⟩ | ⟨id, n, hb, _⟩
 ·exact h
 ·rw [hb] at hm; cases hm
 ·rw [hb] at hm; cases hm
 ·rw [hb] at hm; cases hm
theorem blkIs.mono {E E' : Env} (h : E.le E') {w : World} {p : Nat × Nat × Nat} {b : Blk} : blkIs E w p b → blkIs E' w p b
 | .inl ⟨arr, fz, h1, h2, h3, h4⟩ => .inl ⟨arr, fz, h1, h2, h3.mono h, h4⟩
 | .inr (.inl ⟨es, l, h1, h2, h3, h4⟩) => .inr (.inl ⟨es, l, h1, h2, h3, h4.imp fun _ _ hp => hp.mono h⟩)
 | .inr (.inr (.inl hh)) => .inr (.inr (.inl hh))
 | .inr (.inr (.inr ⟨id, n, h1, h2, h0, m, h3, h4⟩)) => .inr (.inr (.inr ⟨id, n, h1, h2, h0, m, h3, fun i e => let ⟨q, hq, hm⟩ := h4 i e; ⟨q, h _ _ hq, hm⟩⟩))
def isFix : Obj → Bool
 | .cells .. => false
 | .map .. => false
 | .mapIter .. => false
 | _ => true
def Oth (w w' : World) : Prop := ∀ (b : Nat) (o : Obj), w.heap[b]? = some o → isFix o = true → w'.heap[b]? = some o
theorem Oth.refl (w : World) : Oth w w := fun _ _ h _ => h
theorem Oth.trans {a b c : World} (h : Oth a b) (k : Oth b c) : Oth a c := fun i o hi ho => k i o (h i o hi ho) ho
def lpIs (E : Env) (w : World) (l : Nat) (d : Lp) : Prop :=
 ∃ r : Loop, w.heap[l]? = some (.loop r) ∧ r.state = .ready ∧ r.pending = none ∧ r.params = d.ps.toArray ∧ r.assign = d.assign ∧ r.body = d.body ∧ r.tmps.size = d.size ∧
  ∀ t x, d.env.get D t = some x → x.Is E (r.tmps.getD t undef)
theorem lpIs.mono {E E' : Env} {w w' : World} {l : Nat} {d : Lp} (h : E.le E') (ho : Oth w w') : lpIs E w l d → lpIs E' w' l d
 | ⟨r, h1, h2, h3, h4, h5, h6, h7, h8⟩ => ⟨r, ho _ _ h1 rfl, h2, h3, h4, h5, h6, h7, fun t x hx => (h8 t x hx).mono h⟩
structure RH (E : Env) (h : Hp) (w : World) : Prop where
 nlim : h.next ≤ lim
 dom : ∀ id, h.next ≤ id → E id = none
 lt : ∀ id p, E id = some p → p.1 < w.heap.size
 blk : ∀ id b, h.heap.get D id = some b → ∃ p, E id = some p ∧ blkIs E w p b
 inj : ∀ id id' b b' p p', h.heap.get D id = some b → h.heap.get D id' = some b' → b.ro = false → E id = some p → E id' = some p' → p.1 = p'.1 → id = id'
 glob : ∀ g id, lookupN h.globs g = some id → ∃ s, E id = some (g, s, 0)
 lp : ∀ id d, h.lp = some (id, d) → ∃ p, E id = some p ∧ lpIs E w p.1 d
theorem RH.cells {E : Env} {h : Hp} {w : World} (r : RH E h w) {id : Nat} {b : Blk} (hb : h.blk id = some b) (hm : b.body.isMap = false) : ∃ p, E id = some p ∧ cellsIs E w p b :=
 let ⟨p, hp, hi⟩ := r.blk id b hb; ⟨p, hp, hi.cells hm⟩
theorem RH.lpStep {E E' : Env} {h : Hp} {w w' : World} (r : RH E h w) (he : E.le E') (ho : Oth w w') : ∀ id d, h.lp = some (id, d) → ∃ p, E' id = some p ∧ lpIs E' w' p.1 d :=
 fun id d hd => let ⟨p, hp, hi⟩ := r.lp id d hd; ⟨p, he _ _ hp, hi.mono he ho⟩
structure Fr (E : Env) (next low : Nat) (w : World) (E' : Env) (w' : World) : Prop where
 ext : E.le E'
 os : w'.os = w.os
 tape : w'.tape = w.tape
 output : w'.output = w.output
 size : w.heap.size ≤ w'.heap.size
 keep : ∀ b, b < w.heap.size → (∀ id p, E id = some p → p.1 = b → id < low) → w'.heap[b]? = w.heap[b]?
 new : ∀ id p, E' id = some p → E id = some p ∨ (next ≤ id ∧ (w.heap.size ≤ p.1 ∨ ∃ id0 p0, E id0 = some p0 ∧ p0.1 = p.1 ∧ low ≤ id0))
 oth : Oth w w'
theorem Fr.refl (E : Env) (next low : Nat) (w : World) : Fr E next low w E w :=
 ⟨Env.le.refl E, rfl, rfl, rfl, Nat.le_refl _, fun _ _ _ => rfl, fun _ _ h => .inl h, Oth.refl _⟩
theorem Fr.trans {E E' E'' : Env} {n n' l l' : Nat} {w w' w'' : World} (h : Fr E n l w E' w') (h' : Fr E' n' l' w' E'' w'') (hn : n ≤ n') (hl : l' ≤ l) : Fr E n l' w E'' w'' where
 ext := h.ext.trans h'.ext
 os := h'.os.trans h.os
 tape := h'.tape.trans h.tape
 output := h'.output.trans h.output
 size := Nat.le_trans h.size h'.size
 keep := fun b hb hno => by
  refine (h'.keep b (Nat.lt_of_lt_of_le hb h.size) fun id p hp hpb => ?_).trans (h.keep b hb fun id p hp hpb => Nat.lt_of_lt_of_le (hno id p hp hpb) hl)
  rcases h.new id p hp with he | ⟨_, hge | ⟨id0, p0, he0, hb0, hl0⟩⟩
  ·exact hno id p he hpb
  ·omega
  ·have := hno id0 p0 he0 (hb0.trans hpb); omega
 new := fun id p hp => by
  rcases h'.new id p hp with he | ⟨hge, hs⟩
  ·rcases h.new id p he with h1 | ⟨h1, h2 | ⟨id0, p0, he0, hb0, hl0⟩⟩
   ·exact .inl h1
   ·exact .inr ⟨h1, .inl h2⟩
   ·exact .inr ⟨h1, .inr ⟨id0, p0, he0, hb0, Nat.le_trans hl hl0⟩⟩
  ·refine .inr ⟨Nat.le_trans hn hge, ?_⟩
   rcases hs with hs | ⟨id0, p0, he0, hb0, hl0⟩
   ·exact .inl (Nat.le_trans h.size hs)
   ·rcases h.new id0 p0 he0 with h1 | ⟨_, h2 | ⟨id1, p1, he1, hb1, hl1⟩⟩
    ·exact .inr ⟨id0, p0, h1, hb0, hl0⟩
    ·exact .inl (by rw [← hb0]; exact h2)
    ·exact .inr ⟨id1, p1, he1, hb1.trans hb0, Nat.le_trans hl hl1⟩
 oth := h.oth.trans h'.oth
theorem Fr.low_le {E E' : Env} {n l l' : Nat} {w w' : World} (h : Fr E n l w E' w') (hl : l' ≤ l) : Fr E n l' w E' w' :=
 { h with
  keep := fun b hb hno => h.keep b hb fun id p hp hpb => Nat.lt_of_lt_of_le (hno id p hp hpb) hl
  new := fun id p hp => by
   rcases h.new id p hp with h1 | ⟨h1, h2 | ⟨id0, p0, he0, hb0, hl0⟩⟩
   ·exact .inl h1
   ·exact .inr ⟨h1, .inl h2⟩
   ·exact .inr ⟨h1, .inr ⟨id0, p0, he0, hb0, Nat.le_trans hl hl0⟩⟩ }
structure Stp (E : Env) (h : Hp) (w : World) (E' : Env) (h' : Hp) (w' : World) : Prop where
 rh : RH E' h' w'
 fr : Fr E h.next h'.low w E' w'
 next : h.next ≤ h'.next
 low : h'.low ≤ h.low
 globs : h'.globs = h.globs
 lp : h'.lp = h.lp
theorem Stp.refl {E : Env} {h : Hp} {w : World} (r : RH E h w) : Stp E h w E h w := ⟨r, Fr.refl _ _ _ _, Nat.le_refl _, Nat.le_refl _, rfl, rfl⟩
theorem Stp.trans {E E' E'' : Env} {h h' h'' : Hp} {w w' w'' : World} (s : Stp E h w E' h' w') (s' : Stp E' h' w' E'' h'' w'') : Stp E h w E'' h'' w'' :=
 ⟨s'.rh, s.fr.trans s'.fr s.next s'.low, Nat.le_trans s.next s'.next, Nat.le_trans s'.low s.low, s'.globs.trans s.globs, s'.lp.trans s.lp⟩
theorem blkIs.of_heap {E : Env} {w w' : World} {p : Nat × Nat × Nat} {b : Blk} (h : w'.heap[p.1]? = w.heap[p.1]?) : blkIs E w p b → blkIs E w' p b
 | .inl ⟨arr, fz, ⟨t, h1, ht⟩, h2, h3, h4⟩ => .inl ⟨arr, fz, ⟨t, h.trans h1, ht⟩, h2, h3, h4⟩
 | .inr (.inl ⟨es, l, h1, h2, h3, h4⟩) => .inr (.inl ⟨es, l, h1, h2, h.trans h3, h4⟩)
 | .inr (.inr (.inl ⟨n, f, g, x, h1, h2, k, h3, h4⟩)) => .inr (.inr (.inl ⟨n, f, g, x, h1, h2, k, h.trans h3, h4⟩))
 | .inr (.inr (.inr ⟨id, n, h1, h2, h0, m, h3, h4⟩)) => .inr (.inr (.inr ⟨id, n, h1, h2, h0, m, h.trans h3, h4⟩))
theorem RH.of_heap {E : Env} {h : Hp} {w w' : World} (r : RH E h w) (hh : w'.heap = w.heap) : RH E h w' :=
 ⟨r.nlim, r.dom, fun id p hp => by rw [hh]; exact r.lt id p hp, fun id b hb => let ⟨p, hp, hi⟩ := r.blk id b hb; ⟨p, hp, hi.of_heap (by rw [hh])⟩, r.inj, r.glob, r.lpStep (Env.le.refl E) fun b o hb _ => by rw [hh]; exact hb⟩
theorem RH.drew {E : Env} {h : Hp} {w : World} (r : RH E h w) : RH E h { w with drawn := w.drawn + 1 } := r.of_heap rfl
theorem Fr.drew (E : Env) (n l : Nat) (w : World) : Fr E n l w E { w with drawn := w.drawn + 1 } :=
 ⟨Env.le.refl E, rfl, rfl, rfl, Nat.le_refl _, fun _ _ _ => rfl, fun _ _ h => .inl h, fun _ _ hb _ => hb⟩
theorem Stp.drew {E : Env} {h : Hp} {w : World} (r : RH E h w) : Stp E h w E h { w with drawn := w.drawn + 1 } := ⟨r.drew, Fr.drew _ _ _ _, Nat.le_refl _, Nat.le_refl _, rfl, rfl⟩
theorem Stp.forget {E E' : Env} {h h' : Hp} {w w' : World} (r : RH E h w) (f : Fr E h.next h'.low w E' w') (hlow : h.next ≤ h'.low) : Stp E h w E h w' where
 rh := {
  nlim := r.nlim
  dom := r.dom
  lt := fun id p hp => Nat.lt_of_lt_of_le (r.lt id p hp) f.size
  blk := fun id b hb => by
   obtain ⟨p, hp, hi⟩ := r.blk id b hb
   refine ⟨p, hp, hi.of_heap (f.keep p.1 (r.lt id p hp) fun id' p' hp' _ => ?_)⟩
   rcases Nat.lt_or_ge id' h.next with hlt | hge
   ·omega
   ·rw [r.dom id' hge] at hp'; cases hp'
  inj := r.inj
  glob := r.glob
  lp := r.lpStep (Env.le.refl E) f.oth }
 fr := {
  ext := Env.le.refl E
  os := f.os
  tape := f.tape
  output := f.output
  size := f.size
  keep := fun b hb _ => f.keep b hb fun id' p' hp' _ => by
   rcases Nat.lt_or_ge id' h.next with hlt | hge
   ·omega
   ·rw [r.dom id' hge] at hp'; cases hp'
  new := fun _ _ hp => .inl hp
  oth := f.oth }
 next := Nat.le_refl _
 low := Nat.le_refl _
 globs := rfl
 lp := rfl
end Go.Ev
namespace Go.Ev
open Go
theorem addr_add (b o i : Nat) : (⟨b, o, none⟩ : Addr).add i = ⟨b, o + i, none⟩ := by unfold Addr.add; split <;> simp_all
def Env.with (E : Env) (id : Nat) (p : Nat × Nat × Nat) : Env := fun i => if i = id then some p else E i
theorem alloc_run {h : Hp} {b : Blk} {id : Nat} {h' : Hp} (hr : (h.alloc b).run = some (id, h')) :
  id = h.next ∧ h.next < lim ∧ h' = { h with heap := h.heap.set D h.next (some b), next := h.next + 1 } := by
 unfold Hp.alloc at hr
 split at hr
 ·rename_i hl
  simp only [Tree.run, Option.some.injEq, Prod.mk.injEq] at hr
  have hb : h.next < lim := by simpa [Nat.blt_eq] using hl
  exact ⟨hr.1.symm, hb, hr.2.symm⟩
 ·cases hr
theorem name_stpG {E : Env} {h : Hp} {w w1 : World} {b : Blk} {g : Nat} {sz : Nat × Nat} {h1 : Hp} (ch : Nat → Prop) (r : RH E h w)
  (hnext : h1.next = h.next) (hglobs : h1.globs = h.globs) (hlp : h1.lp = h.lp) (hcell : ∀ k, ch k → ∀ o, w.heap[k]? = some o → isFix o = false) (hlow : h1.low ≤ h.low)
  (hsub : ∀ id b', h1.heap.get D id = some b' → h.heap.get D id = some b' ∧ ∀ p, E id = some p → ¬ ch p.1 ∧ p.1 ≠ g)
  (hglt : g < w1.heap.size) (hbl : ∀ E', E.le E' → blkIs E' w1 (g, sz) b)
  (hkeep : ∀ k, k < w.heap.size → ¬ ch k → w1.heap[k]? = w.heap[k]?) (hsize : w.heap.size ≤ w1.heap.size)
  (hos : w1.os = w.os) (htape : w1.tape = w.tape) (hout : w1.output = w.output)
  (hch : ∀ k, ch k → ∃ id0 p0, E id0 = some p0 ∧ p0.1 = k ∧ h1.low ≤ id0) (hg : w.heap.size ≤ g ∨ ch g)
  {id : Nat} {h' : Hp} (hr : (h1.alloc b).run = some (id, h')) :
  Stp E h w (E.with id (g, sz)) h' w1 ∧ E.with id (g, sz) id = some (g, sz) := by
 obtain ⟨rfl, hlim, rfl⟩ := alloc_run hr
 rw [hnext] at hlim ⊢
 have hnone : E h.next = none := r.dom _ (Nat.le_refl _)
 have hle : E.le (E.with h.next (g, sz)) := fun i x hx => by
  unfold Env.with; split
  ·rename_i e; subst e; rw [hnone] at hx; cases hx
  ·exact hx
 have hoth : Oth w w1 := fun k o hk ho => (hkeep k (Array.getElem?_eq_some_iff.1 hk).1 fun hc => by rw [hcell k hc o hk] at ho; cases ho).trans hk
 refine ⟨⟨?_, ?_, ?_, ?_, ?_, ?_⟩, by simp [Env.with]⟩
 ·refine ⟨Nat.succ_le_of_lt hlim, fun i hi => ?_, fun i p hp => ?_, fun i b' hb' => ?_, ?_, fun gg i hi => ?_, fun i d hd => r.lpStep hle hoth i d (by simpa [hlp] using hd)⟩
  ·have hi' : h.next + 1 ≤ i := by simpa using hi
   unfold Env.with; rw [if_neg (by omega)]; exact r.dom i (by omega)
  ·unfold Env.with at hp; split at hp
   ·injection hp with hp; subst hp; exact hglt
   ·exact Nat.lt_of_lt_of_le (r.lt i p hp) hsize
  ·have hb2 : (Tr.set D h1.heap h.next (some b)).get D i = some b' := by simpa using hb'
   rw [Tr.get_set_D _ _ _ _ hlim] at hb2
   split at hb2
   ·rename_i e
    injection hb2 with hb2; subst hb2; subst e
    exact ⟨(g, sz), by simp [Env.with], hbl _ hle⟩
   ·rename_i e
    obtain ⟨h0, hne⟩ := hsub i b' hb2
    obtain ⟨p, hp, hi⟩ := r.blk i b' h0
    refine ⟨p, ?_, (hi.mono hle).of_heap (hkeep p.1 (r.lt i p hp) (hne p hp).1)⟩
    unfold Env.with; rw [if_neg (Ne.symm e)]; exact hp
  ·intro i i' b1 b2 p p' hb1 hb2 hro hp hp' he
   have hb1' : (Tr.set D h1.heap h.next (some b)).get D i = some b1 := by simpa using hb1
   have hb2' : (Tr.set D h1.heap h.next (some b)).get D i' = some b2 := by simpa using hb2
   rw [Tr.get_set_D _ _ _ _ hlim] at hb1' hb2'
   unfold Env.with at hp hp'
   by_cases e1 : h.next = i
   ·subst e1
    rw [if_pos rfl] at hp
    injection hp with hp; subst hp
    by_cases e2 : h.next = i'
    ·exact e2
    ·rw [if_neg e2] at hb2'
     rw [if_neg (Ne.symm e2)] at hp'
     exact absurd he.symm ((hsub i' b2 hb2').2 p' hp').2
   ·rw [if_neg e1] at hb1'
    rw [if_neg (Ne.symm e1)] at hp
    by_cases e2 : h.next = i'
    ·subst e2
     rw [if_pos rfl] at hp'
     injection hp' with hp'; subst hp'
     exact absurd he ((hsub i b1 hb1').2 p hp).2
    ·rw [if_neg e2] at hb2'
     rw [if_neg (Ne.symm e2)] at hp'
     exact r.inj i i' b1 b2 p p' (hsub i b1 hb1').1 (hsub i' b2 hb2').1 hro hp hp' he
  ·obtain ⟨s, hs⟩ := r.glob gg i (by simpa [hglobs] using hi)
   exact ⟨s, hle _ _ hs⟩
 ·refine ⟨hle, hos, htape, hout, hsize, fun k hk hno => hkeep k hk fun hc => ?_, fun i p hp => ?_, ?_⟩
  ·obtain ⟨id0, p0, he0, hp0, hl0⟩ := hch k hc
   have hno0 := hno id0 p0 he0 hp0
   have : id0 < h1.low := by simpa using hno0
   omega
  ·unfold Env.with at hp; split at hp
   ·rename_i e
    injection hp with hp; subst hp
    refine .inr ⟨by omega, ?_⟩
    rcases hg with hg | hg
    ·exact .inl hg
    ·obtain ⟨id0, p0, he0, hp0, hl0⟩ := hch g hg
     exact .inr ⟨id0, p0, he0, hp0, by simpa using hl0⟩
   ·exact .inl hp
  ·exact hoth
 ·exact Nat.le_succ _
 ·simpa using hlow
 ·simpa using hglobs
 ·simpa using hlp
theorem name_stp {E : Env} {h : Hp} {w w1 : World} {b : Blk} {g : Nat} {arr : Array Value} {h1 : Hp} (ch : Nat → Prop) (r : RH E h w)
  (hnext : h1.next = h.next) (hglobs : h1.globs = h.globs) (hlp : h1.lp = h.lp) (hcell : ∀ k, ch k → ∀ o, w.heap[k]? = some o → isFix o = false) (hlow : h1.low ≤ h.low)
  (hsub : ∀ id b', h1.heap.get D id = some b' → h.heap.get D id = some b' ∧ ∀ p, E id = some p → ¬ ch p.1 ∧ p.1 ≠ g)
  (hblk : w1.heap[g]? = some (.cells arr b.elem (0, 0))) (hbody : b.body.Is E arr)
  (hkeep : ∀ k, k < w.heap.size → ¬ ch k → w1.heap[k]? = w.heap[k]?) (hsize : w.heap.size ≤ w1.heap.size)
  (hos : w1.os = w.os) (htape : w1.tape = w.tape) (hout : w1.output = w.output)
  (hch : ∀ k, ch k → ∃ id0 p0, E id0 = some p0 ∧ p0.1 = k ∧ h1.low ≤ id0) (hg : w.heap.size ≤ g ∨ ch g)
  {id : Nat} {h' : Hp} (hr : (h1.alloc b).run = some (id, h')) (hro : b.ro = false := by rfl) :
  Stp E h w (E.with id (g, arr.size, 0)) h' w1 ∧ E.with id (g, arr.size, 0) id = some (g, arr.size, 0) :=
 name_stpG ch r hnext hglobs hlp hcell hlow hsub (Array.getElem?_eq_some_iff.1 hblk).1 (fun _ hle => .inl ⟨arr, (0, 0), ⟨_, hblk, fun _ => rfl⟩, rfl, bodyAt_zero (hbody.mono hle), roIs_own hro⟩) hkeep hsize hos htape hout hch hg hr
theorem heap_old (w : World) (o : Obj) (k : Nat) (hk : k < w.heap.size) : (w.alloc o).heap[k]? = w.heap[k]? := by
 show (w.heap.push o)[k]? = _
 rw [Array.getElem?_push, if_neg (Nat.ne_of_lt hk)]
theorem heap_new (w : World) (o : Obj) : (w.alloc o).heap[w.heap.size]? = some o := by
 show (w.heap.push o)[w.heap.size]? = _
 simp
theorem alloc_stp {E : Env} {h : Hp} {w : World} {b : Blk} {arr : Array Value} (r : RH E h w) (hbody : b.body.Is E arr) {id : Nat} {h' : Hp} (hr : (h.alloc b).run = some (id, h')) (hro : b.ro = false := by rfl) :
  Stp E h w (E.with id (w.heap.size, arr.size, 0)) h' (w.alloc (.cells arr b.elem)) ∧ E.with id (w.heap.size, arr.size, 0) id = some (w.heap.size, arr.size, 0) :=
 name_stp (fun _ => False) r rfl rfl rfl (fun _ h => h.elim) (Nat.le_refl _) (fun i b' hb' => ⟨hb', fun p hp => ⟨fun hf => hf, fun e => by have := r.lt i p hp; omega⟩⟩) (heap_new w _) hbody
  (fun k hk _ => heap_old w _ k hk) (by simp) rfl rfl rfl (fun _ h => h.elim) (.inl (Nat.le_refl _)) hr hro
theorem flat_is {E : Env} {cs : List C} {l : List Value} (h : All2 (C.Is E) cs l) : (Body.flat cs).Is E l.toArray := fun i c hc => by
 obtain ⟨x, hx, hi⟩ := h.get i c hc
 exact ⟨x, by simpa using hx, hi⟩
theorem read_is {E : Env} {w : World} {p : Nat × Nat × Nat} {b : Blk} {k m j : Nat} {c : C} (hi : blkIs E w p b) (h : (b.read k m j).run = some c) :
  ∃ x, w.cell? ⟨p.1, p.2.2 + (k * m + j), none⟩ = some x ∧ c.Is E x := by
 have hm : b.body.isMap = false := by
  cases hb : b.body with
  | map es => unfold Blk.read at h; rw [hb] at h; cases h
  | imap n f g x => unfold Blk.read at h; rw [hb] at h; cases h
  | iter id n => unfold Blk.read at h; rw [hb] at h; cases h
  | _ => rfl
 obtain ⟨arr, fz, ⟨ty, h1, _⟩, _, ⟨_, h3⟩, _⟩ := hi.cells hm
 have hcell : ∀ i, w.cell? ⟨p.1, p.2.2 + i, none⟩ = (vw p.2.2 arr)[i]? := fun i => (cell_of_row w p.1 (p.2.2 + i) arr ty fz h1).trans (vw_get _ _ _).symm
 unfold Blk.read at h
 cases hb : b.body with
 | flat cs =>
  rw [hb] at h h3
  simp only [Tree.ofOption_run] at h
  obtain ⟨x, hx, hc⟩ := h3 _ c h
  exact ⟨x, (hcell _).trans hx, hc⟩
 | rows n cols =>
  rw [hb] at h h3
  simp only at h
  split at h
  ·rename_i c0 hm hc0
   obtain ⟨hk, hc⟩ := Tree.need_some h
   obtain rfl := Nat.eq_of_beq_eq_true hm
   simp only [Tree.run, Option.some.injEq] at hc
   subst hc
   obtain ⟨x, hx, hg⟩ := h3 k j c0 (by simpa [Nat.blt_eq] using hk) hc0
   exact ⟨x, (hcell _).trans hx, hg⟩
  ·rename_i hm hn
   split at h
   ·rename_i c1
    obtain ⟨hk, hc⟩ := Tree.need_some h
    obtain rfl := Nat.eq_of_beq_eq_true hm
    simp only [Tree.run, Option.some.injEq] at hc
    subst hc
    obtain ⟨x, hx, hg⟩ := h3 (k + j) 0 c1 (by simpa [Nat.blt_eq] using hk) rfl
    refine ⟨x, (hcell _).trans ?_, hg⟩
    rw [show k * [c1].length + j = (k + j) * [c1].length + 0 by simp]
    exact hx
   ·cases h
  ·cases h
 | map es => rw [hb] at hm; cases hm
 | imap n f g x => rw [hb] at hm; cases hm
 | iter id n => rw [hb] at hm; cases hm
theorem readN_is {E : Env} {w : World} {p : Nat × Nat × Nat} {b : Blk} {k m : Nat} (hi : blkIs E w p b) : ∀ {n j : Nat} {cs : List C}, (b.readN k m j n).run = some cs →
  ∃ l : List Value, l.length = n ∧ All2 (C.Is E) cs l ∧ ∀ i x, l[i]? = some x → w.cell? ((⟨p.1, p.2.2 + (k * m + j), none⟩ : Addr).add i) = some x
 | 0, j, cs, h => by
  simp only [Blk.readN, Tree.run, Option.some.injEq] at h
  subst h
  exact ⟨[], rfl, trivial, by simp⟩
 | n + 1, j, cs, h => by
  obtain ⟨c, hc, h⟩ := Tree.bind_some h
  obtain ⟨cs', hcs, h⟩ := Tree.bind_some h
  simp only [Tree.run, Option.some.injEq] at h
  subst h
  obtain ⟨x, hx, hcx⟩ := read_is hi hc
  obtain ⟨l, hl, ha, hcell⟩ := readN_is hi hcs
  refine ⟨x :: l, by simp [hl], ⟨hcx, ha⟩, fun i y hy => ?_⟩
  cases i with
  | zero => simp at hy; subst hy; rw [addr_add]; exact hx
  | succ i =>
   have := hcell i y (by simpa using hy)
   rw [addr_add] at this ⊢
   rw [← this]; congr 2; omega
section
variable {P : Program}
theorem size?_run {t : TypeId} {s : Nat} (h : size? P t = some s) (w : World) : (sizeOf t).run P w = .ok s w := by
 unfold size? at h
 cases hq : P.info? t with
 | none => rw [hq] at h; cases h
 | some i => rw [hq] at h; simp at h; subst h; simp [sizeOf, typeInfo, hq]
theorem agg?_run {t : TypeId} {b : Bool} (h : agg? P t = some b) (w : World) : (isAgg t).run P w = .ok b w := by
 unfold agg? at h
 cases hq : P.underlying t with
 | none => rw [hq] at h; cases h
 | some d =>
  rw [hq] at h
  unfold isAgg
  rw [Sem.run_bind, run_underlying hq w]
  cases d <;> simp_all
theorem cell_of_same {w w' : World} {a : Addr} (h : w'.heap[a.block]? = w.heap[a.block]?) : w'.cell? a = w.cell? a := by
 unfold World.cell?
 rw [h]
theorem load_agg_all {E : Env} {w : World} {p : Nat × Nat × Nat} {b : Blk} {k m j s : Nat} {t : TypeId} {cs : List C} (hi : blkIs E w p b) (h : (b.readN k m j s).run = some cs)
  (ha : agg? P t = some true) (hs : size? P t = some s) :
  ∃ x, (∀ w', w'.heap[p.1]? = w.heap[p.1]? → (loadVar t ⟨p.1, p.2.2 + (k * m + j), none⟩).run P w' = .ok x w') ∧ (A.agg cs).Is E x := by
 obtain ⟨l, hl, hall, hcell⟩ := readN_is hi h
 refine ⟨.agg l.toArray, fun w' hw => ?_, l, rfl, hall⟩
 have hrun := run_loadCells_list (P := P) w' ⟨p.1, p.2.2 + (k * m + j), none⟩ l fun i x hx => (cell_of_same (a := (⟨p.1, p.2.2 + (k * m + j), none⟩ : Addr).add i) (by simp only [Addr.add]; split <;> exact hw)).trans (hcell i x hx)
 rw [hl] at hrun
 simp [loadVar, agg?_run ha w', size?_run hs w', hrun]
theorem load_one_all {E : Env} {w : World} {p : Nat × Nat × Nat} {b : Blk} {k m j : Nat} {t : TypeId} {c : C} (hi : blkIs E w p b) (h : (b.read k m j).run = some c)
  (ha : agg? P t = some false) :
  ∃ x, (∀ w', w'.heap[p.1]? = w.heap[p.1]? → (loadVar t ⟨p.1, p.2.2 + (k * m + j), none⟩).run P w' = .ok x w') ∧ (A.one c).Is E x := by
 obtain ⟨x, hx, hc⟩ := read_is hi h
 refine ⟨x, fun w' hw => ?_, hc⟩
 have hx' := (cell_of_same (a := ⟨p.1, p.2.2 + (k * m + j), none⟩) hw).trans hx
 simp [loadVar, agg?_run ha w', run_load, hx']
theorem load_agg {E : Env} {w : World} {p : Nat × Nat × Nat} {b : Blk} {k m j s : Nat} {t : TypeId} {cs : List C} (hi : blkIs E w p b) (h : (b.readN k m j s).run = some cs)
  (ha : agg? P t = some true) (hs : size? P t = some s) :
  ∃ x, (loadVar t ⟨p.1, p.2.2 + (k * m + j), none⟩).run P w = .ok x w ∧ (A.agg cs).Is E x := let ⟨x, h1, h2⟩ := load_agg_all hi h ha hs; ⟨x, h1 w rfl, h2⟩
theorem load_one {E : Env} {w : World} {p : Nat × Nat × Nat} {b : Blk} {k m j : Nat} {t : TypeId} {c : C} (hi : blkIs E w p b) (h : (b.read k m j).run = some c)
  (ha : agg? P t = some false) :
  ∃ x, (loadVar t ⟨p.1, p.2.2 + (k * m + j), none⟩).run P w = .ok x w ∧ (A.one c).Is E x := let ⟨x, h1, h2⟩ := load_one_all hi h ha; ⟨x, h1 w rfl, h2⟩
end
theorem setNth_spec : ∀ {cs : List C} {i : Nat} {x : C} {cs' : List C}, setNth cs i x = some cs' → i < cs.length ∧ ∀ k, nth cs' k = if k = i then some x else nth cs k
 | [], _, _, _, h => by cases h
 | c :: cs, 0, x, cs', h => by
  simp only [setNth, Option.some.injEq] at h
  subst h
  exact ⟨by simp, fun k => by cases k <;> simp [nth]⟩
 | c :: cs, i + 1, x, cs', h => by
  simp only [setNth] at h
  split at h
  ·rename_i cs2 h2
   simp only [Option.some.injEq] at h
   subst h
   obtain ⟨hl, hk⟩ := setNth_spec h2
   exact ⟨by simp; omega, fun k => by cases k <;> simp [nth, hk]⟩
  ·cases h
theorem row_inj {k k' m j j' : Nat} (hj : j < m) (hj' : j' < m) (h : k' * m + j' = k * m + j) : k' = k ∧ j' = j := by
 have h1 : (k' * m + j') / m = k' := by rw [Nat.mul_comm, Nat.mul_add_div (by omega)]; simp [Nat.div_eq_of_lt hj']
 have h2 : (k * m + j) / m = k := by rw [Nat.mul_comm, Nat.mul_add_div (by omega)]; simp [Nat.div_eq_of_lt hj]
 have h3 : k' = k := by rw [← h1, ← h2, h]
 subst h3
 exact ⟨rfl, by omega⟩
theorem nth_lt {α : Type} {l : List α} {i : Nat} {a : α} (h : nth l i = some a) : i < l.length := by
 rw [nth_eq] at h
 exact (List.getElem?_eq_some_iff.1 h).1
theorem putF_same {α : Type} (f : Nat → α) (i : Nat) (x : α) : putF f i x i = x := by simp [putF]
theorem putF_other {α : Type} (f : Nat → α) {i j : Nat} (x : α) (h : j ≠ i) : putF f i x j = f j := by
 unfold putF
 split
 ·rename_i e; exact absurd (Nat.eq_of_beq_eq_true e) h
 ·rfl
theorem col_put {c c' : Col} {i : Nat} {x : C} (h : c.put i x = some c') : c'.at i = x ∧ ∀ k, k ≠ i → c'.at k = c.at k := by
 unfold Col.put at h
 split at h
 ·split at h
  ·rename_i hk
   have hk := of_decide_eq_true hk
   subst hk
   injection h with h; subst h
   exact ⟨by simp [Col.at, putF_same], fun k hk => by simp [Col.at, putF_other _ _ hk]⟩
  ·cases h
 ·injection h with h; subst h
  exact ⟨by simp [Col.at, putF_same], fun k hk => by simp [Col.at, putF_other _ _ hk]⟩
 ·injection h with h; subst h
  exact ⟨by simp [Col.at, putF_same], fun k hk => by simp [Col.at, putF_other _ _ hk]⟩
 ·split at h
  ·rename_i hk
   have hk := of_decide_eq_true hk
   subst hk
   injection h with h; subst h
   exact ⟨by simp [Col.at, putF_same], fun k hk => by simp [Col.at, putF_other _ _ hk]⟩
  ·cases h
 ·cases h
theorem setCol_spec : ∀ {cols cols' : List Col} {j i : Nat} {x : C}, setCol cols j i x = some cols' → cols'.length = cols.length ∧ ∃ c c', nth cols j = some c ∧ c.put i x = some c' ∧ ∀ j', nth cols' j' = if j' = j then some c' else nth cols j'
 | [], _, _, _, _, h => by cases h
 | c :: cs, cols', 0, i, x, h => by
  simp only [setCol] at h
  split at h
  ·rename_i c' hp
   injection h with h; subst h
   exact ⟨rfl, c, c', rfl, hp, fun j' => by cases j' <;> simp [nth]⟩
  ·cases h
 | c :: cs, cols', j + 1, i, x, h => by
  simp only [setCol] at h
  split at h
  ·rename_i cs' hp
   injection h with h; subst h
   obtain ⟨h1, c0, c0', h2, h3, h4⟩ := setCol_spec hp
   refine ⟨by simp [h1], c0, c0', h2, h3, fun j' => ?_⟩
   cases j' with
   | zero => simp [nth]
   | succ j' => simp [nth, h4 j']
  ·cases h
theorem putCols_spec : ∀ {cols cols' : List Col} {i : Nat} {xs : List C}, putCols cols i xs = some cols' → cols'.length = cols.length ∧ xs.length = cols.length ∧ ∀ j c', nth cols' j = some c' → ∃ c x, nth cols j = some c ∧ nth xs j = some x ∧ c.put i x = some c'
 | [], cols', i, [], h => by
  simp only [putCols, Option.some.injEq] at h
  subst h
  exact ⟨rfl, rfl, fun j c' hc => by simp [nth] at hc⟩
 | c :: cs, cols', i, x :: xs, h => by
  simp only [putCols] at h
  split at h
  ·rename_i c1 cs1 h1 h2
   injection h with h; subst h
   obtain ⟨l1, l2, l3⟩ := putCols_spec h2
   refine ⟨by simp [l1], by simp [l2], fun j c' hc => ?_⟩
   cases j with
   | zero =>
    simp only [nth, Option.some.injEq] at hc
    subst hc
    exact ⟨c, x, rfl, rfl, h1⟩
   | succ j => exact l3 j c' hc
  ·cases h
 | [], _, _, _ :: _, h => by cases h
 | _ :: _, _, _, [], h => by cases h
theorem write_is {E : Env} {b b' : Blk} {k m j : Nat} {c : C} {arr : Array Value} {x : Value} (hb : b.body.Is E arr) (h : (b.write k m j c).run = some b') (hc : c.Is E x) :
  b.ro = false ∧ b'.ro = false ∧ b'.elem = b.elem ∧ k * m + j < arr.size ∧ b'.body.Is E (arr.setIfInBounds (k * m + j) x) := by
 unfold Blk.write at h
 cases hro : b.ro with
 | true => rw [hro] at h; cases h
 | false =>
  rw [hro] at h
  simp only at h
  cases hbody : b.body with
  | flat cs =>
   rw [hbody] at h hb
   simp only at h
   split at h
   ·rename_i cs' hs
    simp only [Tree.run, Option.some.injEq] at h
    subst h
    obtain ⟨hl, hk⟩ := setNth_spec hs
    have hlt : k * m + j < arr.size := by
     have hn : nth cs (k * m + j) = some (cs[k * m + j]) := by rw [nth_eq]; simp [hl]
     obtain ⟨y, hy, _⟩ := hb _ _ hn
     exact (Array.getElem?_eq_some_iff.1 hy).1
    refine ⟨rfl, rfl, rfl, hlt, fun i c' hc' => ?_⟩
    rw [hk] at hc'
    split at hc'
    ·rename_i e; subst e
     injection hc' with hc'; subst hc'
     exact ⟨x, by simp [hlt], hc⟩
    ·rename_i e
     obtain ⟨y, hy, hi⟩ := hb i c' hc'
     exact ⟨y, by rw [Array.getElem?_setIfInBounds_ne (Ne.symm e)]; exact hy, hi⟩
   ·cases h
  | rows n cols =>
   rw [hbody] at h hb
   simp only at h
   split at h
   ·rename_i cols' hm hset
    obtain rfl := Nat.eq_of_beq_eq_true hm
    obtain ⟨hk, h⟩ := Tree.need_some h
    have hk : k < n := by simpa [Nat.blt_eq] using hk
    simp only [Tree.run, Option.some.injEq] at h
    subst h
    obtain ⟨hlen, c0, c0', hc0, hput, hnth⟩ := setCol_spec hset
    obtain ⟨p1, p2⟩ := col_put hput
    have hj := nth_lt hc0
    have hlt : k * cols.length + j < arr.size := by
     obtain ⟨y, hy, _⟩ := hb k j c0 hk hc0
     exact (Array.getElem?_eq_some_iff.1 hy).1
    refine ⟨rfl, rfl, rfl, hlt, fun k' j' c' hk' hj' => ?_⟩
    rw [hnth] at hj'
    rw [hlen]
    by_cases e : k' = k ∧ j' = j
    ·obtain ⟨rfl, rfl⟩ := e
     rw [if_pos rfl] at hj'
     injection hj' with hj'; subst hj'
     exact ⟨x, by simp [hlt], by rw [p1]; exact hc⟩
    ·by_cases ej : j' = j
     ·subst ej
      rw [if_pos rfl] at hj'
      injection hj' with hj'; subst hj'
      have ek : k' ≠ k := fun ek => e ⟨ek, rfl⟩
      obtain ⟨y, hy, hi⟩ := hb k' j' c0 hk' hc0
      refine ⟨y, ?_, by rw [p2 k' ek]; exact hi⟩
      rw [Array.getElem?_setIfInBounds_ne (fun he => e (row_inj hj hj he.symm))]; exact hy
     ·rw [if_neg ej] at hj'
      obtain ⟨y, hy, hi⟩ := hb k' j' c' hk' hj'
      refine ⟨y, ?_, hi⟩
      rw [Array.getElem?_setIfInBounds_ne (fun he => e (row_inj hj (nth_lt hj') he.symm))]; exact hy
   ·cases h
  | map es => rw [hbody] at hb; exact hb.elim
  | imap n f g x => rw [hbody] at hb; exact hb.elim
  | iter id n => rw [hbody] at hb; exact hb.elim
def layFrom (arr : Array Value) (i : Nat) : List Value → Array Value
 | [] => arr
 | x :: xs => layFrom (arr.setIfInBounds i x) (i + 1) xs
theorem size_layFrom : ∀ (xs : List Value) (arr : Array Value) (i : Nat), (layFrom arr i xs).size = arr.size
 | [], _, _ => rfl
 | x :: xs, arr, i => by simp [layFrom, size_layFrom xs]
theorem writeN_is {E : Env} {k m : Nat} : ∀ {cs : List C} {xs : List Value} {b b' : Blk} {j : Nat} {arr : Array Value}, b.body.Is E arr → (b.writeN k m j cs).run = some b' → All2 (C.Is E) cs xs →
  (cs = [] ∨ b.ro = false) ∧ b'.ro = b.ro ∧ b'.elem = b.elem ∧ (cs ≠ [] → k * m + j + xs.length ≤ arr.size) ∧ b'.body.Is E (layFrom arr (k * m + j) xs)
 | [], [], b, b', j, arr, hb, h, _ => by
  simp only [Blk.writeN, Tree.run, Option.some.injEq] at h
  subst h
  exact ⟨.inl rfl, rfl, rfl, fun h => absurd rfl h, hb⟩
 | c :: cs, x :: xs, b, b', j, arr, hb, h, ha => by
  obtain ⟨b1, h1, h⟩ := Tree.bind_some h
  obtain ⟨r1, r2, r3, r4, r5⟩ := write_is hb h1 ha.1
  obtain ⟨s1, s2, s3, s4, s5⟩ := writeN_is r5 h ha.2
  refine ⟨.inr r1, by rw [s2, r2, r1], by rw [s3, r3], fun _ => ?_, ?_⟩
  ·cases cs with
   | nil => cases xs with
    | nil => simp; omega
    | cons => exact ha.2.elim
   | cons c2 cs =>
    have := s4 (by simp)
    simp at this ⊢
    omega
  ·rw [layFrom]; rw [← Nat.add_assoc] at s5; exact s5
 | [], _ :: _, _, _, _, _, _, _, h => h.elim
 | _ :: _, [], _, _, _, _, _, _, h => h.elim
theorem run_storeCells_lay (P : Program) (g o : Nat) (t : TypeId) : ∀ (vs : List Value) (i : Nat) (cur : Array Value) (w : World), w.heap[g]? = some (.cells cur t (0, 0)) → (vs ≠ [] → o + i + vs.length ≤ cur.size) → (∀ v ∈ vs, v.oneCell' = true) →
  (storeCells ⟨g, o, none⟩ vs i).run P w = .ok () (w.setRow g (layFrom cur (o + i) vs))
 | [], i, cur, w, hg, _, _ => by
  simp only [storeCells, layFrom]
  rw [setRow_self w g cur t (0, 0) hg]
  rfl
 | v :: rest, i, cur, w, hg, hl, h1 => by
  have hl' := hl (by simp)
  have hi : o + i < cur.size := by simp at hl'; omega
  have hcell : w.cell? ⟨g, o + i, none⟩ = some cur[o + i] := by simp [World.cell?, hg, hi]
  have hfro : w.frozen? ⟨g, o + i, none⟩ = false := by simp [World.frozen?, hg]
  have hst : (store ((⟨g, o, none⟩ : Addr).add i) v).run P w = .ok () (w.setRow g (cur.setIfInBounds (o + i) v)) := by
   rw [addr_add, run_store P w _ v _ (h1 v (by simp)), hcell]
   simp [hfro, setCell_eq_setRow w g (o + i) cur t (0, 0) v hg]
  have ih := run_storeCells_lay P g o t rest (i + 1) (cur.setIfInBounds (o + i) v) (w.setRow g (cur.setIfInBounds (o + i) v)) (setRow_heap w g cur _ t _ hg)
   (fun _ => by simp at hl' ⊢; omega) (fun x hx => h1 x (by simp [hx]))
  simp only [storeCells, Sem.run_bind, hst, Result.andThen_ok, ih, setRow_setRow, layFrom]
  rfl
theorem all2_oneCell {E : Env} : ∀ {cs : List C} {xs : List Value}, All2 (C.Is E) cs xs → ∀ v ∈ xs, v.oneCell' = true
 | [], [], _, v, hv => by simp at hv
 | c :: cs, x :: xs, h, v, hv => by
  rcases List.mem_cons.1 hv with rfl | hv
  ·exact h.1.oneCell
  ·exact all2_oneCell h.2 v hv
 | [], _ :: _, h, _, _ => h.elim
 | _ :: _, [], h, _, _ => h.elim
theorem Value.cells_toArray (x : Value) : x.cells.toList.toArray = x.cells := by simp
theorem cells_stp {P : Program} {E : Env} {h : Hp} {w : World} {id k m j : Nat} {b b' : Blk} {cs : List C} {vs : List Value} {p : Nat × Nat × Nat} (r : RH E h w)
  (hb : h.blk id = some b) (hp : E id = some p) (hcs : All2 (C.Is E) cs vs) (hw : (b.writeN k m j cs).run = some b') :
  ∃ w', (storeCells ⟨p.1, p.2.2 + (k * m + j), none⟩ vs).run P w = .ok () w' ∧ Stp E h w E { h with heap := h.heap.set D id (some b'), low := min h.low id } w' := by
 have hm : cs ≠ [] → b.body.isMap = false := fun hne => by
  cases hbd : b.body with
  | map es =>
   cases cs with
   | nil => exact absurd rfl hne
   | cons c cs =>
    obtain ⟨b1, hb1, _⟩ := Tree.bind_some hw
    unfold Blk.write at hb1
    split at hb1
    ·cases hb1
    ·rw [hbd] at hb1; cases hb1
  | imap n f g x =>
   cases cs with
   | nil => exact absurd rfl hne
   | cons c cs =>
    obtain ⟨b1, hb1, _⟩ := Tree.bind_some hw
    unfold Blk.write at hb1
    split at hb1
    ·cases hb1
    ·rw [hbd] at hb1; cases hb1
  | iter id n =>
   cases cs with
   | nil => exact absurd rfl hne
   | cons c cs =>
    obtain ⟨b1, hb1, _⟩ := Tree.bind_some hw
    unfold Blk.write at hb1
    split at hb1
    ·cases hb1
    ·rw [hbd] at hb1; cases hb1
  | _ => rfl
 have hid : id < lim := by
  rcases Nat.lt_or_ge id h.next with hlt | hge
  ·exact Nat.lt_of_lt_of_le hlt r.nlim
  ·rw [r.dom id hge] at hp; cases hp
 cases hcs0 : cs with
 | nil =>
  -- nothing is stored
  subst hcs0
  have hb' : b' = b := by simpa [Blk.writeN, Tree.run, eq_comm] using hw
  subst hb'
  have hl0 : vs = [] := by have := hcs.length; simp only [List.length_nil] at this; exact List.eq_nil_of_length_eq_zero this.symm
  refine ⟨w, by simp [hl0, storeCells], ⟨?_, Fr.refl _ _ _ _, Nat.le_refl _, Nat.min_le_left _ _, rfl, rfl⟩⟩
  have hsame : ∀ i, (Tr.set D h.heap id (some b')).get D i = h.heap.get D i := fun i => by
   rw [Tr.get_set_D _ _ _ _ hid]; split
   ·rename_i e; subst e; exact hb.symm
   ·rfl
  exact ⟨r.nlim, r.dom, r.lt, fun i b2 hb2 => r.blk i b2 (by rw [← hsame]; exact hb2), fun i i' b1 b2 q q' e1 e2 => r.inj i i' b1 b2 q q' (by rw [← hsame]; exact e1) (by rw [← hsame]; exact e2), r.glob, r.lp⟩
 | cons c0 cs0 =>
  have hne : cs ≠ [] := by rw [hcs0]; simp
  obtain ⟨p', hp', arr, fz, ⟨ty, h1, hty⟩, h2, h3, h4⟩ := r.cells hb (hm hne)
  obtain rfl : p' = p := Option.some.inj (hp'.symm.trans hp)
  have hro : b.ro = false := (writeN_is h3.2 hw hcs).1.resolve_left hne
  obtain ⟨h30, h3⟩ := h3.own hro
  obtain ⟨_, s2, s3, s4, s5⟩ := writeN_is h3 hw hcs
  rw [h30, Nat.zero_add]
  have hfz : fz = (0, 0) := roIs_fz h4 hro
  obtain rfl := hty hro
  subst hfz
  have hrun := run_storeCells_lay P p'.1 (k * m + j) b.elem vs 0 arr w h1 (fun _ => by have := s4 hne; simpa using this) (all2_oneCell hcs)
  refine ⟨w.setRow p'.1 (layFrom arr (k * m + j) vs), by simpa using hrun, ?_⟩
  have hnew := setRow_heap w p'.1 arr (layFrom arr (k * m + j) vs) b.elem (0, 0) h1
  have hoth : ∀ q : Nat × Nat × Nat, q.1 ≠ p'.1 → (w.setRow p'.1 (layFrom arr (k * m + j) vs)).heap[q.1]? = w.heap[q.1]? := fun q hq => setRow_other w p'.1 q.1 _ hq
  have hO : Oth w (w.setRow p'.1 (layFrom arr (k * m + j) vs)) := fun q o hq ho => by
   by_cases e : q = p'.1
   ·subst e; rw [h1] at hq; injection hq with hq; subst hq; cases ho
   ·exact (setRow_other w p'.1 q _ e).trans hq
  have hget : ∀ i, (Tr.set D h.heap id (some b')).get D i = if id = i then some b' else h.heap.get D i := fun i => Tr.get_set_D _ _ _ _ hid
  refine ⟨⟨r.nlim, r.dom, fun i q hq => by rw [size_setRow]; exact r.lt i q hq, fun i b2 hb2 => ?_, fun i i' b1 b2 q q' e1 e2 hr1 hq hq' he => ?_, r.glob, r.lpStep (Env.le.refl E) hO⟩, ?_, Nat.le_refl _, Nat.min_le_left _ _, rfl, rfl⟩
  ·have hb3 : (Tr.set D h.heap id (some b')).get D i = some b2 := hb2
   rw [hget] at hb3
   split at hb3
   ·rename_i e; subst e
    injection hb3 with hb3; subst hb3
    exact ⟨p', hp, .inl ⟨_, (0, 0), ⟨_, hnew, fun _ => s3.symm⟩, by rw [size_layFrom]; exact h2, ⟨fun _ => h30, by rw [h30, vw_zero]; exact s5⟩, roIs_own (s2.trans hro)⟩⟩
   ·rename_i e
    obtain ⟨q, hq, hi⟩ := r.blk i b2 hb3
    exact ⟨q, hq, hi.of_heap (hoth q fun he => e (r.inj id i b b2 p' q hb hb3 hro hp hq he.symm))⟩
  ·have e1' : (Tr.set D h.heap id (some b')).get D i = some b1 := e1
   have e2' : (Tr.set D h.heap id (some b')).get D i' = some b2 := e2
   rw [hget] at e1' e2'
   have f1 : ∃ b3, h.heap.get D i = some b3 ∧ b3.ro = false := by
    split at e1'
    ·rename_i e; subst e; exact ⟨b, hb, hro⟩
    ·exact ⟨b1, e1', hr1⟩
   have f2 : ∃ b3, h.heap.get D i' = some b3 := by
    split at e2'
    ·rename_i e; subst e; exact ⟨b, hb⟩
    ·exact ⟨b2, e2'⟩
   obtain ⟨b3, g1, g2⟩ := f1
   obtain ⟨b4, g3⟩ := f2
   exact r.inj i i' b3 b4 q q' g1 g3 g2 hq hq' he
  ·refine ⟨Env.le.refl E, rfl, rfl, rfl, by simp, fun bn _ hno => ?_, fun _ _ hh => .inl hh, hO⟩
   by_cases e : bn = p'.1
   ·have := hno id p' hp e.symm
    have h6 : min h.low id ≤ id := Nat.min_le_right _ _
    have h7 : id < min h.low id := this
    omega
   ·exact setRow_other w p'.1 bn _ e
theorem relay_stp {E : Env} {h : Hp} {w : World} {id : Nat} {b b' : Blk} {p : Nat × Nat × Nat} {arr arr' : Array Value} (r : RH E h w) (hb : h.blk id = some b) (hp : E id = some p) (hro : b.ro = false) (h1 : w.heap[p.1]? = some (.cells arr b.elem (0, 0))) (h2 : arr.size = p.2.1) (h30 : p.2.2 = 0)
  (he : b'.elem = b.elem) (hro' : b'.ro = false) (hsz : arr'.size = arr.size) (hbd : b'.body.Is E arr') : Stp E h w E { h with heap := h.heap.set D id (some b'), low := min h.low id } (w.setRow p.1 arr') := by
 have hid : id < lim := by
  rcases Nat.lt_or_ge id h.next with hlt | hge
  ·exact Nat.lt_of_lt_of_le hlt r.nlim
  ·rw [r.dom id hge] at hp; cases hp
 have hnew := setRow_heap w p.1 arr arr' b.elem (0, 0) h1
 have hoth : ∀ q : Nat × Nat × Nat, q.1 ≠ p.1 → (w.setRow p.1 arr').heap[q.1]? = w.heap[q.1]? := fun q hq => setRow_other w p.1 q.1 _ hq
 have hO : Oth w (w.setRow p.1 arr') := fun q o hq ho => by
  by_cases e : q = p.1
  ·subst e; rw [h1] at hq; injection hq with hq; subst hq; cases ho
  ·exact (setRow_other w p.1 q _ e).trans hq
 have hget : ∀ i, (Tr.set D h.heap id (some b')).get D i = if id = i then some b' else h.heap.get D i := fun i => Tr.get_set_D _ _ _ _ hid
 refine ⟨⟨r.nlim, r.dom, fun i q hq => by rw [size_setRow]; exact r.lt i q hq, fun i b2 hb2 => ?_, fun i i' b1 b2 q q' e1 e2 hr1 hq hq' he => ?_, r.glob, r.lpStep (Env.le.refl E) hO⟩, ?_, Nat.le_refl _, Nat.min_le_left _ _, rfl, rfl⟩
 ·have hb3 : (Tr.set D h.heap id (some b')).get D i = some b2 := hb2
  rw [hget] at hb3
  split at hb3
  ·rename_i e; subst e
   injection hb3 with hb3; subst hb3
   exact ⟨p, hp, .inl ⟨_, (0, 0), ⟨_, hnew, fun _ => he.symm⟩, by rw [hsz]; exact h2, ⟨fun _ => h30, by rw [h30, vw_zero]; exact hbd⟩, roIs_own hro'⟩⟩
  ·rename_i e
   obtain ⟨q, hq, hi⟩ := r.blk i b2 hb3
   exact ⟨q, hq, hi.of_heap (hoth q fun he => e (r.inj id i b b2 p q hb hb3 hro hp hq he.symm))⟩
 ·have e1' : (Tr.set D h.heap id (some b')).get D i = some b1 := e1
  have e2' : (Tr.set D h.heap id (some b')).get D i' = some b2 := e2
  rw [hget] at e1' e2'
  have f1 : ∃ b3, h.heap.get D i = some b3 ∧ b3.ro = false := by
   split at e1'
   ·rename_i e; subst e; exact ⟨b, hb, hro⟩
   ·exact ⟨b1, e1', hr1⟩
  have f2 : ∃ b3, h.heap.get D i' = some b3 := by
   split at e2'
   ·rename_i e; subst e; exact ⟨b, hb⟩
   ·exact ⟨b2, e2'⟩
  obtain ⟨b3, g1, g2⟩ := f1
  obtain ⟨b4, g3⟩ := f2
  exact r.inj i i' b3 b4 q q' g1 g3 g2 hq hq' he
 ·refine ⟨Env.le.refl E, rfl, rfl, rfl, by simp, fun bn _ hno => ?_, fun _ _ hh => .inl hh, hO⟩
  by_cases e : bn = p.1
  ·have := hno id p hp e.symm
   have h6 : min h.low id ≤ id := Nat.min_le_right _ _
   have h7 : id < min h.low id := this
   omega
  ·exact setRow_other w p.1 bn _ e
theorem store_stp {P : Program} {E : Env} {h : Hp} {w : World} {id k m j s : Nat} {t : TypeId} {b b' : Blk} {cs : List C} {x : Value} {p : Nat × Nat × Nat} (r : RH E h w)
  (hb : h.blk id = some b) (hp : E id = some p) (hs : size? P t = some s) (hcs : All2 (C.Is E) cs x.cells.toList) (hlen : cs.length = s) (hw : (b.writeN k m j cs).run = some b') :
  ∃ w', (storeVar t ⟨p.1, p.2.2 + (k * m + j), none⟩ x).run P w = .ok () w' ∧ Stp E h w E { h with heap := h.heap.set D id (some b'), low := min h.low id } w' := by
 obtain ⟨w', hrun, hst⟩ := cells_stp (P := P) r hb hp hcs hw
 have hxs : x.cells.size = s := by rw [← hlen, hcs.length]; simp
 exact ⟨w', by simpa [storeVar, size?_run hs w, hxs] using hrun, hst⟩
theorem ents_push (s : ByteArray) (a : A) (x : Value) : ∀ (es : List (ByteArray × A)) (l : List Value) (i : Nat), l.length = es.length → ents (es ++ [(s, a)]) (l ++ [x]) i = ents es l i ++ [⟨.string s, x, i + es.length⟩]
 | [], [], i, _ => rfl
 | (k, b) :: es, v :: l, i, h => by
  simp only [List.cons_append, ents, List.length_cons]
  rw [ents_push s a x es l (i + 1) (by simpa using h)]
  simp only [show i + 1 + es.length = i + (es.length + 1) by omega]
 | [], _ :: _, _, h => by simp at h
 | _ :: _, [], _, h => by simp at h
theorem map_stp {E : Env} {h : Hp} {w : World} {id : Nat} {e : TypeId} {es : List (ByteArray × A)} {l : List Value} {p : Nat × Nat × Nat} (r : RH E h w)
  (hb : h.blk id = some ⟨false, e, .map es⟩) (hp : E id = some p) (h1 : w.heap[p.1]? = some (.map (ents es l 0).toArray es.length)) (h2 : All2 (A.Is E) (es.map (·.2)) l) {s : ByteArray} {a : A} {x : Value} (hx : a.Is E x) :
  Stp E h w E { h with heap := h.heap.set D id (some ⟨false, e, .map (es ++ [(s, a)])⟩), low := min h.low id } (w.putObj p.1 (.map ((ents es l 0).toArray.push ⟨.string s, x, es.length⟩) (es.length + 1))) := by
 have hid : id < lim := by
  rcases Nat.lt_or_ge id h.next with hlt | hge
  ·exact Nat.lt_of_lt_of_le hlt r.nlim
  ·rw [r.dom id hge] at hp; cases hp
 have hlt : p.1 < w.heap.size := r.lt id p hp
 have hlen : l.length = es.length := by rw [← h2.length]; simp
 have hO : Oth w (w.putObj p.1 (.map ((ents es l 0).toArray.push ⟨.string s, x, es.length⟩) (es.length + 1))) := fun q o hq ho => by
  by_cases e : q = p.1
  ·subst e; rw [h1] at hq; injection hq with hq; subst hq; cases ho
  ·exact (World.putObj_heap_other e).trans hq
 have hget : ∀ i, (Tr.set D h.heap id (some ⟨false, e, .map (es ++ [(s, a)])⟩)).get D i = if id = i then some ⟨false, e, .map (es ++ [(s, a)])⟩ else h.heap.get D i := fun i => Tr.get_set_D _ _ _ _ hid
 refine ⟨⟨r.nlim, r.dom, fun i q hq => by rw [World.putObj_size]; exact r.lt i q hq, fun i b2 hb2 => ?_, fun i i' b1 b2 q q' e1 e2 hr1 hq hq' he => ?_, r.glob, r.lpStep (Env.le.refl E) hO⟩, ?_, Nat.le_refl _, Nat.min_le_left _ _, rfl, rfl⟩
 ·have hb3 : (Tr.set D h.heap id (some ⟨false, e, .map (es ++ [(s, a)])⟩)).get D i = some b2 := hb2
  rw [hget] at hb3
  split at hb3
  ·rename_i e'; subst e'
   injection hb3 with hb3; subst hb3
   refine ⟨p, hp, .inr (.inl ⟨es ++ [(s, a)], l ++ [x], rfl, rfl, ?_, ?_⟩)⟩
   ·rw [World.putObj_heap_same hlt, ents_push s a x es l 0 hlen]
    simp
   ·rw [List.map_append]
    exact h2.append ⟨hx, trivial⟩
  ·rename_i e'
   obtain ⟨q, hq, hi⟩ := r.blk i b2 hb3
   exact ⟨q, hq, hi.of_heap (World.putObj_heap_other fun he => e' (r.inj id i _ b2 p q hb hb3 rfl hp hq he.symm))⟩
 ·have e1' : (Tr.set D h.heap id (some ⟨false, e, .map (es ++ [(s, a)])⟩)).get D i = some b1 := e1
  have e2' : (Tr.set D h.heap id (some ⟨false, e, .map (es ++ [(s, a)])⟩)).get D i' = some b2 := e2
  rw [hget] at e1' e2'
  have f1 : ∃ b3, h.heap.get D i = some b3 ∧ b3.ro = false := by
   split at e1'
   ·rename_i e'; subst e'; exact ⟨_, hb, rfl⟩
   ·exact ⟨b1, e1', hr1⟩
  have f2 : ∃ b3, h.heap.get D i' = some b3 := by
   split at e2'
   ·rename_i e'; subst e'; exact ⟨_, hb⟩
   ·exact ⟨b2, e2'⟩
  obtain ⟨b3, g1, g2⟩ := f1
  obtain ⟨b4, g3⟩ := f2
  exact r.inj i i' b3 b4 q q' g1 g3 g2 hq hq' he
 ·refine ⟨Env.le.refl E, rfl, rfl, rfl, by simp, fun bn _ hno => ?_, fun _ _ hh => .inl hh, hO⟩
  by_cases e' : bn = p.1
  ·have := hno id p hp e'.symm
   have h6 : min h.low id ≤ id := Nat.min_le_right _ _
   have h7 : id < min h.low id := this
   omega
  ·exact World.putObj_heap_other e'
theorem newmap_stp {E : Env} {h : Hp} {w : World} (r : RH E h w) {e : TypeId} {id : Nat} {h' : Hp} (hr : (h.alloc ⟨false, e, .map []⟩).run = some (id, h')) :
  ∃ E', Stp E h w E' h' (w.alloc (.map #[] 0)) ∧ E' id = some (w.heap.size, 0, 0) := by
 have hne : ∀ k, k < w.heap.size → (w.alloc (.map #[] 0)).heap[k]? = w.heap[k]? := fun k hk => heap_old w _ k hk
 obtain ⟨h1, h2⟩ := name_stpG (w1 := w.alloc (.map #[] 0)) (g := w.heap.size) (sz := (0, 0)) (h1 := h) (fun _ => False) r rfl rfl rfl (fun _ hf => hf.elim) (Nat.le_refl _)
  (fun i b' hb' => ⟨hb', fun pp hpp => ⟨fun hf => hf, fun e => by have := r.lt i pp hpp; omega⟩⟩) (Array.getElem?_eq_some_iff.1 (heap_new w _)).1
  (fun _ _ => .inr (.inl ⟨[], [], rfl, rfl, heap_new w _, trivial⟩)) (fun k hk _ => hne k hk) (by simp) rfl rfl rfl (fun _ hf => hf.elim) (.inl (Nat.le_refl _)) hr
 exact ⟨_, h1, h2⟩
theorem obj_stp {E : Env} {h : Hp} {w : World} {id : Nat} {e : TypeId} {body body' : Body} {es : Array MapEntry} {clk : Nat} {o : Obj} {p : Nat × Nat × Nat} (r : RH E h w)
  (hb : h.blk id = some ⟨false, e, body⟩) (hp : E id = some p) (h1 : w.heap[p.1]? = some (.map es clk)) (hmo : blkIs E (w.putObj p.1 o) p ⟨false, e, body'⟩) :
  Stp E h w E { h with heap := h.heap.set D id (some ⟨false, e, body'⟩), low := min h.low id } (w.putObj p.1 o) := by
 have hid : id < lim := by
  rcases Nat.lt_or_ge id h.next with hlt | hge
  ·exact Nat.lt_of_lt_of_le hlt r.nlim
  ·rw [r.dom id hge] at hp; cases hp
 have hO : Oth w (w.putObj p.1 o) := fun q o' hq ho => by
  by_cases e : q = p.1
  ·subst e; rw [h1] at hq; injection hq with hq; subst hq; cases ho
  ·exact (World.putObj_heap_other e).trans hq
 have hget : ∀ i, (Tr.set D h.heap id (some ⟨false, e, body'⟩)).get D i = if id = i then some ⟨false, e, body'⟩ else h.heap.get D i := fun i => Tr.get_set_D _ _ _ _ hid
 refine ⟨⟨r.nlim, r.dom, fun i q hq => by rw [World.putObj_size]; exact r.lt i q hq, fun i b2 hb2 => ?_, fun i i' b1 b2 q q' e1 e2 hr1 hq hq' he => ?_, r.glob, r.lpStep (Env.le.refl E) hO⟩, ?_, Nat.le_refl _, Nat.min_le_left _ _, rfl, rfl⟩
 ·have hb3 : (Tr.set D h.heap id (some ⟨false, e, body'⟩)).get D i = some b2 := hb2
  rw [hget] at hb3
  split at hb3
  ·rename_i e'; subst e'
   injection hb3 with hb3; subst hb3
   exact ⟨p, hp, hmo⟩
  ·rename_i e'
   obtain ⟨q, hq, hi⟩ := r.blk i b2 hb3
   exact ⟨q, hq, hi.of_heap (World.putObj_heap_other fun he => e' (r.inj id i _ b2 p q hb hb3 rfl hp hq he.symm))⟩
 ·have e1' : (Tr.set D h.heap id (some ⟨false, e, body'⟩)).get D i = some b1 := e1
  have e2' : (Tr.set D h.heap id (some ⟨false, e, body'⟩)).get D i' = some b2 := e2
  rw [hget] at e1' e2'
  have f1 : ∃ b3, h.heap.get D i = some b3 ∧ b3.ro = false := by
   split at e1'
   ·rename_i e'; subst e'; exact ⟨_, hb, rfl⟩
   ·exact ⟨b1, e1', hr1⟩
  have f2 : ∃ b3, h.heap.get D i' = some b3 := by
   split at e2'
   ·rename_i e'; subst e'; exact ⟨_, hb⟩
   ·exact ⟨b2, e2'⟩
  obtain ⟨b3, g1, g2⟩ := f1
  obtain ⟨b4, g3⟩ := f2
  exact r.inj i i' b3 b4 q q' g1 g3 g2 hq hq' he
 ·refine ⟨Env.le.refl E, rfl, rfl, rfl, by simp, fun bn _ hno => ?_, fun _ _ hh => .inl hh, hO⟩
  by_cases e' : bn = p.1
  ·have := hno id p hp e'.symm
   have h6 : min h.low id ≤ id := Nat.min_le_right _ _
   have h7 : id < min h.low id := this
   omega
  ·exact World.putObj_heap_other e'
theorem newimap_stp {E : Env} {h : Hp} {w : World} (r : RH E h w) {e : TypeId} {id : Nat} {h' : Hp} (hr : (h.alloc ⟨false, e, .imap 0 (fun _ => 0) (fun _ => -1) 0⟩).run = some (id, h')) :
  ∃ E', Stp E h w E' h' (w.alloc (.map #[] 0)) ∧ E' id = some (w.heap.size, 0, 0) := by
 have hne : ∀ k, k < w.heap.size → (w.alloc (.map #[] 0)).heap[k]? = w.heap[k]? := fun k hk => heap_old w _ k hk
 obtain ⟨h1, h2⟩ := name_stpG (w1 := w.alloc (.map #[] 0)) (g := w.heap.size) (sz := (0, 0)) (h1 := h) (fun _ => False) r rfl rfl rfl (fun _ hf => hf.elim) (Nat.le_refl _)
  (fun i b' hb' => ⟨hb', fun pp hpp => ⟨fun hf => hf, fun e => by have := r.lt i pp hpp; omega⟩⟩) (Array.getElem?_eq_some_iff.1 (heap_new w _)).1
  (fun _ _ => .inr (.inr (.inl ⟨0, _, _, _, rfl, rfl, fun _ => 0, heap_new w _, fun i hi => absurd hi (Nat.not_lt_zero i), fun x => .inl ⟨rfl, rfl⟩⟩))) (fun k hk _ => hne k hk) (by simp) rfl rfl rfl (fun _ hf => hf.elim) (.inl (Nat.le_refl _)) hr
 exact ⟨_, h1, h2⟩
theorem newiter_stp {E : Env} {h : Hp} {w : World} (r : RH E h w) {e : TypeId} {id mi n : Nat} {q : Nat × Nat × Nat} (hq : E mi = some q) {h' : Hp} (hr : (h.alloc ⟨false, e, .iter (some mi) n⟩).run = some (id, h')) :
  ∃ E', Stp E h w E' h' (w.alloc (.mapIter (some q.1) n #[] n)) ∧ E' id = some (w.heap.size, 0, 0) := by
 have hne : ∀ k, k < w.heap.size → (w.alloc (.mapIter (some q.1) n #[] n)).heap[k]? = w.heap[k]? := fun k hk => heap_old w _ k hk
 obtain ⟨h1, h2⟩ := name_stpG (w1 := w.alloc (.mapIter (some q.1) n #[] n)) (g := w.heap.size) (sz := (0, 0)) (h1 := h) (fun _ => False) r rfl rfl rfl (fun _ hf => hf.elim) (Nat.le_refl _)
  (fun i b' hb' => ⟨hb', fun pp hpp => ⟨fun hf => hf, fun e => by have := r.lt i pp hpp; omega⟩⟩) (Array.getElem?_eq_some_iff.1 (heap_new w _)).1
  (fun E2 hle => .inr (.inr (.inr ⟨some mi, n, rfl, rfl, rfl, some q.1, heap_new w _, fun i e => by
   injection e with e
   subst e
   exact ⟨q, hle _ _ hq, rfl⟩⟩))) (fun k hk _ => hne k hk) (by simp) rfl rfl rfl (fun _ hf => hf.elim) (.inl (Nat.le_refl _)) hr
 exact ⟨_, h1, h2⟩
theorem findI_none {k f : Int → Int} {x : Int} : ∀ (m j a : Nat), (∀ i : Nat, j ≤ i → i < j + m → k i ≠ x) → Instr.findNow (.int .i64) (.int .i64 x) ((List.range' j m).map (entI k f)) a = some none
 | 0, _, _, _ => rfl
 | m + 1, j, a, h => by
  rw [List.range'_succ, List.map_cons]
  have h0 : (x == k j) = false := by
   rw [beq_eq_false_iff_ne]
   exact fun e => h j (Nat.le_refl j) (by omega) e.symm
  simp only [Instr.findNow, entI, Instr.sameNow, if_true, h0]
  exact findI_none m (j + 1) (a + 1) fun i h1 h2 => h i (by omega) (by omega)
theorem findI_some {k f : Int → Int} {x : Int} : ∀ (m j a i : Nat), j ≤ i → i < j + m → k i = x → (∀ i' : Nat, j ≤ i' → i' < i → k i' ≠ x) → Instr.findNow (.int .i64) (.int .i64 x) ((List.range' j m).map (entI k f)) a = some (some (a + (i - j), .int .i64 (f x)))
 | 0, _, _, _, h1, h2, _, _ => by omega
 | m + 1, j, a, i, h1, h2, hk, h => by
  rw [List.range'_succ, List.map_cons]
  rcases Nat.lt_or_eq_of_le h1 with hlt | he
  ·have h0 : (x == k j) = false := by
    rw [beq_eq_false_iff_ne]
    exact fun e => h j (Nat.le_refl j) hlt e.symm
   simp only [Instr.findNow, entI, Instr.sameNow, if_true, h0]
   rw [show a + (i - j) = a + 1 + (i - (j + 1)) by omega]
   exact findI_some m (j + 1) (a + 1) i (by omega) (by omega) hk fun i' h3 h4 => h i' (by omega) h4
  ·subst he
   have h0 : (x == k j) = true := by rw [beq_iff_eq]; exact hk.symm
   simp only [Instr.findNow, entI, Instr.sameNow, if_true, h0]
   rw [Nat.sub_self, Nat.add_zero, hk]
theorem enterB_pos (n : Nat) (b : Int → Int) (x : Int) : 0 ≤ enterB n b x x := by
 unfold enterB
 cases h : decide (0 ≤ b x) with
 | true => simpa using h
 | false => simp
theorem find_fresh {s : ByteArray} : ∀ {es : List (ByteArray × A)} (l : List Value) (i j : Nat), freshKey s es = true → Instr.findNow .string (.string s) (ents es l i) j = some none
 | [], _, _, _, _ => by simp [ents, Instr.findNow]
 | (k, a) :: es, [], _, _, _ => by simp [ents, Instr.findNow]
 | (k, a) :: es, v :: l, i, j, h => by
  simp only [freshKey, Bool.and_eq_true, Bool.not_eq_true'] at h
  simp only [ents, Instr.findNow, Instr.sameNow, h.1]
  exact find_fresh l (i + 1) (j + 1) h.2
theorem find_is {E : Env} {s : ByteArray} {z : A} : ∀ {es : List (ByteArray × A)} {l : List Value} (i j : Nat) {a : A} {b : Bool}, (findA s z es).run = some (a, b) → All2 (A.Is E) (es.map (·.2)) l →
  (b = false ∧ a = z ∧ Instr.findNow .string (.string s) (ents es l i) j = some none) ∨ (b = true ∧ ∃ k v, a.Is E v ∧ Instr.findNow .string (.string s) (ents es l i) j = some (some (k, v)))
 | [], l, i, j, a, b, h, _ => by
  simp only [findA, Tree.run, Option.some.injEq, Prod.mk.injEq] at h
  exact .inl ⟨h.2.symm, h.1.symm, by simp [ents, Instr.findNow]⟩
 | (k, c) :: es, [], _, _, _, _, _, ha => ha.elim
 | (k, c) :: es, v :: l, i, j, a, b, h, ha => by
  simp only [findA] at h
  cases hk : (s == k) with
  | true =>
   rw [hk] at h
   simp only [Tree.run, Option.some.injEq, Prod.mk.injEq] at h
   obtain ⟨rfl, rfl⟩ := h
   exact .inr ⟨rfl, j, v, ha.1, by simp only [ents, Instr.findNow, Instr.sameNow, hk]⟩
  | false =>
   rw [hk] at h
   have hh : (findA s z es).run = some (a, b) := h
   rcases find_is (i + 1) (j + 1) hh ha.2 with h' | h'
   ·exact .inl ⟨h'.1, h'.2.1, by simp only [ents, Instr.findNow, Instr.sameNow, hk]; exact h'.2.2⟩
   ·obtain ⟨h1, k', v', h2, h3⟩ := h'
    exact .inr ⟨h1, k', v', h2, by simp only [ents, Instr.findNow, Instr.sameNow, hk]; exact h3⟩
end Go.Ev
namespace Go.Ev
open Go
section
variable {P : Program}
def ofCells (agg : Bool) (l : List Value) (x : Value) : Prop := match agg with
 | true => x = .agg l.toArray
 | false => l = [x]
def descAgg : TypeDesc → Bool
 | .struct _ => true
 | .array _ _ => true
 | _ => false
theorem agg?_desc {t : TypeId} {d : TypeDesc} (h : P.underlying t = some d) : agg? P t = some (descAgg d) := by
 unfold agg?; rw [h]; cases d <;> rfl
theorem partC_run {E : Env} {t : TypeId} {cs part' : List C} {l : List Value} {off : Nat} (ha : All2 (C.Is E) cs l) (h : partC P t cs off = some part') (w : World) :
  ∃ x l', (part t l.toArray off).run P w = .ok x w ∧ All2 (C.Is E) part' l' ∧ ∃ b, agg? P t = some b ∧ ofCells b l' x := by
 unfold partC at h
 split at h
 ·rename_i s h1 h2
  split at h
  ·rename_i hle
   simp only [Option.some.injEq] at h; subst h
   refine ⟨.agg ((l.drop off).take s).toArray, (l.drop off).take s, ?_, (ha.drop off).take s, true, h1, rfl⟩
   simp only [part, Sem.run_bind, agg?_run h1 w, Result.andThen_ok, if_true, size?_run h2 w, Sem.run_pure]
   congr 2
   apply Array.ext'
   simp
  ·cases h
 ·rename_i h1
  split at h
  ·rename_i c hc
   simp only [Option.some.injEq] at h; subst h
   obtain ⟨x, hx, hi⟩ := ha.get off c hc
   refine ⟨x, [x], ?_, ⟨hi, trivial⟩, false, h1, rfl⟩
   simp only [part, Sem.run_bind, agg?_run h1 w, Result.andThen_ok, Bool.false_eq_true, if_false]
   simp [hx]
  ·cases h
 ·cases h
def EqOk (P : Program) (m : Nat) (eq : TypeId → List C → List C → Option Bool) : Prop :=
 ∀ t xs ys r, eq t xs ys = some r → ∀ (E : Env) l l' x y b w, All2 (C.Is E) xs l → All2 (C.Is E) ys l' → agg? P t = some b → ofCells b l x → ofCells b l' y →
  (Op.equalIn m t x y).run P w = .ok r w
theorem eqFs_run {m : Nat} {eq : TypeId → List C → List C → Option Bool} (heq : EqOk P m eq) {E : Env} {xs ys : List C} {l l' : List Value} (hx : All2 (C.Is E) xs l) (hy : All2 (C.Is E) ys l') (w : World) :
  ∀ {fs : List Field} {r : Bool}, eqFs P eq xs ys fs = some r → (Op.eqFields m l.toArray l'.toArray fs).run P w = .ok r w
 | [], r, h => by simp only [eqFs, Option.some.injEq] at h; subst h; simp [Op.eqFields]
 | f :: fs, r, h => by
  simp only [eqFs] at h
  split at h
  ·rename_i a b hn ha hb
   split at h
   ·rename_i r1 r2 h1 h2
    simp only [Option.some.injEq] at h; subst h
    obtain ⟨x, lx, hrx, hax, bx, hbx, hox⟩ := partC_run hx ha w
    obtain ⟨y, ly, hry, hay, by', hby, hoy⟩ := partC_run hy hb w
    obtain rfl : bx = by' := Option.some.inj (hbx.symm.trans hby)
    have he := heq _ _ _ _ h1 E lx ly x y bx w hax hay hbx hox hoy
    have ih := eqFs_run heq hx hy w h2
    have hn' : f.name ≠ "_" := by simpa using hn
    simp only [Op.eqFields, if_pos hn', Sem.run_bind, hrx, hry, Result.andThen_ok, he]
    cases r1
    ·simp
    ·simpa using ih
   ·cases h
  ·cases h
theorem eqEs_run {m : Nat} {eq : TypeId → List C → List C → Option Bool} (heq : EqOk P m eq) {E : Env} {xs ys : List C} {l l' : List Value} (hx : All2 (C.Is E) xs l) (hy : All2 (C.Is E) ys l') (w : World) (e : TypeId) (s : Nat) :
  ∀ {n i : Nat} {r : Bool}, eqEs P eq e s xs ys i n = some r →
   (do
    let r ← forIn (List.range' i n) ((none, ()) : Option Bool × Unit) fun j _ => do
     let a ← part e l.toArray (j * s)
     let b ← part e l'.toArray (j * s)
     let c ← Op.equalIn m e a b
     if c = false then pure (ForInStep.done (some false, ())) else pure (ForInStep.yield (none, ()))
    match r.1 with
     | some a => pure a
     | none => pure true : Sem Bool).run P w = .ok r w
 | 0, i, r, h => by simp only [eqEs, Option.some.injEq] at h; subst h; simp
 | n + 1, i, r, h => by
  simp only [eqEs] at h
  split at h
  ·rename_i a b ha hb
   split at h
   ·rename_i r1 r2 h1 h2
    simp only [Option.some.injEq] at h; subst h
    obtain ⟨x, lx, hrx, hax, bx, hbx, hox⟩ := partC_run hx ha w
    obtain ⟨y, ly, hry, hay, by', hby, hoy⟩ := partC_run hy hb w
    obtain rfl : bx = by' := Option.some.inj (hbx.symm.trans hby)
    have he := heq _ _ _ _ h1 E lx ly x y bx w hax hay hbx hox hoy
    have ih := eqEs_run heq hx hy w e s h2
    simp only [List.range'_succ, List.forIn_cons, Sem.run_bind, hrx, hry, Result.andThen_ok, he, Sem.run_ite]
    cases r1
    ·simp
    ·simpa [Sem.run_bind] using ih
   ·cases h
  ·cases h
theorem eqT_ok : ∀ (d m : Nat), d ≤ m → EqOk P m (eqT P d)
 | 0, _, _ => fun t xs ys r h => by cases h
 | d + 1, 0, hm => by omega
 | d + 1, m + 1, hm => by
  intro t xs ys r h E l l' x y b w hx hy hb hox hoy
  have ih := eqT_ok d m (by omega)
  simp only [eqT] at h
  split at h
  ·rename_i k0 hu
   split at h
   ·rename_i k a k' b'
    split at h
    ·rename_i hk
     have hk : k = k' := by simpa using hk
     subst hk
     simp only [Option.some.injEq] at h; subst h
     rw [agg?_desc hu] at hb
     injection hb with hb; subst hb
     simp only [ofCells, descAgg] at hox hoy
     subst hox; subst hoy
     obtain ⟨rfl, _⟩ := hx.1
     obtain ⟨rfl, _⟩ := hy.1
     exact run_equalIn_int w m t k k0 a b' hu
    ·cases h
   ·cases h
  ·rename_i hu
   split at h
   ·rename_i a b'
    simp only [Option.some.injEq] at h; subst h
    rw [agg?_desc hu] at hb
    injection hb with hb; subst hb
    simp only [ofCells, descAgg] at hox hoy
    subst hox; subst hoy
    obtain ⟨rfl, _⟩ := hx.1
    obtain ⟨rfl, _⟩ := hy.1
    exact run_equalIn_bool' w m t a b' hu
   ·cases h
  ·rename_i hu
   split at h
   ·rename_i a b'
    simp only [Option.some.injEq] at h; subst h
    rw [agg?_desc hu] at hb
    injection hb with hb; subst hb
    simp only [ofCells, descAgg] at hox hoy
    subst hox; subst hoy
    obtain ⟨rfl, _⟩ := hx.1
    obtain ⟨rfl, _⟩ := hy.1
    exact run_equalIn_string w m t a b' hu
   ·cases h
  ·rename_i fs hu
   split at h
   ·rename_i hs
    rw [agg?_desc hu] at hb
    injection hb with hb; subst hb
    simp only [ofCells, descAgg] at hox hoy
    subst hox; subst hoy
    have hf : P.fieldsOf t = fs := by simp [Program.fieldsOf, hu]
    rw [run_equalIn_struct w m t _ _ (by rw [hf]; exact hu) hs, hf]
    exact eqFs_run ih hx hy w h
   ·cases h
  ·rename_i n e hu
   split at h
   ·rename_i s hs
    rw [agg?_desc hu] at hb
    injection hb with hb; subst hb
    simp only [ofCells, descAgg] at hox hoy
    subst hox; subst hoy
    have hh := eqEs_run ih hx hy w e s h
    simp only [Op.equalIn, Sem.run_bind, run_underlying hu, Result.andThen_ok, size?_run hs w]
    rw [← hh]
    simp only [Std.Legacy.Range.forIn_eq_forIn_range', Std.Legacy.Range.size, Sem.run_bind]
    simp
    congr 1
    funext a w'
    rcases a with ⟨_ | _, _⟩ <;> rfl
   ·cases h
  ·cases h
end
end Go.Ev
namespace Go.Ev
open Go
section
variable {P : Program}
def OpOk (P : Program) (s : Sem Next) (w : World) (Post : Value → World → Prop) : Prop := match s.run P w with
 | .ok (.value x) w' => Post x w'
 | .ok .skip w' => Post undef w'
 | .ok (.enter f args) w' => Calls P f args w' fun e w'' => ∃ x, e = .returned x ∧ Post x w''
 | .ok (.round l f tmps assign body) w' => RoundIn Fence.wide 0 P l f tmps assign body w' fun e w'' => ∃ x, e = .returned x ∧ Post x w''
 | _ => False
def G (ro : Option Nat) : Fence := { Fence.wide with round := ro }
theorem callsG (ro : Option Nat) {n : Nat} {f : FuncId} {args : Array Value} {w : World} {R : Ending → World → Prop} (h : Calls P f args w R) : CallsIn (G ro) n P f args w R := callsIn_wide.2 h
theorem roundG (ro : Option Nat) {n : Nat} {l : Nat} {f : FuncId} {tmps : Array Value} {assign body : Code} {w : World} {R : Ending → World → Prop} (h : RoundIn Fence.wide n P l f tmps assign body w R) : RoundIn (G ro) n P l f tmps assign body w R := h
theorem semG (ro : Option Nat) (ρ : Operand → Value) {o : Oper} (h : ∀ c, o.op ≠ .defer c) : o.semAt (G ro).round ρ = execOp ρ o := Oper.semAt_eq _ _ _ h
theorem OpOk.wpIn {ro : Option Nat} {o : Oper} {a : Act} {w : World} {Post : Value → World → Prop} {next : Act → World → Prop} {Q : Exit → Act → World → Prop} (hd : ∀ c, o.op ≠ .defer c)
  (h : OpOk P (execOp a.eval o) w Post) (hp : ∀ x w', Post x w' → next (a.put o.dst x) w') : o.wpIn (G ro) 0 P a w next Q := by
 unfold Oper.wpIn
 refine ⟨fun _ _ => trivial, ?_⟩
 rw [semG ro _ hd]
 unfold OpOk at h
 cases hr : (execOp a.eval o).run P w with
 | ok n w' =>
  rw [hr] at h
  cases n <;> simp only at h <;> first | exact h.elim | skip
  ·exact hp _ _ h
  ·exact hp _ _ h
  ·refine ⟨fun hd => (by cases hd), callsG ro (Calls.mono h ?_)⟩
   rintro e w'' ⟨x, he, hx⟩
   subst he
   exact hp _ _ hx
  ·refine ⟨fun hd => (by cases hd), roundG ro (RoundIn.mono h ?_)⟩
   rintro e w'' ⟨x, he, hx⟩
   subst he
   exact hp _ _ hx
 | halt x w' => rw [hr] at h; exact h.elim
theorem OpOk.of_value {s : Sem Next} {w w' : World} {x : Value} {Post : Value → World → Prop} (h : s.run P w = .ok (.value x) w') (hp : Post x w') : OpOk P s w Post := by
 unfold OpOk; rw [h]; exact hp
theorem OpOk.of_skip {s : Sem Next} {w w' : World} {Post : Value → World → Prop} (h : s.run P w = .ok .skip w') (hp : Post undef w') : OpOk P s w Post := by
 unfold OpOk; rw [h]; exact hp
theorem pureRun_run {α : Type} : ∀ {s : Sem α} {a : α}, pureRun P s = some a → ∀ w, s.run P w = .ok a w := by
 intro s
 induction s with
 | pure a => intro b h w; simp only [pureRun, Option.some.injEq] at h; subst h; rfl
 | program k ih => intro b h w; simp only [pureRun] at h; exact ih P h w
 | mark m k ih => intro b h w; simp only [pureRun] at h; exact ih h w
 | _ => intro b h w; simp [pureRun] at h
theorem pureC_all {s : Sem Value} {a : A} (h : (pureC P s).run = some a) (E : Env) : ∃ v, (∀ w, s.run P w = .ok v w) ∧ a.Is E v := by
 unfold pureC at h
 split at h
 ·rename_i v hv
  split at h
  ·rename_i c hc
   simp only [Tree.run, Option.some.injEq] at h; subst h
   exact ⟨v, pureRun_run hv, litC_is hc⟩
  ·cases h
 ·cases h
theorem pureC_run {s : Sem Value} {a : A} (h : (pureC P s).run = some a) (E : Env) (w : World) : ∃ v, s.run P w = .ok v w ∧ a.Is E v := by
 unfold pureC at h
 split at h
 ·rename_i v hv
  split at h
  ·rename_i c hc
   simp only [Tree.run, Option.some.injEq] at h; subst h
   exact ⟨v, pureRun_run hv w, litC_is hc⟩
  ·cases h
 ·cases h
def EvfOk (P : Program) (evf : FuncId → Spec) : Prop := ∀ f args h v h', (evf f args h).run = some (v, h') → ∀ (E : Env) (w : World) (vals : List Value), RH E h w → All2 (A.Is E) args vals →
 (f < yieldBase → Calls P f vals.toArray w fun e w' => ∃ x E', e = .returned x ∧ v.Is E' x ∧ Stp E h w E' h' w') ∧
 ∀ id l s, f = yieldBase + id → E id = some (l, s) → YieldAt Fence.wide 0 P l vals.toArray w fun e w' => ∃ x E', e = .returned x ∧ v.Is E' x ∧ Stp E h w E' h' w'
def NoOwn (P : Program) : Prop := ∀ (f : FuncId) (fn : Func), P.funcs[f]? = some fn → (fn.name == "runtime.NumGoroutine") = false
def Fits (E : Env) (ρA : Operand → Option A) (ρ : Operand → Value) (xs : List Operand) : Prop := ∀ x ∈ xs, ∀ a, ρA x = some a → a.Is E (ρ x)
section
variable {E : Env} {ρA : Operand → Option A} {ρ : Operand → Value}
theorem Fits.left {xs ys : List Operand} (h : Fits E ρA ρ (xs ++ ys)) : Fits E ρA ρ xs := fun x hx => h x (List.mem_append_left _ hx)
theorem Fits.right {xs ys : List Operand} (h : Fits E ρA ρ (xs ++ ys)) : Fits E ρA ρ ys := fun x hx => h x (List.mem_append_right _ hx)
theorem argsOf_is : ∀ {xs : List Operand} {as : List A}, Fits E ρA ρ xs → argsOf ρA xs = some as → All2 (A.Is E) as (xs.map ρ)
 | [], as, _, h => by simp only [argsOf, Option.some.injEq] at h; subst h; trivial
 | x :: xs, as, hf, h => by
  simp only [argsOf] at h
  split at h
  ·rename_i a as' h1 h2
   simp only [Option.some.injEq] at h; subst h
   exact ⟨hf x (by simp) a h1, argsOf_is (fun y hy => hf y (by simp [hy])) h2⟩
  ·cases h
theorem capsOf_is : ∀ {as : List A} {l : List (Nat × Nat × Nat × Nat)} {vs : List Value}, All2 (A.Is E) as vs → capsOf as = some l → All2 (ptrIs E) l vs
 | [], l, [], _, h => by simp only [capsOf, Option.some.injEq] at h; subst h; trivial
 | .one (.ptr id k m j) :: as, l, v :: vs, ha, h => by
  simp only [capsOf] at h
  split at h
  ·rename_i l' hl
   simp only [Option.some.injEq] at h; subst h
   exact ⟨ha.1, capsOf_is ha.2 hl⟩
  ·cases h
 | .one (.lit _) :: _, _, _, _, h => by simp [capsOf] at h
 | .one (.sl ..) :: _, _, _, _, h => by simp [capsOf] at h
 | .one (.fn ..) :: _, _, _, _, h => by simp [capsOf] at h
 | .one .any :: _, _, _, _, h => by simp [capsOf] at h
 | .agg _ :: _, _, _, _, h => by simp [capsOf] at h
 | .tup _ :: _, _, _, _, h => by simp [capsOf] at h
 | [], _, _ :: _, ha, _ => ha.elim
theorem one_of {E : Env} {a : A} {vs : List Value} (h : All2 (A.Is E) [a] vs) : ∃ v, vs = [v] ∧ a.Is E v := by
 match vs, h with
 | [v], ⟨h, _⟩ => exact ⟨v, rfl, h⟩
theorem capA_is : ∀ {l : List (Nat × Nat × Nat × Nat)} {vs : List Value}, All2 (ptrIs E) l vs → All2 (A.Is E) (l.map capA) vs
 | [], [], _ => trivial
 | _ :: _, _ :: _, h => ⟨h.1, capA_is h.2⟩
 | [], _ :: _, h => h.elim
 | _ :: _, [], h => h.elim
theorem litsOf_is : ∀ {cs : List C} {vs : List Value} {xs : List Value}, litsOf cs = some vs → All2 (C.Is E) cs xs → xs = vs ∧ ∀ v ∈ vs, v.oneCell' = true
 | [], vs, xs, h, ha => by
  simp only [litsOf, Option.some.injEq] at h
  subst h
  match xs, ha with
  | [], _ => exact ⟨rfl, by simp⟩
 | c :: cs, vs, [], h, ha => ha.elim
 | c :: cs, vs, x :: xs, h, ha => by
  unfold litsOf at h
  split at h
  ·rename_i e; cases e
  ·rename_i v cs' e
   obtain ⟨rfl, rfl⟩ := List.cons.inj e
   split at h
   ·rename_i vs' hv
    simp only [Option.some.injEq] at h
    subst h
    obtain ⟨rfl, h1⟩ := litsOf_is hv ha.2
    obtain ⟨rfl, h2⟩ := ha.1
    exact ⟨rfl, fun v hv => (List.mem_cons.1 hv).elim (fun e => e ▸ h2) fun hv => h1 v hv⟩
   ·cases h
  ·cases h
theorem firstOf_is {a : A} {p : Bool × List Value} {x : Value} (h : firstOf a = some p) (ha : a.Is E x) : x = firstV p ∧ ∀ v ∈ p.2, v.oneCell' = true := by
 unfold firstOf at h
 split at h
 ·rename_i v
  simp only [Option.some.injEq] at h
  subst h
  obtain ⟨rfl, h1⟩ := ha
  exact ⟨rfl, by simpa using h1⟩
 ·rename_i cs
  split at h
  ·rename_i vs hv
   simp only [Option.some.injEq] at h
   subst h
   obtain ⟨l, rfl, hl⟩ := ha
   obtain ⟨rfl, h1⟩ := litsOf_is hv hl
   exact ⟨rfl, h1⟩
  ·cases h
 ·cases h
theorem firstsOf_is : ∀ {as : List A} {ls : List (Bool × List Value)} {xs : List Value}, firstsOf as = some ls → All2 (A.Is E) as xs → xs = ls.map firstV ∧ ∀ p ∈ ls, ∀ v ∈ p.2, v.oneCell' = true
 | [], ls, xs, h, ha => by
  simp only [firstsOf, Option.some.injEq] at h
  subst h
  match xs, ha with
  | [], _ => exact ⟨rfl, by simp⟩
 | a :: as, ls, [], h, ha => ha.elim
 | a :: as, ls, x :: xs, h, ha => by
  unfold firstsOf at h
  split at h
  ·rename_i p ps hp hps
   simp only [Option.some.injEq] at h
   subst h
   obtain ⟨rfl, h1⟩ := firstOf_is hp ha.1
   obtain ⟨rfl, h2⟩ := firstsOf_is hps ha.2
   exact ⟨rfl, fun q hq => (List.mem_cons.1 hq).elim (fun e => e ▸ h1) fun hq => h2 q hq⟩
  ·cases h
theorem lits_is : ∀ {vs : List Value}, (∀ v ∈ vs, v.oneCell' = true) → All2 (C.Is E) (vs.map .lit) vs
 | [], _ => trivial
 | v :: vs, h => ⟨⟨rfl, h v (by simp)⟩, lits_is fun w hw => h w (by simp [hw])⟩
theorem firstA_is : ∀ {p : Bool × List Value}, (∀ v ∈ p.2, v.oneCell' = true) → (firstA p).Is E (firstV p)
 | (true, vs), h => ⟨vs, rfl, lits_is h⟩
 | (false, v :: _), h => ⟨rfl, h v (by simp)⟩
 | (false, []), _ => undefA_is E
theorem firstAs_is : ∀ {ls : List (Bool × List Value)}, (∀ p ∈ ls, ∀ v ∈ p.2, v.oneCell' = true) → All2 (A.Is E) (ls.map firstA) (ls.map firstV)
 | [], _ => trivial
 | p :: ls, h => ⟨firstA_is (h p (by simp)), firstAs_is fun q hq => h q (by simp [hq])⟩
theorem partsOf_is : ∀ {ps : List (Nat × Operand)} {qs : List (Nat × List C)}, Fits E ρA ρ (ps.map (·.2)) → partsOf ρA ps = some qs →
  All2 (fun (q : Nat × List C) (v : Nat × Value) => q.1 = v.1 ∧ All2 (C.Is E) q.2 v.2.cells.toList) qs (ps.map fun p => (p.1, ρ p.2))
 | [], qs, _, h => by simp only [partsOf, Option.some.injEq] at h; subst h; trivial
 | (i, x) :: ps, qs, hf, h => by
  simp only [partsOf] at h
  split at h
  ·rename_i a qs' h1 h2
   split at h
   ·rename_i cs hc
    simp only [Option.some.injEq] at h; subst h
    exact ⟨⟨rfl, (hf x (by simp) a h1).cells hc⟩, partsOf_is (fun y hy => hf y (by simp only [List.map_cons, List.mem_cons]; exact .inr hy)) h2⟩
   ·cases h
  ·cases h
end
theorem foldl_lay : ∀ (l : List Value) (off n : Nat) (cs : Array Value), off + n + l.length ≤ cs.size →
  (l.zipIdx n).foldl (fun cs (p : Value × Nat) => cs.setIfInBounds (off + p.2) p.1) cs = (cs.toList.take (off + n) ++ l ++ cs.toList.drop (off + n + l.length)).toArray
 | [], off, n, cs, _ => by simp
 | v :: l, off, n, cs, h => by
  simp only [List.zipIdx_cons, List.foldl_cons]
  rw [foldl_lay l off (n + 1) _ (by simp at h ⊢; omega)]
  have e := list_seg_step cs.toList (off + n) v l (by simp at h ⊢; omega)
  simpa [Array.toList_setIfInBounds, Nat.add_assoc] using congrArg List.toArray e
theorem fill_is {E : Env} {place : Nat → Option (Nat × Nat)} : ∀ {qs : List (Nat × List C)} {vs : List (Nat × Value)} {zs out : List C} {l : List Value},
  All2 (fun (q : Nat × List C) (v : Nat × Value) => q.1 = v.1 ∧ All2 (C.Is E) q.2 v.2.cells.toList) qs vs → All2 (C.Is E) zs l → fillC place zs qs = some out →
  ∃ l' : List Value, Instr.fill place l.toArray vs = some l'.toArray ∧ All2 (C.Is E) out l'
 | [], [], zs, out, l, _, hz, h => by
  simp only [fillC, Option.some.injEq] at h; subst h
  exact ⟨l, rfl, hz⟩
 | (i, cs) :: qs, (i', v) :: vs, zs, out, l, ha, hz, h => by
  obtain ⟨⟨he, hc⟩, ha⟩ := ha
  simp only at he; subst he
  simp only [fillC] at h
  split at h
  ·cases h
  ·rename_i off size hpl
   split at h
   ·rename_i hcond
    simp only [Bool.and_eq_true] at hcond
    have hs : cs.length = size := Nat.eq_of_beq_eq_true hcond.1
    have hle : off + cs.length ≤ zs.length := Nat.le_of_ble_eq_true hcond.2
    have hvs : v.cells.size = cs.length := by rw [hc.length]; simp
    have hz' : All2 (C.Is E) (zs.take off ++ cs ++ zs.drop (off + cs.length)) (l.take off ++ v.cells.toList ++ l.drop (off + v.cells.size)) :=
     ((hz.take off).append hc).append (by rw [hvs]; exact hz.drop _)
    obtain ⟨l', hl', ho⟩ := fill_is ha hz' h
    refine ⟨l', ?_, ho⟩
    simp only [Instr.fill, hpl]
    have hlz : l.length = zs.length := hz.length.symm
    rw [if_neg (by simp only [hvs, hs, List.size_toArray, Bool.or_eq_true, decide_eq_true_eq, ne_eq, not_true_eq_false, false_or]; omega)]
    rw [← hl']
    congr 1
    have := foldl_lay v.cells.toList off 0 l.toArray (by simp [hvs]; omega)
    simp only [Nat.add_zero, Array.length_toList] at this
    rw [← this, ← Array.foldl_toList]
    congr 1
    apply List.ext_getElem?
    intro j
    simp
   ·cases h
 | [], _ :: _, _, _, _, h, _, _ => h.elim
 | _ :: _, [], _, _, _, h, _, _ => h.elim
theorem zero?_is {t : TypeId} {cs : List C} (h : zero? P t = some cs) (E : Env) : ∃ z : Value, (∃ i, P.info? t = some i ∧ i.zero = some z) ∧ All2 (C.Is E) cs z.cells.toList := by
 unfold zero? at h
 split at h
 ·rename_i i hi
  split at h
  ·rename_i z hz
   split at h
   ·rename_i a ha
    exact ⟨z, ⟨i, hi, hz⟩, (ofVal_is ha).cells h⟩
   ·cases h
  ·cases h
 ·cases h
theorem zero?_run {t : TypeId} {z : Value} (h : ∃ i, P.info? t = some i ∧ i.zero = some z) (w : World) : (zeroValue t).run P w = .ok z w := by
 obtain ⟨i, hi, hz⟩ := h
 simp [zeroValue, typeInfo, hi, hz]
theorem repC_is {E : Env} {z : List C} {l : List Value} (h : All2 (C.Is E) z l) : ∀ n, All2 (C.Is E) (repC n z) (List.replicate n l).flatten
 | 0 => by simp [repC, All2]
 | n + 1 => by simp only [repC, List.replicate_succ, List.flatten_cons]; exact h.append (repC_is h n)
theorem rep_range (zs : Array Value) (n s : Nat) (hs : zs.size = s) (h0 : 0 < s) : (Array.range (n * s)).map (fun i => zs[i % zs.size]!) = ((List.replicate n zs.toList).flatten).toArray := by
 apply Array.ext'
 apply List.ext_getElem?
 intro i
 simp only [Array.toList_map, Array.toList_range, List.getElem?_map]
 have key : ∀ n i, (List.replicate n zs.toList).flatten[i]? = if i < n * s then zs[i % s]? else none := by
  intro n
  induction n with
  | zero => intro i; simp
  | succ n ih =>
   intro i
   simp only [List.replicate_succ, List.flatten_cons, List.getElem?_append, Array.length_toList, hs]
   split
   ·rename_i hi
    have : i < (n + 1) * s := by rw [Nat.add_mul]; omega
    rw [if_pos this, Nat.mod_eq_of_lt hi]; simp
   ·rename_i hi
    rw [ih]
    have e : (i - s) % s = i % s := by rw [Nat.mod_eq_sub_mod (a := i) (by omega)]
    rw [e]
    by_cases h1 : i - s < n * s
    ·rw [if_pos h1, if_pos (by rw [Nat.add_mul]; omega)]
    ·rw [if_neg h1, if_neg (by rw [Nat.add_mul]; omega)]
 rw [key]
 by_cases hi : i < n * s
 ·have hm : i % s < zs.size := by rw [hs]; exact Nat.mod_lt _ h0
  simp only [List.getElem?_range hi, Option.map_some, hs, if_pos hi]
  rw [getElem!_pos zs (i % s) hm, Array.getElem?_eq_getElem hm]
 ·simp [hi]
theorem eqGuard_lit (op : BinOp) (t : TypeId) (x y : Operand) {u v : Value} (hu : u.oneCell' = true) (hn : u = .nilIface → v = .nilIface → False) (w : World) : (eqGuard op t x y u v).run P w = .ok () w := by
 unfold eqGuard
 generalize (!match op with | .eql => true | .neq => true | _ => false) = b
 cases b
 ·simp only [Bool.false_eq_true, if_false]
  split
  ·exact (hn rfl rfl).elim
  ·cases hu
  ·rfl
 ·rfl
theorem fltA_all {k : FloatKind} {x : Option Nat} {s : Sem Value} {a : A} (h : (fltA k x).run = some a) (hs : ∀ r, x = some r → s = pure (.float k r)) (E : Env) : ∃ r, (∀ w, s.run P w = .ok r w) ∧ a.Is E r := by
 unfold fltA at h
 obtain ⟨hb, h⟩ := Tree.need_some h
 simp only [Tree.run, Option.some.injEq] at h; subst h
 cases x with
 | none => cases hb
 | some r => exact ⟨.float k r, fun w => by rw [hs r rfl]; rfl, rfl, rfl⟩
theorem fltC_all {b : Bool} {s : Sem Value} {a : A} (h : (fltC b).run = some a) (hs : s = pure (.bool b)) (E : Env) : ∃ r, (∀ w, s.run P w = .ok r w) ∧ a.Is E r := by
 unfold fltC at h
 simp only [Tree.run, Option.some.injEq] at h; subst h
 exact ⟨.bool b, fun w => by rw [hs]; rfl, rfl, rfl⟩
theorem fltBin_all {op : BinOp} {t : TypeId} {k k' : FloatKind} {x y : Nat} {a : A} (h : (fltBin op k k' x y).run = some a) (E : Env) :
  ∃ r, (∀ w, (binOp op t (.float k x) (.float k' y)).run P w = .ok r w) ∧ a.Is E r := by
 unfold fltBin at h
 split at h
 ·rename_i hk
  have hk := of_decide_eq_true hk
  subst hk
  unfold fltOp at h
  split at h
  ·exact fltA_all h (fun r hr => by simp [binOp, Op.floatArith, hr]) E
  ·exact fltA_all h (fun r hr => by simp [binOp, Op.floatArith, hr]) E
  ·exact fltA_all h (fun r hr => by simp [binOp, Op.floatArith, hr]) E
  ·exact fltA_all h (fun r hr => by simp [binOp, Op.floatArith, hr]) E
  ·exact fltC_all h (by simp [binOp, Op.floatCmp]) E
  ·exact fltC_all h (by simp [binOp, Op.floatCmp]) E
  ·exact fltC_all h (by simp [binOp, Op.floatCmp]) E
  ·exact fltC_all h (by simp [binOp, Op.floatCmp]) E
  ·exact fltC_all h (by simp [binOp, Op.floatCmp]) E
  ·exact fltC_all h (by simp [binOp, Op.floatCmp]) E
  ·cases h
 ·cases h
theorem convA_all {s d : TypeId} {v : Value} {a : A} (h : (convA P s d v).run = some a) (E : Env) : ∃ r, (∀ w, (convert s d v).run P w = .ok r w) ∧ a.Is E r := by
 unfold convA at h
 split at h
 ·rename_i k b
  split at h
  ·rename_i fk i hs hd
   obtain ⟨hb, h⟩ := Tree.need_some h
   simp only [Tree.run, Option.some.injEq] at h; subst h
   simp only [Bool.and_eq_true, decide_eq_true_eq] at hb
   obtain ⟨h1, h2, h3⟩ := hb
   cases hz : (k.decode b).toInt .zero with
   | none => rw [hz] at h1; cases h1
   | some z =>
    rw [hz] at h2 h3
    simp only [Option.getD_some] at h2 h3
    refine ⟨.int i z, fun w => ?_, rfl, rfl⟩
    simp only [convert, Sem.run_bind, run_underlying hs w, run_underlying hd w, Result.andThen_ok, Conv.floatToInt, hz, if_pos (And.intro h2 h3)]
    rfl
  ·rename_i fk k' hs hd
   split at h
   ·rename_i hk
    have hk := of_decide_eq_true hk
    subst hk
    simp only [Tree.run, Option.some.injEq] at h; subst h
    refine ⟨.float k b, fun w => ?_, rfl, rfl⟩
    simp only [convert, Sem.run_bind, run_underlying hs w, run_underlying hd w, Result.andThen_ok, Conv.floatToFloat, if_pos]
    rfl
   ·rename_i hk
    have hk := of_decide_eq_false hk
    obtain ⟨hb, h⟩ := Tree.need_some h
    simp only [Tree.run, Option.some.injEq] at h; subst h
    simp only [Bool.and_eq_true, Bool.not_eq_true'] at hb
    obtain ⟨h1, h2⟩ := hb
    cases hz : k.decode b with
    | number sg m e =>
     rw [hz] at h2
     refine ⟨.float k' (k'.encode (.number sg m e)), fun w => ?_, rfl, rfl⟩
     simp only [convert, Sem.run_bind, run_underlying hs w, run_underlying hd w, Result.andThen_ok, Conv.floatToFloat, if_neg hk, hz, h2]
     rfl
    | nan sg p => rw [hz] at h1; cases h1
    | infinity sg => rw [hz] at h1; cases h1
  ·cases h
 ·exact pureC_all h E
theorem binLit_all {op : BinOp} {t : TypeId} {u v : Value} {a : A} (h : (binLit P op t u v).run = some a) (E : Env) (x y : Operand) (hu : u.oneCell' = true) :
  ∃ r, (∀ w, (do eqGuard op t x y u v; binOp op t u v : Sem Value).run P w = .ok r w) ∧ a.Is E r := by
 have hg : (∃ b, u = .agg b) → False := by rintro ⟨b, rfl⟩; cases hu
 unfold binLit at h
 split at h
 ·rename_i k n k' n'
  unfold divA at h
  split at h
  ·rename_i hk
   have hk : k = k' := by simpa using hk
   subst hk
   simp only at h
   obtain ⟨hb, h⟩ := Tree.need_some h
   simp only [Tree.run, Option.some.injEq] at h; subst h
   have hb : n' ≠ 0 := by simpa using hb
   exact ⟨_, fun w => (by simp [eqGuard, binOp, Op.intDiv, hb]), rfl, rfl⟩
  ·cases h
 ·rename_i k n k' n'
  unfold divA at h
  split at h
  ·rename_i hk
   have hk : k = k' := by simpa using hk
   subst hk
   simp only at h
   obtain ⟨hb, h⟩ := Tree.need_some h
   simp only [Tree.run, Option.some.injEq] at h; subst h
   have hb : n' ≠ 0 := by simpa using hb
   exact ⟨_, fun w => (by simp [eqGuard, binOp, Op.intDiv, hb]), rfl, rfl⟩
  ·cases h
 ·rename_i a b
  obtain ⟨hn, h⟩ := Tree.need_some h
  simp only [Tree.run, Option.some.injEq] at h; subst h
  have hn := Nat.le_of_ble_eq_true hn
  have hc : ¬ (((a.size + b.size : Nat) : Int) > IntKind.i64.max) := by
   show ¬ (((a.size + b.size : Nat) : Int) > 9223372036854775807)
   omega
  exact ⟨.string (a ++ b), fun w => (by simp only [eqGuard, binOp, Op.stringOp, Sem.run_bind, Sem.run_pure, if_neg hc]; rfl), rfl, rfl⟩
 ·cases h
 ·rename_i k a k' b
  obtain ⟨r, hr, hi⟩ := fltBin_all (P := P) (t := t) h E
  refine ⟨r, fun w => ?_, hi⟩
  have hgd := eqGuard_lit (P := P) op t x y (v := .float k' b) hu (fun e => by cases e) w
  simp only [Sem.run_bind, hgd, Result.andThen_ok, hr]
 ·obtain ⟨r, hr, hi⟩ := pureC_all h E
  refine ⟨r, fun w => ?_, hi⟩
  have hnil : u = .nilIface → v = .nilIface → False := by assumption
  have hgd := eqGuard_lit (P := P) op t x y hu hnil w
  simp only [Sem.run_bind, hgd, Result.andThen_ok, hr]
theorem binLit_run {op : BinOp} {t : TypeId} {u v : Value} {a : A} (h : (binLit P op t u v).run = some a) (E : Env) (w : World) (x y : Operand) (hu : u.oneCell' = true) :
  ∃ r, (do eqGuard op t x y u v; binOp op t u v : Sem Value).run P w = .ok r w ∧ a.Is E r := let ⟨r, h1, h2⟩ := binLit_all h E x y hu; ⟨r, h1 w, h2⟩
theorem eqAgg_run {t : TypeId} {xs ys : List C} {r : Bool} (h : eqAgg P t xs ys = some r) {E : Env} {l l' : List Value} (hx : All2 (C.Is E) xs l) (hy : All2 (C.Is E) ys l') (w : World) (op : BinOp) (x y : Operand) :
  (eqGuard op t x y (.agg l.toArray) (.agg l'.toArray)).run P w = .ok () w ∧ (Op.equal t (.agg l.toArray) (.agg l'.toArray)).run P w = .ok r w := by
 unfold eqAgg at h
 split at h
 ·rename_i hg ha
  exact ⟨run_eqGuard_agg w op t x y _ _ hg, eqT_ok 20 Op.maxDepth (by unfold Op.maxDepth; omega) t xs ys r h E l l' _ _ true w hx hy ha rfl rfl⟩
 ·cases h
theorem run_equalIn_nilS (w : World) (d : Nat) (t e : TypeId) (a : Addr) (n c n' c' : Nat) (h : P.underlying t = some (.slice e)) : (Op.equalIn (d + 1) t (.slice (some a) n c) (.slice none n' c')).run P w = .ok false w := by
 simp [Op.equalIn, run_underlying h]
theorem run_eql_nilS (w : World) (t e : TypeId) (a : Addr) (n c : Nat) {n' c' : Nat} (h : P.underlying t = some (.slice e)) : (binOp .eql t (.slice (some a) n c) (.slice none n' c')).run P w = .ok (.bool false) w := by
 simp only [binOp]
 simp [Op.equal, Op.maxDepth, run_equalIn_nilS w 9999 t e a n c n' c' h]
theorem run_neq_nilS (w : World) (t e : TypeId) (a : Addr) (n c : Nat) {n' c' : Nat} (h : P.underlying t = some (.slice e)) : (binOp .neq t (.slice (some a) n c) (.slice none n' c')).run P w = .ok (.bool true) w := by
 simp only [binOp]
 simp [Op.equal, Op.maxDepth, run_equalIn_nilS w 9999 t e a n c n' c' h]
theorem binary_all {op : BinOp} {t : TypeId} {u v a : A} (h : (binary P op t u v).run = some a) {E : Env} {p q : Value} (hu : u.Is E p) (hv : v.Is E q) (x y : Operand) :
  ∃ r, (∀ w, (do eqGuard op t x y p q; binOp op t p q : Sem Value).run P w = .ok r w) ∧ a.Is E r := by
 unfold binary at h
 split at h
 ·obtain ⟨rfl, hp1⟩ := hu
  obtain ⟨rfl, _⟩ := hv
  exact binLit_all h E x y hp1
 ·obtain ⟨l, rfl, hl⟩ := hu
  obtain ⟨l', rfl, hl'⟩ := hv
  split at h
  ·rename_i r hr
   have hh := fun w => eqAgg_run hr hl hl' w op x y
   split at h
   ·simp only [Tree.run, Option.some.injEq] at h; subst h
    refine ⟨.bool r, fun w => ?_, rfl, rfl⟩
    obtain ⟨h1, h2⟩ := hh w
    simp only [Sem.run_bind, h1, Result.andThen_ok, binOp, h2, Sem.run_pure]
   ·simp only [Tree.run, Option.some.injEq] at h; subst h
    refine ⟨.bool (!r), fun w => ?_, rfl, rfl⟩
    obtain ⟨h1, h2⟩ := hh w
    simp only [Sem.run_bind, h1, Result.andThen_ok, binOp, h2, Sem.run_pure]
   ·cases h
  ·cases h
 ·obtain ⟨rfl, _⟩ := hv
  split at h
  ·rename_i hu'
   obtain ⟨hn, h⟩ := Tree.need_some h
   obtain ⟨b, s, o, cap, hE, rfl, _⟩ := sl_some hu (by simpa [Nat.blt_eq] using hn)
   have hu := hu'
   simp only [Tree.run, Option.some.injEq] at h; subst h
   refine ⟨.bool false, fun w => ?_, rfl, rfl⟩
   simp only [Sem.run_bind, eqGuard_lit .eql t x y (u := .slice (some ⟨b, o, none⟩) _ cap) (v := .slice none _ _) rfl (fun h => by cases h) w, Result.andThen_ok, run_eql_nilS w t _ _ _ _ hu]
  ·rename_i hu'
   obtain ⟨hn, h⟩ := Tree.need_some h
   obtain ⟨b, s, o, cap, hE, rfl, _⟩ := sl_some hu (by simpa [Nat.blt_eq] using hn)
   have hu := hu'
   simp only [Tree.run, Option.some.injEq] at h; subst h
   refine ⟨.bool true, fun w => ?_, rfl, rfl⟩
   simp only [Sem.run_bind, eqGuard_lit .neq t x y (u := .slice (some ⟨b, o, none⟩) _ cap) (v := .slice none _ _) rfl (fun h => by cases h) w, Result.andThen_ok, run_neq_nilS w t _ _ _ _ hu]
  ·cases h
 ·cases h
theorem binary_run {op : BinOp} {t : TypeId} {u v a : A} (h : (binary P op t u v).run = some a) {E : Env} {p q : Value} (hu : u.Is E p) (hv : v.Is E q) (w : World) (x y : Operand) :
  ∃ r, (do eqGuard op t x y p q; binOp op t p q : Sem Value).run P w = .ok r w ∧ a.Is E r := let ⟨r, h1, h2⟩ := binary_all h hu hv x y; ⟨r, h1 w, h2⟩
theorem max2A_run {E : Env} {x y z : A} {u v : Value} (h : max2A x y = some z) (hx : x.Is E u) (hy : y.Is E v) (w : World) : ∃ r, (Builtin.max2 u v).run P w = .ok r w ∧ z.Is E r := by
 unfold max2A at h
 split at h
 ·simp only [Option.some.injEq] at h; subst h
  obtain ⟨rfl, _⟩ := hx
  obtain ⟨rfl, _⟩ := hy
  exact ⟨_, rfl, rfl, rfl⟩
 ·cases h
theorem maxA_run {E : Env} : ∀ {ys : List A} {x z : A} {u : Value} {vs : List Value}, maxA x ys = some z → x.Is E u → All2 (A.Is E) ys vs → ∀ w, ∃ r, (vs.foldlM Builtin.max2 u).run P w = .ok r w ∧ z.Is E r
 | [], x, z, u, [], h, hx, _, w => by simp only [maxA, Option.some.injEq] at h; subst h; exact ⟨u, rfl, hx⟩
 | y :: ys, x, z, u, v :: vs, h, hx, hy, w => by
  simp only [maxA] at h
  split at h
  ·rename_i z' hz
   obtain ⟨r, hr, hi⟩ := max2A_run (P := P) hz hx hy.1 w
   obtain ⟨r2, hr2, hi2⟩ := maxA_run h hi hy.2 w
   exact ⟨r2, by simp [List.foldlM_cons, Sem.run_bind, hr, hr2], hi2⟩
  ·cases h
 | [], _, _, _, _ :: _, _, _, h, _ => h.elim
 | _ :: _, _, _, _, [], _, _, h, _ => h.elim
theorem min2A_run {E : Env} {x y z : A} {u v : Value} (h : min2A x y = some z) (hx : x.Is E u) (hy : y.Is E v) (w : World) : ∃ r, (Builtin.min2 u v).run P w = .ok r w ∧ z.Is E r := by
 unfold min2A at h
 split at h
 ·simp only [Option.some.injEq] at h; subst h
  obtain ⟨rfl, _⟩ := hx
  obtain ⟨rfl, _⟩ := hy
  exact ⟨_, rfl, rfl, rfl⟩
 ·cases h
theorem minA_run {E : Env} : ∀ {ys : List A} {x z : A} {u : Value} {vs : List Value}, minA x ys = some z → x.Is E u → All2 (A.Is E) ys vs → ∀ w, ∃ r, (vs.foldlM Builtin.min2 u).run P w = .ok r w ∧ z.Is E r
 | [], x, z, u, [], h, hx, _, w => by simp only [minA, Option.some.injEq] at h; subst h; exact ⟨u, rfl, hx⟩
 | y :: ys, x, z, u, v :: vs, h, hx, hy, w => by
  simp only [minA] at h
  split at h
  ·rename_i z' hz
   obtain ⟨r, hr, hi⟩ := min2A_run (P := P) hz hx hy.1 w
   obtain ⟨r2, hr2, hi2⟩ := minA_run h hi hy.2 w
   exact ⟨r2, by simp [List.foldlM_cons, Sem.run_bind, hr, hr2], hi2⟩
  ·cases h
 | [], _, _, _, _ :: _, _, _, h, _ => h.elim
 | _ :: _, _, _, _, [], _, _, h, _ => h.elim
end
end Go.Ev
namespace Go.Ev
open Go
section
variable {P : Program} {E : Env} {ρA : Operand → Option A} {ρ : Operand → Value} {h : Hp} {w : World}
def Left (E : Env) (h : Hp) (w : World) (v : A) (h' : Hp) (x : Value) (w' : World) : Prop := ∃ E', v.Is E' x ∧ Stp E h w E' h' w'
theorem Left.same (r : RH E h w) {v : A} {x : Value} (hx : v.Is E x) : Left E h w v h x w := ⟨E, hx, Stp.refl r⟩
theorem intOf?_is {a : A} {n : Int} {x : Value} (h : intOf? a = some n) (ha : a.Is E x) : ∃ k, x = .int k n := by
 unfold intOf? at h
 split at h
 ·rename_i k m
  simp only [Option.some.injEq] at h; subst h
  exact ⟨k, ha.1⟩
 ·cases h
theorem lenA_all {t : TypeId} {x : A} {v : A} {p : Value} (hl : (lenA P t x).run = some v) (hx : x.Is E p) (ty : TypeId) : ∃ r, (∀ w, (Builtin.len_ #[t] ty #[p]).run P w = .ok r w) ∧ v.Is E r := by
 unfold lenA at hl
 split at hl
 ·obtain ⟨rfl, _⟩ := hx
  split at hl
  ·rename_i hu
   simp only [Tree.run, Option.some.injEq] at hl; subst hl
   exact ⟨_, fun w => by simp [Builtin.len_, run_underlying hu], rfl, rfl⟩
  ·cases hl
 ·obtain ⟨rfl, _⟩ := hx
  split at hl
  ·rename_i hu
   simp only [Tree.run, Option.some.injEq] at hl; subst hl
   exact ⟨_, fun w => by simp [Builtin.len_, run_underlying hu], rfl, rfl⟩
  ·cases hl
 ·split at hl
  ·rename_i hu
   simp only [Tree.run, Option.some.injEq] at hl; subst hl
   rcases hx with ⟨b, s, o, cap, _, rfl, _⟩ | ⟨_, rfl, rfl⟩
   ·exact ⟨_, fun w => by simp [Builtin.len_, run_underlying hu], rfl, rfl⟩
   ·exact ⟨_, fun w => by simp [Builtin.len_, run_underlying hu], rfl, rfl⟩
  ·cases hl
 ·obtain ⟨l, rfl, _⟩ := hx
  split at hl
  ·rename_i hu
   simp only [Tree.run, Option.some.injEq] at hl; subst hl
   exact ⟨_, fun w => by simp [Builtin.len_, run_underlying hu], rfl, rfl⟩
  ·cases hl
 ·cases hl
theorem lenA_run {t : TypeId} {x : A} {v : A} {p : Value} (hl : (lenA P t x).run = some v) (hx : x.Is E p) (ty : TypeId) : ∃ r, (Builtin.len_ #[t] ty #[p]).run P w = .ok r w ∧ v.Is E r :=
 let ⟨r, h1, h2⟩ := lenA_all (P := P) hl hx ty; ⟨r, h1 w, h2⟩
theorem flat_take {cs : List C} {arr : Array Value} {off n : Nat} (hb : (Body.flat cs).Is E arr) (hle : off + n ≤ cs.length) :
  All2 (C.Is E) ((cs.drop off).take n) ((arr.toList.drop off).take n) ∧ ((arr.toList.drop off).take n).length = n ∧ off + n ≤ arr.size := by
 have hsz : ∀ i, i < cs.length → i < arr.size := fun i hi => by
  obtain ⟨x, hx, _⟩ := hb i cs[i] (by rw [nth_eq]; simp [hi])
  exact (Array.getElem?_eq_some_iff.1 hx).1
 have hle2 : off + n ≤ arr.size := by
  rcases Nat.eq_zero_or_pos (off + n) with h0 | h0
  ·omega
  ·have := hsz (off + n - 1) (by omega); omega
 have hl : ((arr.toList.drop off).take n).length = n := by simp; omega
 refine ⟨All2.of_get (by rw [hl]; simp; omega) fun i c hc => ?_, hl, hle2⟩
 rw [nth_eq, List.getElem?_take] at hc
 split at hc
 ·rename_i hi
  rw [List.getElem?_drop] at hc
  obtain ⟨x, hx, hcx⟩ := hb (off + i) c (by rw [nth_eq]; exact hc)
  exact ⟨x, by rw [List.getElem?_take, if_pos hi, List.getElem?_drop]; simpa using hx, hcx⟩
 ·cases hc
theorem own_flat {e : TypeId} {size n : Nat} {v' : Value} {w' : World} {news : List Value} (hown : w'.ownsRow 0 e size v' n news) (hn : 0 < n) :
  ∃ g cap cur, v' = .slice (some ⟨g, 0, none⟩) n cap ∧ w'.heap[g]? = some (.cells cur e (0, 0)) ∧ n ≤ cap ∧ cap ≤ maxLen ∧ cur.size = cap * size ∧ cur.toList.take (n * size) = news ∧ news.length = n * size := by
 rcases hown.2 with ⟨_, h0⟩ | ⟨g, cap, cur, e1, _, e2, e3, e4, e5, e6⟩
 ·omega
 ·exact ⟨g, cap, cur, e1, e2, e3, e4, e5, e6, hown.1⟩
theorem flat_of_take {cs : List C} {cur : Array Value} {l : List Value} {n : Nat} (ha : All2 (C.Is E) cs l) (ht : cur.toList.take n = l) : (Body.flat cs).Is E cur := fun i c hc => by
 obtain ⟨x, hx, hi⟩ := ha.get i c hc
 rw [← ht, List.getElem?_take] at hx
 split at hx
 ·exact ⟨x, by simpa using hx, hi⟩
 ·cases hx
theorem mul_lt_row {k n1 L j : Nat} (hk : k < n1) (hj : j < L) : k * L + j < n1 * L := by
 have : (k + 1) * L ≤ n1 * L := Nat.mul_le_mul_right L hk
 rw [Nat.add_mul, Nat.one_mul] at this
 omega
theorem rows_len {n n1 : Nat} {cols : List Col} {arr : Array Value} (hb : (Body.rows n cols).Is E arr) (hn : n1 ≤ n) (hc : 0 < cols.length) : n1 * cols.length ≤ arr.size := by
 rcases Nat.eq_zero_or_pos n1 with h0 | h0
 ·subst h0; simp
 ·obtain ⟨c, hcc⟩ : ∃ c, nth cols (cols.length - 1) = some c := ⟨cols[cols.length - 1], by rw [nth_eq]; exact List.getElem?_eq_getElem (by omega)⟩
  obtain ⟨x, hx, _⟩ := hb (n1 - 1) (cols.length - 1) c (by omega) hcc
  have h1 := (Array.getElem?_eq_some_iff.1 hx).1
  have h2 : (n1 - 1 + 1) * cols.length = (n1 - 1) * cols.length + cols.length := by rw [Nat.add_mul, Nat.one_mul]
  rw [show n1 - 1 + 1 = n1 by omega] at h2
  omega
theorem rows_append {n n1 : Nat} {cols cols' : List Col} {arr cur : Array Value} {xs : List C} {news : List Value} (hb : (Body.rows n cols).Is E arr) (hn : n1 ≤ n) (hp : putCols cols n1 xs = some cols') (hx : All2 (C.Is E) xs news)
  (ht : cur.toList.take ((n1 + 1) * cols.length) = arr.toList.take (n1 * cols.length) ++ news) (hl : n1 * cols.length ≤ arr.size) : (Body.rows (n1 + 1) cols').Is E cur := by
 intro k j c' hk hj'
 obtain ⟨l1, l2, l3⟩ := putCols_spec hp
 obtain ⟨c, x, hc, hx0, hput⟩ := l3 j c' hj'
 obtain ⟨p1, p2⟩ := col_put hput
 have hj := nth_lt hc
 have hi := mul_lt_row hk hj
 have hcur : cur[k * cols.length + j]? = (arr.toList.take (n1 * cols.length) ++ news)[k * cols.length + j]? := by
  rw [← ht, List.getElem?_take, if_pos hi]; simp
 rw [l1, hcur]
 have hll : (arr.toList.take (n1 * cols.length)).length = n1 * cols.length := by simp; omega
 by_cases ek : k = n1
 ·subst ek
  rw [List.getElem?_append_right (by omega), hll, Nat.add_sub_cancel_left, p1]
  obtain ⟨y, hy, hi⟩ := hx.get j x hx0
  exact ⟨y, hy, hi⟩
 ·have hk1 : k < n1 := by omega
  have hi1 := mul_lt_row hk1 hj
  rw [List.getElem?_append_left (by omega), List.getElem?_take, if_pos hi1, p2 k ek]
  obtain ⟨y, hy, hi⟩ := hb k j c (by omega) hc
  exact ⟨y, by simpa using hy, hi⟩
theorem col_up {k : Nat} (c : Col) (i : Nat) : (c.up k).at i = c.at (i + k) := by cases c <;> rfl
theorem col_behind {n : Nat} (c : Col) (i : Nat) : (c.behind n).at i = c.at (i - n) := by cases c <;> rfl
theorem catF_lo {α : Type} {n : Nat} (f g : Nat → α) {i : Nat} (h : i < n) : catF n f g i = f i := by
 unfold catF
 rw [show Nat.blt i n = true by rw [Nat.blt_eq]; exact h]
theorem catF_hi {α : Type} {n : Nat} (f g : Nat → α) {i : Nat} (h : n ≤ i) : catF n f g i = g (i - n) := by
 unfold catF
 have : Nat.blt i n = false := by
  cases hb : Nat.blt i n with
  | false => rfl
  | true => rw [Nat.blt_eq] at hb; omega
 rw [this]
theorem col_cat {n : Nat} {c d x : Col} (h : c.cat n d = some x) : (∀ i, i < n → x.at i = c.at i) ∧ ∀ i, n ≤ i → x.at i = d.at (i - n) := by
 unfold Col.cat at h
 split at h
 ·split at h
  ·rename_i hk
   have hk := of_decide_eq_true hk
   subst hk
   injection h with h; subst h
   exact ⟨fun i hi => by simp [Col.at, catF_lo _ _ hi], fun i hi => by simp [Col.at, catF_hi _ _ hi]⟩
  ·cases h
 ·injection h with h; subst h
  exact ⟨fun i hi => by simp [Col.at, catF_lo _ _ hi], fun i hi => by simp [Col.at, catF_hi _ _ hi]⟩
 ·injection h with h; subst h
  exact ⟨fun i hi => by simp [Col.at, catF_lo _ _ hi], fun i hi => by simp [Col.at, catF_hi _ _ hi]⟩
 ·split at h
  ·rename_i hk
   have hk := of_decide_eq_true hk
   subst hk
   injection h with h; subst h
   exact ⟨fun i hi => by simp [Col.at, catF_lo _ _ hi], fun i hi => by simp [Col.at, catF_hi _ _ hi]⟩
  ·cases h
 ·cases h
theorem catCols_spec {n : Nat} : ∀ {cs ds xs : List Col}, catCols n cs ds = some xs → xs.length = cs.length ∧ ds.length = cs.length ∧ ∀ j x, nth xs j = some x → ∃ c d, nth cs j = some c ∧ nth ds j = some d ∧ (∀ i, i < n → x.at i = c.at i) ∧ ∀ i, n ≤ i → x.at i = d.at (i - n)
 | [], [], xs, h => by
  simp only [catCols, Option.some.injEq] at h
  subst h
  exact ⟨rfl, rfl, fun j x hx => by simp [nth] at hx⟩
 | c :: cs, d :: ds, xs, h => by
  simp only [catCols] at h
  split at h
  ·rename_i y ys h1 h2
   injection h with h; subst h
   obtain ⟨l1, l2, l3⟩ := catCols_spec h2
   obtain ⟨a1, a2⟩ := col_cat h1
   refine ⟨by simp [l1], by simp [l2], fun j x hx => ?_⟩
   cases j with
   | zero =>
    simp only [nth, Option.some.injEq] at hx
    subst hx
    exact ⟨c, d, rfl, rfl, a1, a2⟩
   | succ j => exact l3 j x hx
  ·cases h
 | [], _ :: _, _, h => by cases h
 | _ :: _, [], _, h => by cases h
theorem nth_take {α : Type} {l : List α} {n i : Nat} {a : α} (h : nth (l.take n) i = some a) : nth l i = some a := by
 rw [nth_eq, List.getElem?_take] at h
 split at h
 ·rw [nth_eq]; exact h
 ·cases h
theorem nth_drop {α : Type} {l : List α} {n i : Nat} : nth (l.drop n) i = nth l (n + i) := by rw [nth_eq, nth_eq, List.getElem?_drop]
theorem nth_map {α β : Type} {f : α → β} {l : List α} {i : Nat} : nth (l.map f) i = (nth l i).map f := by rw [nth_eq, nth_eq, List.getElem?_map]
theorem putRows_spec : ∀ {r i : Nat} {cols cols' : List Col} {cs : List C}, putRows r i cols cs = some cols' → cols'.length = cols.length ∧ ∀ j c', nth cols' j = some c' → ∃ c, nth cols j = some c ∧
  (∀ k, (k < i ∨ i + r ≤ k) → c'.at k = c.at k) ∧ ∀ k, k < r → ∃ x, nth cs (k * cols.length + j) = some x ∧ c'.at (i + k) = x
 | 0, i, cols, cols', cs, h => by
  simp only [putRows, Option.some.injEq] at h
  subst h
  exact ⟨rfl, fun j c' hc => ⟨c', hc, fun _ _ => rfl, fun k hk => by omega⟩⟩
 | r + 1, i, cols, cols', cs, h => by
  simp only [putRows] at h
  split at h
  ·rename_i cols1 h1
   obtain ⟨l1, l2, l3⟩ := putCols_spec h1
   obtain ⟨m1, m2⟩ := putRows_spec h
   refine ⟨m1.trans l1, fun j c' hc => ?_⟩
   obtain ⟨c1, hc1, a1, a2⟩ := m2 j c' hc
   obtain ⟨c, x, hc0, hx, hp⟩ := l3 j c1 hc1
   obtain ⟨p1, p2⟩ := col_put hp
   refine ⟨c, hc0, fun k hk => ?_, fun k hk => ?_⟩
   ·rw [a1 k (by omega), p2 k (by omega)]
   ·cases k with
    | zero => exact ⟨x, by rw [Nat.zero_mul, Nat.zero_add]; exact nth_take hx, by rw [Nat.add_zero, a1 i (by omega), p1]⟩
    | succ k =>
     obtain ⟨y, hy, he⟩ := a2 k (by omega)
     rw [nth_drop, l1] at hy
     exact ⟨y, by rw [show (k + 1) * cols.length + j = cols.length + (k * cols.length + j) by rw [Nat.add_mul, Nat.one_mul]; omega]; exact hy, by rw [show i + (k + 1) = i + 1 + k by omega]; exact he⟩
  ·cases h
def ListIs (E : Env) (n : Nat) (cols : List Col) (l : List Value) : Prop := ∀ k j c, k < n → nth cols j = some c → ∃ x, l[k * cols.length + j]? = some x ∧ (c.at k).Is E x
theorem ListIs.rows {n : Nat} {cols : List Col} {l : List Value} {cur : Array Value} (h : ListIs E n cols l) (ht : cur.toList.take l.length = l) : (Body.rows n cols).Is E cur := fun k j c hk hj => by
 obtain ⟨x, hx, hi⟩ := h k j c hk hj
 refine ⟨x, ?_, hi⟩
 rw [← ht, List.getElem?_take] at hx
 split at hx
 ·simpa using hx
 ·cases hx
theorem ListIs.one {n : Nat} {cols : List Col} {l : List Value} (h : ListIs E n cols l) (hl : l.length = n * cols.length) : ∀ v ∈ l, v.oneCell' = true := fun v hv => by
 obtain ⟨i, hi, he⟩ := List.getElem_of_mem hv
 have h0 : 0 < cols.length := by
  rcases Nat.eq_zero_or_pos cols.length with e | e
  ·rw [e] at hl; omega
  ·exact e
 have hj : i % cols.length < cols.length := Nat.mod_lt _ h0
 have hk : i / cols.length < n := (Nat.div_lt_iff_lt_mul h0).2 (by omega)
 obtain ⟨x, hx, hc⟩ := h (i / cols.length) (i % cols.length) cols[i % cols.length] hk (by rw [nth_eq]; exact List.getElem?_eq_getElem hj)
 rw [Nat.mul_comm, Nat.div_add_mod, List.getElem?_eq_getElem hi] at hx
 injection hx with hx
 rw [← he, hx]
 exact hc.oneCell
theorem rows_take {n n' k0 : Nat} {cols : List Col} {arr : Array Value} (hb : (Body.rows n' cols).Is E arr) (hn : k0 + n ≤ n') (h0 : 0 < cols.length) :
  ListIs E n (cols.map (Col.up k0)) ((arr.toList.drop (k0 * cols.length)).take (n * cols.length)) ∧ ((arr.toList.drop (k0 * cols.length)).take (n * cols.length)).length = n * cols.length := by
 have hsz := rows_len hb hn h0
 rw [Nat.add_mul] at hsz
 refine ⟨fun k j c hk hj => ?_, by simp; omega⟩
 rw [nth_map] at hj
 cases hc : nth cols j with
 | none => rw [hc] at hj; cases hj
 | some c0 =>
  rw [hc] at hj
  simp only [Option.map_some, Option.some.injEq] at hj
  subst hj
  obtain ⟨x, hx, hi⟩ := hb (k + k0) j c0 (by omega) hc
  refine ⟨x, ?_, by rw [col_up]; exact hi⟩
  have hjl := nth_lt hc
  have := mul_lt_row hk hjl
  rw [List.length_map, List.getElem?_take, if_pos this, List.getElem?_drop, Array.getElem?_toList, ← hx]
  congr 1
  rw [Nat.add_mul]; omega
theorem flat_get {cs : List C} {arr : Array Value} {i : Nat} {c : C} (hb : (Body.flat cs).Is E arr) (h : nth cs i = some c) : ∃ x, arr.toList[i]? = some x ∧ c.Is E x := by
 obtain ⟨x, hx, hi⟩ := hb i c h
 exact ⟨x, by simpa using hx, hi⟩
theorem run_append_none {w : World} {t ty e : TypeId} {i : TypeInfo} (ht : P.underlying t = some (.slice e)) (hi : P.info? e = some i) {b : Option Addr} {n cap n' c' : Nat} (hn : n ≤ cap) (hn' : n' = 0) :
  (Builtin.append_ #[t, t] ty #[.slice b n cap, .slice none n' c']).run P w = .ok (.slice b n cap) w := by
 subst hn'
 cases b <;> simp [Builtin.append_, run_underlying ht, sizeOf, typeInfo, hi, Builtin.lenOf, Builtin.firstCells, storeCells, hn]
theorem run_append_zero {w : World} {t ty e : TypeId} {i : TypeInfo} (ht : P.underlying t = some (.slice e)) (hi : P.info? e = some i) {b b2 : Option Addr} {n cap n' c' : Nat} (hn : n ≤ cap) (hn' : n' = 0) :
  (Builtin.append_ #[t, t] ty #[.slice b n cap, .slice b2 n' c']).run P w = .ok (.slice b n cap) w := by
 subst hn'
 cases b <;> cases b2 <;> simp [Builtin.append_, run_underlying ht, sizeOf, typeInfo, hi, Builtin.lenOf, Builtin.firstCells, storeCells, loadCells, loadCellsFrom, hn]
theorem append_any {t ty e : TypeId} {i0 : TypeInfo} {zv : Value} {size : Nat} (hu : P.underlying t = some (.slice e)) (hi0 : P.info? e = some i0) (hz0 : i0.zero = some zv) (hisz : i0.size = size) (hzvs : zv.cells.size = size) (hs0 : 0 < size)
  {v : Value} {n : Nat} {xs : List Value} (hor : w.ownsRow 0 e size v n xs) {q : Value} {m : Nat} {news : List Value} (hl : news.length = m * size) (h1 : ∀ u ∈ news, u.oneCell' = true)
  (hq : (∃ a c, q = .slice (some a) m c ∧ ∀ j u, news[j]? = some u → w.cell? (a.add j) = some u) ∨ (m = 0 ∧ q = .slice none 0 0))
  (h63 : n + m ≤ maxLen) (hby : (n + m) * i0.bytes ≤ 140737488355328) :
  ∃ v' w', (Builtin.append_ #[t, t] ty #[v, q]).run P w = .ok v' w' ∧ w'.ownsRow 0 e size v' (n + m) (xs ++ news) ∧ w.grownBy w' v.ownBlock ∧ (v' = .slice none 0 0 ↔ v = .slice none 0 0 ∧ m = 0) ∧ (v'.ownBlock = v.ownBlock ∨ v'.ownBlock = some w.heap.size) := by
 rcases hq with ⟨a, c, rfl, hcells⟩ | ⟨rfl, rfl⟩
 ·exact run_append_own_at (P := P) w 0 t ty e i0 zv size i0.bytes hu hi0 hz0 hisz rfl hzvs hs0 v n xs hor a m c news hl hcells h1 h63 hby (Nat.zero_le _)
 ·have hn : news = [] := List.eq_nil_of_length_eq_zero (by simpa using hl)
  subst hn
  rw [Nat.add_zero, List.append_nil]
  rcases hor.2 with ⟨rfl, h0⟩ | ⟨g, cap, cur, rfl, _, _, hnc, _⟩
  ·exact ⟨_, w, run_append_none hu hi0 (Nat.le_refl _) rfl, hor, ⟨rfl, rfl, rfl, Nat.le_refl _, fun _ _ _ => rfl⟩, by simp, .inl rfl⟩
  ·exact ⟨_, w, run_append_none hu hi0 hnc rfl, hor, ⟨rfl, rfl, rfl, Nat.le_refl _, fun _ _ _ => rfl⟩, by simp, .inl rfl⟩
theorem own_some {e : TypeId} {size n : Nat} {v' : Value} {w' : World} {news : List Value} (hown : w'.ownsRow 0 e size v' n news) (hn : v' ≠ .slice none 0 0) :
  ∃ g cap cur, v' = .slice (some ⟨g, 0, none⟩) n cap ∧ w'.heap[g]? = some (.cells cur e (0, 0)) ∧ n ≤ cap ∧ cap ≤ maxLen ∧ cur.size = cap * size ∧ cur.toList.take (n * size) = news ∧ news.length = n * size := by
 rcases hown.2 with ⟨h0, _⟩ | ⟨g, cap, cur, e1, _, e2, e3, e4, e5, e6⟩
 ·exact absurd h0 hn
 ·exact ⟨g, cap, cur, e1, e2, e3, e4, e5, e6, hown.1⟩
theorem append_named {e : TypeId} {size id1 N : Nat} {b1 : Blk} {bn1 : Nat} {sz1 : Nat × Nat} {cols' : List Col} {v' : Value} {w' : World} {l : List Value} {h1 : Hp} {id : Nat} (r : RH E h w)
  (hb1 : h.blk id1 = some b1) (hro1 : b1.ro = false) (hE1 : E id1 = some (bn1, sz1)) {arr1 : Array Value} (hh1 : w.heap[bn1]? = some (.cells arr1 e (0, 0)))
  (hown : w'.ownsRow 0 e size v' N l) (hgrow : w.grownBy w' (some bn1)) (hv : v' ≠ .slice none 0 0) (hat : v'.ownBlock = some bn1 ∨ v'.ownBlock = some w.heap.size)
  (hl : ListIs E N cols' l)
  (hal : (Hp.alloc { h with heap := h.heap.set D id1 none, low := min h.low id1 } { ro := false, elem := e, body := .rows N cols' }).run = some (id, h1)) :
  Left E h w (.one (.sl true id 0 size 0 N)) h1 v' w' := by
 obtain ⟨g, cap, cur, rfl, hg, hnc, hcm, hcs, htake, hnl⟩ := own_some hown hv
 have hgn : g = bn1 ∨ g = w.heap.size := by simpa [Value.ownBlock] using hat
 have hlt1 : bn1 < w.heap.size := r.lt id1 _ hE1
 have hid1 : id1 < lim := by
  rcases Nat.lt_or_ge id1 h.next with hlt | hge
  ·exact Nat.lt_of_lt_of_le hlt r.nlim
  ·rw [r.dom id1 hge] at hE1; cases hE1
 obtain ⟨hst, hE'⟩ := name_stp (b := { ro := false, elem := e, body := .rows N cols' }) (g := g) (arr := cur)
  (h1 := { h with heap := h.heap.set D id1 none, low := min h.low id1 }) (fun k => k = bn1) r rfl rfl rfl (fun k hk o ho => by subst hk; rw [hh1] at ho; injection ho with ho; subst ho; rfl) (Nat.min_le_left _ _)
  (fun i b' hb' => by
   have hb3 : (Tr.set D h.heap id1 none).get D i = some b' := hb'
   rw [Tr.get_set_D _ _ _ _ hid1] at hb3
   split at hb3
   ·cases hb3
   ·rename_i hne
    refine ⟨hb3, fun pp hpp => ?_⟩
    have hpn : pp.1 ≠ bn1 := fun he => hne (r.inj id1 i b1 b' _ pp hb1 hb3 hro1 hE1 hpp he.symm)
    refine ⟨hpn, fun he => ?_⟩
    rcases hgn with hgn | hgn
    ·exact hpn (he.trans hgn)
    ·have := r.lt i pp hpp; omega)
  hg (hl.rows (by rw [hnl]; exact htake))
  (fun k hk hne => hgrow.block k hk (by simpa using hne)) hgrow.size hgrow.os hgrow.tape hgrow.output
  (fun k hk => ⟨id1, _, hE1, hk.symm, Nat.min_le_right _ _⟩) (hgn.elim (fun e => .inr e) fun e => .inl (by omega)) hal
 exact ⟨_, .inl ⟨_, _, 0, cap, hE', rfl, hnc, hcm, fun _ => by simp, fun _ => ⟨rfl, rfl, rfl, by rw [hcs]⟩⟩, hst⟩
theorem appendR_ok {t e : TypeId} {i0 : TypeInfo} {zv : Value} {size : Nat} {s v : A} {h' : Hp} {p q : Value} {own2 : Bool} {id2 k2 m2 j2 n2 n2' : Nat} {cols2 : List Col} {b2 : Blk} (hu : P.underlying t = some (.slice e)) (hi0 : P.info? e = some i0) (hz0 : i0.zero = some zv) (hisz : i0.size = size) (hzvs : zv.cells.size = size) (hs0 : 0 < size)
  (ha : (appendR h e size i0.bytes s k2 m2 j2 n2 n2' cols2).run = some (v, h')) (r : RH E h w) (hs : s.Is E p) (hb2 : h.blk id2 = some b2) (hbody2 : b2.body = .rows n2' cols2) (hx : (A.one (.sl own2 id2 k2 m2 j2 n2)).Is E q) (ty : TypeId) :
  ∃ y w', (Builtin.append_ #[t, t] ty #[p, q]).run P w = .ok y w' ∧ Left E h w v h' y w' := by
 unfold appendR at ha
 split at ha
 ·rename_i hc
  simp only [Bool.and_eq_true] at hc
  have hm2 := Nat.eq_of_beq_eq_true hc.1.1
  have hj2 := Nat.eq_of_beq_eq_true hc.1.2
  have hcl := Nat.eq_of_beq_eq_true hc.2
  subst hj2
  -- what is added
  have hnews : k2 + n2 ≤ n2' → ∃ news : List Value, news.length = n2 * size ∧ ListIs E n2 (cols2.map (Col.up k2)) news ∧ (∀ u ∈ news, u.oneCell' = true) ∧
    ((∃ a c, q = .slice (some a) n2 c ∧ ∀ j u, news[j]? = some u → w.cell? (a.add j) = some u) ∨ (n2 = 0 ∧ q = .slice none 0 0)) := fun hle => by
   rcases hx with ⟨bn2, sz2, o2, cap2, hE2, rfl, hnc2, _, ho2, _⟩ | ⟨_, h0, rfl⟩
   ·obtain ⟨p2, hp2, arr2, fz2, ⟨ty2, hh2, _⟩, hs2, hbd2, _⟩ := r.cells hb2 (by rw [hbody2]; rfl)
    obtain rfl : p2 = (bn2, sz2) := Option.some.inj (hp2.symm.trans hE2)
    have hbd2 := hbd2.2
    rw [hbody2] at hbd2
    obtain ⟨t1, t2⟩ := rows_take hbd2 hle (by omega)
    have hone := t1.one (by rw [List.length_map]; exact t2)
    refine ⟨_, by rw [t2, hcl], t1, hone, .inl ⟨_, _, rfl, fun j u hj => ?_⟩⟩
    have hjlt : j < n2 * cols2.length := by rw [← t2]; exact (List.getElem?_eq_some_iff.1 hj).1
    have hn0 : 0 < n2 := by
     rcases Nat.eq_zero_or_pos n2 with e0 | e0
     ·subst e0; omega
     ·exact e0
    rw [ho2 hn0, addr_add, cell_of_row w bn2 _ arr2 ty2 fz2 hh2]
    rw [List.getElem?_take, if_pos hjlt, List.getElem?_drop, Array.getElem?_toList, vw_get, hcl, ← hm2, ← Nat.add_assoc] at hj
    rw [Nat.add_zero]
    exact hj
   ·subst h0
    exact ⟨[], by simp, fun k j c hk => by omega, by simp, .inr ⟨rfl, rfl⟩⟩
  split at ha
  ·-- nil
   obtain ⟨hnd, ha⟩ := Tree.need_some ha
   simp only [Bool.and_eq_true] at hnd
   obtain ⟨news, hl, hli, hone, hq⟩ := hnews (Nat.le_of_ble_eq_true hnd.1.1)
   obtain ⟨rfl, _⟩ := hs
   have hbd := Nat.le_of_ble_eq_true hnd.1.2
   have h63 := Nat.le_of_ble_eq_true hnd.2
   obtain ⟨v', w', hrun, hown, hgrow, hnil, hat⟩ := append_any (ty := ty) hu hi0 hz0 hisz hzvs hs0 (World.ownsRow_nil w 0 e size) hl hone hq (by rw [Nat.zero_add]; simp only [maxLen]; omega) (by rw [Nat.zero_add]; exact hbd)
   rw [Nat.zero_add, List.nil_append] at hown
   simp only [Tree.run] at ha
   split at ha
   ·rename_i h0
    have h0 := Nat.eq_of_beq_eq_true h0
    simp only [Option.some.injEq, Prod.mk.injEq] at ha
    obtain ⟨rfl, rfl⟩ := ha
    obtain rfl := hnil.2 ⟨rfl, h0⟩
    refine ⟨_, w', hrun, E, ⟨rfl, rfl⟩, ?_⟩
    have hw : w' = w := by
     subst h0
     have hn : news = [] := List.eq_nil_of_length_eq_zero (by simpa using hl)
     rcases hq with ⟨a, c, rfl, hcells⟩ | ⟨_, rfl⟩
     ·have : (Builtin.append_ #[t, t] ty #[.slice none 0 0, .slice (some a) 0 c]).run P w = .ok (.slice none 0 0) w := by
       simp [Builtin.append_, run_underlying hu, sizeOf, typeInfo, hi0, Builtin.lenOf, Builtin.firstCells, loadCells, loadCellsFrom]
      rw [this] at hrun
      injection hrun with _ hrun
      exact hrun.symm
     ·rw [run_append_none hu hi0 (Nat.le_refl _) rfl] at hrun
      injection hrun with _ hrun
      exact hrun.symm
    rw [hw]
    exact Stp.refl r
   ·rename_i h0
    have hn0 : n2 ≠ 0 := fun e0 => by subst e0; cases h0
    obtain ⟨⟨id, h1⟩, hal, ha⟩ := Tree.bind_some ha
    simp only [Tree.run, Option.some.injEq, Prod.mk.injEq] at ha
    obtain ⟨rfl, rfl⟩ := ha
    have hv : v' ≠ .slice none 0 0 := fun e0 => hn0 (hnil.1 e0).2
    obtain ⟨g, cap, cur, rfl, hg, hnc, hcm, hcs, htake, hnl⟩ := own_some hown hv
    have hgn : g = w.heap.size := by
     rcases hat with hat | hat
     ·simp [Value.ownBlock] at hat
     ·simpa [Value.ownBlock] using hat
    subst hgn
    obtain ⟨hst, hE'⟩ := name_stp (b := { ro := false, elem := e, body := .rows n2 (cols2.map (Col.up k2)) }) (g := w.heap.size) (arr := cur) (fun _ => False) r rfl rfl rfl (fun _ hf => hf.elim) (Nat.le_refl _)
     (fun i b' hb' => ⟨hb', fun pp hpp => ⟨fun hf => hf, fun e => by have := r.lt i pp hpp; omega⟩⟩) hg (hli.rows (by rw [hnl]; exact htake))
     (fun k hk _ => hgrow.block k hk (by simp [Value.ownBlock])) hgrow.size hgrow.os hgrow.tape hgrow.output (fun _ hf => hf.elim) (.inl (Nat.le_refl _)) hal
    exact ⟨_, w', hrun, _, .inl ⟨_, _, 0, cap, hE', rfl, hnc, hcm, fun _ => by simp, fun _ => ⟨rfl, rfl, rfl, by rw [hcs]⟩⟩, hst⟩
  ·-- a row of the call's own
   rename_i id1 m1 n1
   split at ha
   ·rename_i b1 hb1
    split at ha
    ·rename_i cs1 hbody1 hro1
     split at ha
     ·rename_i cols' hc1 hput
      simp only [Bool.and_eq_true] at hc1
      have hm1 := Nat.eq_of_beq_eq_true hc1.1.1
      have hle1 := Nat.le_of_ble_eq_true hc1.1.2
      have hel1 := Nat.eq_of_beq_eq_true hc1.2
      obtain ⟨hnd, ha⟩ := Tree.need_some ha
      simp only [Bool.and_eq_true] at hnd
      obtain ⟨news, hl, hli, hone, hq⟩ := hnews (Nat.le_of_ble_eq_true hnd.1.1)
      have hbd := Nat.le_of_ble_eq_true hnd.1.2
      have h63 := Nat.le_of_ble_eq_true hnd.2
      obtain ⟨⟨id, h1⟩, hal, ha⟩ := Tree.bind_some ha
      simp only [Tree.run, Option.some.injEq, Prod.mk.injEq] at ha
      obtain ⟨rfl, rfl⟩ := ha
      obtain ⟨bn1, sz1, o1, cap1, hE1, rfl, hnc1, hcm1, ho1, hown1⟩ := sl_some hs (.inl rfl)
      obtain ⟨rfl, _, _, hs1⟩ := hown1 rfl
      obtain ⟨p1, hp1, arr1, fz1, ⟨ty1, hh1, hty1⟩, hsz1, hbd1, hfz1⟩ := r.cells hb1 (by rw [hbody1]; rfl)
      obtain rfl := hty1 hro1
      obtain rfl : p1 = (bn1, sz1) := Option.some.inj (hp1.symm.trans hE1)
      rw [roIs_fz hfz1 hro1, hel1] at hh1
      obtain ⟨_, hbd1⟩ := hbd1.own hro1
      rw [hbody1] at hbd1
      obtain ⟨_, hlen1, _⟩ := flat_take (off := 0) hbd1 (by rw [Nat.zero_add]; exact hle1)
      simp only [List.drop_zero] at hlen1
      have hor : w.ownsRow 0 e size (.slice (some ⟨bn1, 0, none⟩) n1 cap1) n1 (arr1.toList.take (n1 * size)) :=
       ⟨hlen1, .inr ⟨bn1, cap1, arr1, rfl, Nat.zero_le _, hh1, hnc1, hcm1, by rw [hsz1, hs1, hm1], rfl⟩⟩
      obtain ⟨v', w', hrun, hown, hgrow, hnil, hat⟩ := append_any (ty := ty) hu hi0 hz0 hisz hzvs hs0 hor hl hone hq (by simp only [maxLen]; omega) (by rw [Nat.add_comm n1 n2]; exact hbd)
      rw [Nat.add_comm n1 n2] at hown
      refine ⟨v', w', hrun, append_named r hb1 hro1 hE1 hh1 hown (by simpa [Value.ownBlock] using hgrow) (fun e0 => by have := (hnil.1 e0).1; cases this) (by simpa [Value.ownBlock] using hat) ?_ hal⟩
      obtain ⟨l1, l2⟩ := putRows_spec hput
      intro k j c hk hj
      obtain ⟨c0, hc0, a1, a2⟩ := l2 j c hj
      have hL : cols'.length = size := by rw [l1, List.length_map, hcl]
      rw [hL]
      have hjl : j < size := by rw [← hL]; exact nth_lt hj
      by_cases hkn : k < n1
      ·obtain ⟨x, hx0, hxe⟩ := a2 k hkn
       rw [List.length_map, hcl] at hx0
       obtain ⟨y, hy, hyi⟩ := flat_get hbd1 hx0
       have hlt := mul_lt_row hkn hjl
       refine ⟨y, ?_, by rw [Nat.zero_add] at hxe; rw [hxe]; exact hyi⟩
       rw [List.getElem?_append_left (by rw [hlen1]; exact hlt), List.getElem?_take, if_pos hlt]
       exact hy
      ·have hge : n1 * size ≤ k * size := Nat.mul_le_mul_right _ (by omega)
       have e1 : k * size + j - n1 * size = (k - n1) * size + j := by rw [Nat.sub_mul]; omega
       rw [List.getElem?_append_right (by rw [hlen1]; omega), hlen1, e1, a1 k (by omega)]
       rw [nth_map] at hc0
       cases hcc : nth cols2 j with
       | none => rw [hcc] at hc0; cases hc0
       | some d =>
        rw [hcc] at hc0
        simp only [Option.map_some, Option.some.injEq] at hc0
        subst hc0
        rw [col_behind]
        have := hli (k - n1) j (d.up k2) (by omega) (by rw [nth_map, hcc]; rfl)
        rw [List.length_map, hcl] at this
        exact this
     ·cases ha
    ·rename_i n1' cols1 hbody1 hro1
     split at ha
     ·rename_i cols' hc1 hput
      simp only [Bool.and_eq_true] at hc1
      have hm1 := Nat.eq_of_beq_eq_true hc1.1
      have hel1 := Nat.eq_of_beq_eq_true hc1.2
      obtain ⟨hnd, ha⟩ := Tree.need_some ha
      simp only [Bool.and_eq_true] at hnd
      have hle1 := Nat.le_of_ble_eq_true hnd.1.1.1
      obtain ⟨news, hl, hli, hone, hq⟩ := hnews (Nat.le_of_ble_eq_true hnd.1.1.2)
      have hbd := Nat.le_of_ble_eq_true hnd.1.2
      have h63 := Nat.le_of_ble_eq_true hnd.2
      obtain ⟨⟨id, h1⟩, hal, ha⟩ := Tree.bind_some ha
      simp only [Tree.run, Option.some.injEq, Prod.mk.injEq] at ha
      obtain ⟨rfl, rfl⟩ := ha
      obtain ⟨bn1, sz1, o1, cap1, hE1, rfl, hnc1, hcm1, ho1, hown1⟩ := sl_some hs (.inl rfl)
      obtain ⟨rfl, _, _, hs1⟩ := hown1 rfl
      obtain ⟨p1, hp1, arr1, fz1, ⟨ty1, hh1, hty1⟩, hsz1, hbd1, hfz1⟩ := r.cells hb1 (by rw [hbody1]; rfl)
      obtain rfl := hty1 hro1
      obtain rfl : p1 = (bn1, sz1) := Option.some.inj (hp1.symm.trans hE1)
      rw [roIs_fz hfz1 hro1, hel1] at hh1
      obtain ⟨_, hbd1⟩ := hbd1.own hro1
      rw [hbody1] at hbd1
      obtain ⟨l1, l0, l2⟩ := catCols_spec hput
      have hL1 : cols1.length = size := by rw [← l0, List.length_map, hcl]
      have hL : cols'.length = size := by rw [l1, hL1]
      have hfit1 := rows_len hbd1 hle1 (by omega)
      rw [hL1] at hfit1
      have hlen1 : (arr1.toList.take (n1 * size)).length = n1 * size := by simp; omega
      have hor : w.ownsRow 0 e size (.slice (some ⟨bn1, 0, none⟩) n1 cap1) n1 (arr1.toList.take (n1 * size)) :=
       ⟨hlen1, .inr ⟨bn1, cap1, arr1, rfl, Nat.zero_le _, hh1, hnc1, hcm1, by rw [hsz1, hs1, hm1], rfl⟩⟩
      obtain ⟨v', w', hrun, hown, hgrow, hnil, hat⟩ := append_any (ty := ty) hu hi0 hz0 hisz hzvs hs0 hor hl hone hq (by simp only [maxLen]; omega) hbd
      refine ⟨v', w', hrun, append_named r hb1 hro1 hE1 hh1 hown (by simpa [Value.ownBlock] using hgrow) (fun e0 => by have := (hnil.1 e0).1; cases this) (by simpa [Value.ownBlock] using hat) ?_ hal⟩
      intro k j c hk hj
      obtain ⟨c0, d0, hc0, hd0, a1, a2⟩ := l2 j c hj
      rw [hL]
      have hjl : j < size := by rw [← hL]; exact nth_lt hj
      by_cases hkn : k < n1
      ·have hlt := mul_lt_row hkn hjl
       obtain ⟨y, hy, hyi⟩ := hbd1 k j c0 (by omega) hc0
       rw [hL1] at hy
       refine ⟨y, ?_, by rw [a1 k hkn]; exact hyi⟩
       rw [List.getElem?_append_left (by rw [hlen1]; exact hlt), List.getElem?_take, if_pos hlt]
       simpa using hy
      ·have hge : n1 * size ≤ k * size := Nat.mul_le_mul_right _ (by omega)
       have e1 : k * size + j - n1 * size = (k - n1) * size + j := by rw [Nat.sub_mul]; omega
       rw [List.getElem?_append_right (by rw [hlen1]; omega), hlen1, e1, a2 k (by omega)]
       have := hli (k - n1) j d0 (by omega) hd0
       rw [List.length_map, hcl] at this
       exact this
     ·cases ha
    ·cases ha
   ·cases ha
  ·cases ha
 ·cases ha
theorem appendA_ok {t : TypeId} {s x v : A} {h' : Hp} {p q : Value} (ha : (appendA P h t s x).run = some (v, h')) (r : RH E h w) (hs : s.Is E p) (hx : x.Is E q) (ty : TypeId) :
  ∃ y w', (Builtin.append_ #[t, t] ty #[p, q]).run P w = .ok y w' ∧ Left E h w v h' y w' := by
 unfold appendA at ha
 split at ha
 ·rename_i e hu
  split at ha
  ·rename_i size' z own2 id2 k2 m2 j2 n2 hsz hz
   split at ha
   ·rename_i b2 hzl hb2
    have hzl := Nat.eq_of_beq_eq_true hzl
    split at ha
    ·rename_i cs2 hbody2
     split at ha
     ·rename_i hcond
      simp only [Bool.and_eq_true, Nat.blt_eq] at hcond
      have hle2 := Nat.le_of_ble_eq_true hcond.1
      have hn2 := hcond.2
      obtain ⟨bn2, sz2, o2, cap2, hE2, rfl, hnc2, _, ho2, _⟩ := sl_some hx (.inr hn2)
      obtain ⟨p2, hp2, arr2, fz2, ⟨ty2, hh2, _⟩, hs2, hbd2, _⟩ := r.cells hb2 (by rw [hbody2]; rfl)
      obtain rfl : p2 = (bn2, sz2) := Option.some.inj (hp2.symm.trans hE2)
      have hbd2 := hbd2.2
      rw [hbody2] at hbd2
      obtain ⟨hall2, hlen2, hfit2⟩ := flat_take hbd2 hle2
      have ho2 := ho2 hn2
      subst ho2
      obtain ⟨zv, ⟨i0, hi0, hz0⟩, hzall⟩ := zero?_is hz E
      have hisz : i0.size = size' + 1 := by unfold size? at hsz; rw [hi0] at hsz; simpa using hsz
      have hzvs : zv.cells.size = size' + 1 := by rw [← hzl, hzall.length]; simp
      have hcells2 : ∀ j u, (((vw sz2.2 arr2).toList.drop (k2 * m2 + j2)).take (n2 * (size' + 1)))[j]? = some u → w.cell? ((⟨bn2, sz2.2 + (k2 * m2 + j2), none⟩ : Addr).add j) = some u := fun j u hj => by
       rw [addr_add, cell_of_row w bn2 _ arr2 ty2 fz2 hh2]
       rw [List.getElem?_take] at hj
       split at hj
       ·rw [List.getElem?_drop, Array.getElem?_toList, vw_get, ← Nat.add_assoc] at hj; exact hj
       ·cases hj
      have hbytes0 : ((P.info? e).map (·.bytes)).getD 0 = i0.bytes := by simp [hi0]
      rw [hbytes0] at ha
      split at ha
      ·-- nil
       obtain ⟨hnd, ha⟩ := Tree.need_some ha
       simp only [Bool.and_eq_true, Nat.blt_eq] at hnd
       obtain ⟨⟨id, h1⟩, hal, ha⟩ := Tree.bind_some ha
       simp only [Tree.run, Option.some.injEq, Prod.mk.injEq] at ha
       obtain ⟨rfl, rfl⟩ := ha
       obtain ⟨rfl, _⟩ := hs
       obtain ⟨v', w', hrun, hown, hgrow, _, hat⟩ := run_append_own_at (P := P) w 0 t ty e i0 zv (size' + 1) i0.bytes hu hi0 hz0 hisz rfl hzvs (by omega) (.slice none 0 0) 0 []
        (World.ownsRow_nil w 0 e (size' + 1)) ⟨bn2, sz2.2 + (k2 * m2 + j2), none⟩ n2 cap2 _ hlen2 hcells2 (all2_oneCell hall2) (by have := Nat.le_of_ble_eq_true hnd.2; simp only [maxLen]; omega) (by rw [Nat.zero_add]; omega) (Nat.zero_le _)
       rw [Nat.zero_add, List.nil_append] at hown
       obtain ⟨g, cap, cur, rfl, hg, hnc, hcm, hcs, htake, hnl⟩ := own_flat hown hn2
       have hgn : g = w.heap.size := by
        rcases hat with hat | hat
        ·simp [Value.ownBlock] at hat
        ·simpa [Value.ownBlock] using hat
       subst hgn
       obtain ⟨hst, hE'⟩ := name_stp (b := { ro := false, elem := e, body := .flat ((cs2.drop (k2 * m2 + j2)).take (n2 * (size' + 1))) }) (g := w.heap.size) (arr := cur) (fun _ => False) r rfl rfl rfl (fun _ hf => hf.elim) (Nat.le_refl _)
        (fun i b' hb' => ⟨hb', fun pp hpp => ⟨fun hf => hf, fun e => by have := r.lt i pp hpp; omega⟩⟩) hg (flat_of_take hall2 htake)
        (fun k hk _ => hgrow.block k hk (by simp [Value.ownBlock])) hgrow.size hgrow.os hgrow.tape hgrow.output (fun _ hf => hf.elim) (.inl (Nat.le_refl _)) hal
       exact ⟨_, w', hrun, _, .inl ⟨_, _, 0, cap, hE', rfl, hnc, hcm, fun _ => by simp, fun _ => ⟨rfl, rfl, rfl, by rw [hcs]⟩⟩, hst⟩
      ·-- a row of the call's own
       rename_i id1 m1 n1
       split at ha
       ·rename_i b1 hb1
        split at ha
        ·rename_i n1' cols hbody1 hro1
         split at ha
         ·rename_i cols' hc1 hput
          simp only [Bool.and_eq_true] at hc1
          have hm1 := Nat.eq_of_beq_eq_true hc1.1.1
          have hel1 := Nat.eq_of_beq_eq_true hc1.1.2
          have hn21 := Nat.eq_of_beq_eq_true hc1.2
          subst hn21
          obtain ⟨hnd, ha⟩ := Tree.need_some ha
          simp only [Bool.and_eq_true, Nat.blt_eq] at hnd
          have hle1 := Nat.le_of_ble_eq_true hnd.1.1
          obtain ⟨⟨id, h1⟩, hal, ha⟩ := Tree.bind_some ha
          simp only [Tree.run, Option.some.injEq, Prod.mk.injEq] at ha
          obtain ⟨rfl, rfl⟩ := ha
          obtain ⟨bn1, sz1, o1, cap1, hE1, rfl, hnc1, hcm1, ho1, hown1⟩ := sl_some hs (.inl rfl)
          obtain ⟨rfl, _, _, hs1⟩ := hown1 rfl
          obtain ⟨p1, hp1, arr1, fz1, ⟨ty1, hh1, hty1⟩, hsz1, hbd1, hfz1⟩ := r.cells hb1 (by rw [hbody1]; rfl)
          obtain rfl := hty1 hro1
          obtain rfl : p1 = (bn1, sz1) := Option.some.inj (hp1.symm.trans hE1)
          rw [roIs_fz hfz1 hro1, hel1] at hh1
          obtain ⟨_, hbd1⟩ := hbd1.own hro1
          rw [hbody1] at hbd1
          rw [Nat.one_mul] at hall2 hlen2 hcells2
          obtain ⟨_, hcl, _⟩ := putCols_spec hput
          rw [hall2.length, hlen2] at hcl
          have hfit1 := rows_len hbd1 hle1 (by omega)
          rw [← hcl] at hfit1
          have hlen1 : (arr1.toList.take (n1 * (size' + 1))).length = n1 * (size' + 1) := by simp; omega
          have hor : w.ownsRow 0 e (size' + 1) (.slice (some ⟨bn1, 0, none⟩) n1 cap1) n1 (arr1.toList.take (n1 * (size' + 1))) :=
           ⟨hlen1, .inr ⟨bn1, cap1, arr1, rfl, Nat.zero_le _, hh1, hnc1, hcm1, by rw [hsz1, hs1, hm1], rfl⟩⟩
          obtain ⟨v', w', hrun, hown, hgrow, _, hat⟩ := run_append_own_at (P := P) w 0 t ty e i0 zv (size' + 1) i0.bytes hu hi0 hz0 hisz rfl hzvs (by omega) _ n1 _
           hor ⟨bn2, sz2.2 + (k2 * m2 + j2), none⟩ 1 cap2 _ (by rw [Nat.one_mul]; exact hlen2) hcells2 (all2_oneCell hall2) (by have := Nat.le_of_ble_eq_true hnd.2; simp only [maxLen]; omega) (by have := hnd.1.2; omega) (Nat.zero_le _)
          obtain ⟨g, cap, cur, rfl, hg, hnc, hcm, hcs, htake, hnl⟩ := own_flat hown (by omega)
          have hgn : g = bn1 ∨ g = w.heap.size := by simpa [Value.ownBlock] using hat
          have hlt1 : bn1 < w.heap.size := r.lt id1 _ hE1
          have hid1 : id1 < lim := by
           rcases Nat.lt_or_ge id1 h.next with hlt | hge
           ·exact Nat.lt_of_lt_of_le hlt r.nlim
           ·rw [r.dom id1 hge] at hE1; cases hE1
          obtain ⟨hst, hE'⟩ := name_stp (b := { ro := false, elem := e, body := .rows (n1 + 1) cols' }) (g := g) (arr := cur)
           (h1 := { h with heap := h.heap.set D id1 none, low := min h.low id1 }) (fun k => k = bn1) r rfl rfl rfl (fun k hk o ho => by subst hk; rw [hh1] at ho; injection ho with ho; subst ho; rfl) (Nat.min_le_left _ _)
           (fun i b' hb' => by
            have hb3 : (Tr.set D h.heap id1 none).get D i = some b' := hb'
            rw [Tr.get_set_D _ _ _ _ hid1] at hb3
            split at hb3
            ·cases hb3
            ·rename_i hne
             refine ⟨hb3, fun pp hpp => ?_⟩
             have hpn : pp.1 ≠ bn1 := fun he => hne (r.inj id1 i b1 b' _ pp hb1 hb3 hro1 hE1 hpp he.symm)
             refine ⟨hpn, fun he => ?_⟩
             rcases hgn with hgn | hgn
             ·exact hpn (he.trans hgn)
             ·have := r.lt i pp hpp; omega)
           hg (rows_append hbd1 hle1 hput hall2 (by rw [← hcl]; exact htake) (by rw [← hcl]; exact hfit1))
           (fun k hk hne => hgrow.block k hk (by simpa [Value.ownBlock] using hne)) hgrow.size hgrow.os hgrow.tape hgrow.output
           (fun k hk => ⟨id1, _, hE1, hk.symm, Nat.min_le_right _ _⟩) (hgn.elim (fun e => .inr e) fun e => .inl (by omega)) hal
          exact ⟨_, w', hrun, _, .inl ⟨_, _, 0, cap, hE', rfl, hnc, hcm, fun _ => by simp, fun _ => ⟨rfl, rfl, rfl, by rw [hcs]⟩⟩, hst⟩
         ·cases ha
        ·rename_i cs1 hbody1 hro1
         split at ha
         ·rename_i hc1
          simp only [Bool.and_eq_true] at hc1
          have hm1 := Nat.eq_of_beq_eq_true hc1.1.1
          have hle1 := Nat.le_of_ble_eq_true hc1.1.2
          have hel1 := Nat.eq_of_beq_eq_true hc1.2
          obtain ⟨hnd, ha⟩ := Tree.need_some ha
          simp only [Bool.and_eq_true, Nat.blt_eq] at hnd
          obtain ⟨⟨id, h1⟩, hal, ha⟩ := Tree.bind_some ha
          simp only [Tree.run, Option.some.injEq, Prod.mk.injEq] at ha
          obtain ⟨rfl, rfl⟩ := ha
          obtain ⟨bn1, sz1, o1, cap1, hE1, rfl, hnc1, hcm1, ho1, hown1⟩ := sl_some hs (.inl rfl)
          obtain ⟨rfl, _, _, hs1⟩ := hown1 rfl
          obtain ⟨p1, hp1, arr1, fz1, ⟨ty1, hh1, hty1⟩, hsz1, hbd1, hfz1⟩ := r.cells hb1 (by rw [hbody1]; rfl)
          obtain rfl := hty1 hro1
          obtain rfl : p1 = (bn1, sz1) := Option.some.inj (hp1.symm.trans hE1)
          rw [roIs_fz hfz1 hro1, hel1] at hh1
          obtain ⟨_, hbd1⟩ := hbd1.own hro1
          rw [hbody1] at hbd1
          obtain ⟨hall1, hlen1, _⟩ := flat_take (off := 0) hbd1 (by rw [Nat.zero_add]; exact hle1)
          simp only [List.drop_zero] at hall1 hlen1
          have hor : w.ownsRow 0 e (size' + 1) (.slice (some ⟨bn1, 0, none⟩) n1 cap1) n1 (arr1.toList.take (n1 * (size' + 1))) :=
           ⟨hlen1, .inr ⟨bn1, cap1, arr1, rfl, Nat.zero_le _, hh1, hnc1, hcm1, by rw [hsz1, hs1, hm1], rfl⟩⟩
          obtain ⟨v', w', hrun, hown, hgrow, _, hat⟩ := run_append_own_at (P := P) w 0 t ty e i0 zv (size' + 1) i0.bytes hu hi0 hz0 hisz rfl hzvs (by omega) _ n1 _
           hor ⟨bn2, sz2.2 + (k2 * m2 + j2), none⟩ n2 cap2 _ hlen2 hcells2 (all2_oneCell hall2) (by have := Nat.le_of_ble_eq_true hnd.2; simp only [maxLen]; omega) (by omega) (Nat.zero_le _)
          obtain ⟨g, cap, cur, rfl, hg, hnc, hcm, hcs, htake, hnl⟩ := own_flat hown (by omega)
          have hgn : g = bn1 ∨ g = w.heap.size := by simpa [Value.ownBlock] using hat
          have hlt1 : bn1 < w.heap.size := r.lt id1 _ hE1
          have hid1 : id1 < lim := by
           rcases Nat.lt_or_ge id1 h.next with hlt | hge
           ·exact Nat.lt_of_lt_of_le hlt r.nlim
           ·rw [r.dom id1 hge] at hE1; cases hE1
          obtain ⟨hst, hE'⟩ := name_stp (b := { ro := false, elem := e, body := .flat (cs1.take (n1 * (size' + 1)) ++ (cs2.drop (k2 * m2 + j2)).take (n2 * (size' + 1))) }) (g := g) (arr := cur)
           (h1 := { h with heap := h.heap.set D id1 none, low := min h.low id1 }) (fun k => k = bn1) r rfl rfl rfl (fun k hk o ho => by subst hk; rw [hh1] at ho; injection ho with ho; subst ho; rfl) (Nat.min_le_left _ _)
           (fun i b' hb' => by
            have hb3 : (Tr.set D h.heap id1 none).get D i = some b' := hb'
            rw [Tr.get_set_D _ _ _ _ hid1] at hb3
            split at hb3
            ·cases hb3
            ·rename_i hne
             refine ⟨hb3, fun pp hpp => ?_⟩
             have hpn : pp.1 ≠ bn1 := fun he => hne (r.inj id1 i b1 b' _ pp hb1 hb3 hro1 hE1 hpp he.symm)
             refine ⟨hpn, fun he => ?_⟩
             rcases hgn with hgn | hgn
             ·exact hpn (he.trans hgn)
             ·have := r.lt i pp hpp; omega)
           hg (flat_of_take (hall1.append hall2) htake)
           (fun k hk hne => hgrow.block k hk (by simpa [Value.ownBlock] using hne)) hgrow.size hgrow.os hgrow.tape hgrow.output
           (fun k hk => ⟨id1, _, hE1, hk.symm, Nat.min_le_right _ _⟩) (hgn.elim (fun e => .inr e) fun e => .inl (by omega)) hal
          exact ⟨_, w', hrun, _, .inl ⟨_, _, 0, cap, hE', rfl, hnc, hcm, fun _ => by simp, fun _ => ⟨rfl, rfl, rfl, by rw [hcs]⟩⟩, hst⟩
         ·cases ha
        ·cases ha
       ·cases ha
      ·cases ha
     ·obtain ⟨zv, ⟨i0, hi0, hz0⟩, hzall⟩ := zero?_is hz E
      have hq : ∃ b2 c2, q = .slice b2 n2 c2 := by
       rcases hx with ⟨bb, ss, oo, cc, _, hxx, _⟩ | ⟨_, h2, hxx⟩
       ·exact ⟨_, _, hxx⟩
       ·exact ⟨none, 0, by rw [hxx, h2]⟩
      split at ha
      ·rename_i hn2
       simp only [Tree.run, Option.some.injEq, Prod.mk.injEq] at ha
       obtain ⟨rfl, rfl⟩ := ha
       obtain ⟨b2, c2, rfl⟩ := hq
       obtain ⟨rfl, _⟩ := hs
       exact ⟨_, w, run_append_zero hu hi0 (Nat.le_refl _) (Nat.eq_of_beq_eq_true hn2), Left.same r ⟨rfl, rfl⟩⟩
      ·rename_i hn2
       simp only [Tree.run, Option.some.injEq, Prod.mk.injEq] at ha
       obtain ⟨rfl, rfl⟩ := ha
       obtain ⟨b2, c2, rfl⟩ := hq
       obtain ⟨bn1, sz1, o1, cap1, hE1, rfl, hnc1, hcm1, ho1, hown1⟩ := sl_some hs (.inl rfl)
       exact ⟨_, w, run_append_zero hu hi0 hnc1 (Nat.eq_of_beq_eq_true hn2), Left.same r hs⟩
      ·cases ha
    ·rename_i n2' cols2 hbody2
     obtain ⟨zv, ⟨i0, hi0, hz0⟩, hzall⟩ := zero?_is hz E
     have hisz : i0.size = size' + 1 := by unfold size? at hsz; rw [hi0] at hsz; simpa using hsz
     have hzvs : zv.cells.size = size' + 1 := by rw [← hzl, hzall.length]; simp
     have hbytes0 : ((P.info? e).map (·.bytes)).getD 0 = i0.bytes := by simp [hi0]
     rw [hbytes0] at ha
     exact appendR_ok hu hi0 hz0 hisz hzvs (Nat.succ_pos _) ha r hs hb2 hbody2 hx ty
    ·cases ha
    ·cases ha
    ·cases ha
   ·cases ha
  ·rename_i size' z hsz hz
   obtain ⟨zv, ⟨i0, hi0, hz0⟩, hzall⟩ := zero?_is hz E
   obtain ⟨rfl, _⟩ := hx
   split at ha
   ·simp only [Tree.run, Option.some.injEq, Prod.mk.injEq] at ha
    obtain ⟨rfl, rfl⟩ := ha
    obtain ⟨rfl, _⟩ := hs
    exact ⟨_, w, run_append_none hu hi0 (Nat.le_refl _) rfl, Left.same r ⟨rfl, rfl⟩⟩
   ·simp only [Tree.run, Option.some.injEq, Prod.mk.injEq] at ha
    obtain ⟨rfl, rfl⟩ := ha
    obtain ⟨bn1, sz1, o1, cap1, hE1, rfl, hnc1, hcm1, ho1, hown1⟩ := sl_some hs (.inl rfl)
    exact ⟨_, w, run_append_none hu hi0 hnc1 rfl, Left.same r hs⟩
   ·cases ha
  ·cases ha
 ·cases ha
theorem lay_list : ∀ (vs : List Value) (o : Nat) (arr : Array Value), o + vs.length ≤ arr.size → (layFrom arr o vs).toList = arr.toList.take o ++ vs ++ arr.toList.drop (o + vs.length)
 | [], o, arr, _ => by simp [layFrom]
 | v :: r, o, arr, h => by
  have h : o + (r.length + 1) ≤ arr.size := h
  show (layFrom (arr.setIfInBounds o v) (o + 1) r).toList = _
  rw [lay_list r (o + 1) _ (by simp; omega)]
  have e : (arr.setIfInBounds o v).toList = arr.toList.set o v := by simp
  rw [e]
  have hl : o < arr.toList.length := by simp; omega
  rw [List.set_eq_take_append_cons_drop, if_pos hl]
  have h1 : (arr.toList.take o).length = o := by rw [List.length_take]; omega
  have t1 : (arr.toList.take o ++ v :: arr.toList.drop (o + 1)).take (o + 1) = arr.toList.take o ++ [v] := by
   rw [List.take_append, h1, List.take_of_length_le (by omega), show o + 1 - o = 1 by omega]; rfl
  have t2 : (arr.toList.take o ++ v :: arr.toList.drop (o + 1)).drop (o + 1 + r.length) = arr.toList.drop (o + (v :: r).length) := by
   rw [List.drop_append, h1, List.drop_of_length_le (by omega), show o + 1 + r.length - o = r.length + 1 by omega, List.nil_append, List.drop_succ_cons, List.drop_drop]
   congr 1
   simp only [List.length_cons]; omega
  rw [t1, t2, List.append_assoc, List.append_assoc, List.append_assoc, List.singleton_append]
  rfl
theorem lay_head {arr : Array Value} {L : List Value} (h : L.length ≤ arr.size) : (layFrom arr 0 L).toList.take L.length = L := by
 rw [lay_list L 0 arr (by omega), List.take_zero, List.nil_append]
 exact List.take_left
theorem lay_low {arr : Array Value} {L : List Value} {o i : Nat} (h : o + L.length ≤ arr.size) (hi : i < o) : (layFrom arr o L)[i]? = arr[i]? := by
 rw [← Array.getElem?_toList, lay_list L o arr h, List.append_assoc, List.getElem?_append_left (by rw [List.length_take, Array.length_toList]; omega), List.getElem?_take, if_pos hi, Array.getElem?_toList]
theorem copyA_ok {t : TypeId} {d s v : A} {h' : Hp} {p q : Value} (ha : (copyA P h t d s).run = some (v, h')) (r : RH E h w) (hd : d.Is E p) (hs : s.Is E q) (at' : Array TypeId) (hat : at'[0]? = some t) (ty : TypeId) :
  ∃ y w', (Builtin.copy_ at' ty #[p, q]).run P w = .ok y w' ∧ Left E h w v h' y w' := by
 unfold copyA at ha
 split at ha
 ·rename_i e own1 id1 k1 m1 j1 n1 own2 id2 k2 m2 j2 n2 hu
  split at ha
  ·rename_i size b1 b2 hsz hb1 hb2
   split at ha
   ·rename_i cs2 hbody2
    split at ha
    ·rename_i hcond
     simp only [Bool.and_eq_true, Nat.blt_eq] at hcond
     have hle2 := Nat.le_of_ble_eq_true hcond.2
     obtain ⟨b', hw, ha⟩ := Tree.bind_some ha
     simp only [Tree.run, Option.some.injEq, Prod.mk.injEq] at ha
     obtain ⟨rfl, rfl⟩ := ha
     obtain ⟨bn1, sz1, o1, cap1, hE1, rfl, hnc1, _, ho1, _⟩ := sl_some hd (.inr (by omega))
     obtain ⟨bn2, sz2, o2, cap2, hE2, rfl, hnc2, _, ho2, _⟩ := sl_some hs (.inr (by omega))
     have ho1 := ho1 (by omega)
     have ho2 := ho2 (by omega)
     subst ho1; subst ho2
     obtain ⟨p2, hp2, arr2, fz2, ⟨ty2, hh2, _⟩, hs2, hbd2, _⟩ := r.cells hb2 (by rw [hbody2]; rfl)
     obtain rfl : p2 = (bn2, sz2) := Option.some.inj (hp2.symm.trans hE2)
     have hbd2 := hbd2.2
     rw [hbody2] at hbd2
     obtain ⟨hall2, hlen2, hfit2⟩ := flat_take hbd2 hle2
     have hcells2 : ∀ j u, (((vw sz2.2 arr2).toList.drop (k2 * m2 + j2)).take (min n2 n1 * size))[j]? = some u → w.cell? ((⟨bn2, sz2.2 + (k2 * m2 + j2), none⟩ : Addr).add j) = some u := fun j u hj => by
      rw [addr_add, cell_of_row w bn2 _ arr2 ty2 fz2 hh2]
      rw [List.getElem?_take] at hj
      split at hj
      ·rw [List.getElem?_drop, Array.getElem?_toList, vw_get, ← Nat.add_assoc] at hj; exact hj
      ·cases hj
     have hfirst := run_firstCells_some (P := P) w size (min n2 n1) ⟨bn2, sz2.2 + (k2 * m2 + j2), none⟩ n2 cap2 _ hlen2 hcells2
     obtain ⟨w', hst, hstp⟩ := cells_stp (P := P) r hb1 hE1 hall2 hw
     refine ⟨goInt (min n2 n1 : Nat), w', ?_, E, ⟨rfl, rfl⟩, hstp⟩
     have hlo : (Builtin.lenOf (.slice (some ⟨bn2, sz2.2 + (k2 * m2 + j2), none⟩) n2 cap2)).run P w = .ok n2 w := by simp [Builtin.lenOf]
     have hmin : Nat.min n2 n1 = min n2 n1 := rfl
     simp [Builtin.copy_, hat, run_underlying hu w, hlo, hmin, hfirst, size?_run hsz w, hst]
    ·cases ha
   ·rename_i n2' cols2 hbody2
    split at ha
    ·rename_i i1 i2 i3 i4 i5 hd0 hro1 hcond
     injection hd0 with hd0
     injection hd0 with e0 e1 e2 e3 e4 e5
     subst e0
     simp only [Bool.and_eq_true] at hcond
     obtain ⟨⟨⟨⟨⟨⟨⟨hk1, hj1⟩, hm1⟩, hm2⟩, hj2⟩, hcl⟩, hs0⟩, hmap⟩ := hcond
     obtain rfl := Nat.eq_of_beq_eq_true hk1
     obtain rfl := Nat.eq_of_beq_eq_true hj1
     have hm1 := Nat.eq_of_beq_eq_true hm1
     have hm2 := Nat.eq_of_beq_eq_true hm2
     obtain rfl := Nat.eq_of_beq_eq_true hj2
     have hcl := Nat.eq_of_beq_eq_true hcl
     rw [Nat.blt_eq] at hs0
     obtain ⟨hnd, ha⟩ := Tree.need_some ha
     simp only [Bool.and_eq_true, Nat.blt_eq] at hnd
     have hn12 := Nat.le_of_ble_eq_true hnd.1.1
     have hn2 := Nat.le_of_ble_eq_true hnd.1.2
     have hn1 := hnd.2
     simp only [Tree.run, Option.some.injEq, Prod.mk.injEq] at ha
     obtain ⟨rfl, rfl⟩ := ha
     obtain ⟨bn1, sz1, o1, cap1, hE1, rfl, hnc1, hcm1, ho1, hown1⟩ := sl_some hd (.inl rfl)
     obtain ⟨rfl, _, _, hs1⟩ := hown1 rfl
     obtain ⟨bn2, sz2, o2, cap2, hE2, rfl, hnc2, _, ho2, _⟩ := sl_some hs (.inr (by omega))
     have ho2 := ho2 (by omega)
     subst ho2
     obtain ⟨p1, hp1, arr1, fz1, ⟨ty1, hh1, hty1⟩, hsz1, hbd1, hfz1⟩ := r.cells hb1 (by simpa using hmap)
     obtain rfl : p1 = (bn1, sz1) := Option.some.inj (hp1.symm.trans hE1)
     obtain rfl := hty1 hro1
     rw [roIs_fz hfz1 hro1] at hh1
     obtain ⟨h30, _⟩ := hbd1.own hro1
     obtain ⟨p2, hp2, arr2, fz2, ⟨ty2, hh2, _⟩, hs2, hbd2, _⟩ := r.cells hb2 (by rw [hbody2]; rfl)
     obtain rfl : p2 = (bn2, sz2) := Option.some.inj (hp2.symm.trans hE2)
     have hbd2 := hbd2.2
     rw [hbody2] at hbd2
     obtain ⟨t1, t2⟩ := rows_take (k0 := k2) (n := n1) hbd2 (by omega) (by omega)
     have hone := t1.one (by rw [List.length_map]; exact t2)
     generalize hL : ((vw sz2.2 arr2).toList.drop (k2 * cols2.length)).take (n1 * cols2.length) = L at t1 t2 hone
     have hcells2 : ∀ j u, L[j]? = some u → w.cell? ((⟨bn2, sz2.2 + (k2 * m2 + 0), none⟩ : Addr).add j) = some u := fun j u hj => by
      have hjlt : j < n1 * cols2.length := by rw [← t2]; exact (List.getElem?_eq_some_iff.1 hj).1
      rw [addr_add, cell_of_row w bn2 _ arr2 ty2 fz2 hh2]
      rw [← hL, List.getElem?_take, if_pos hjlt, List.getElem?_drop, Array.getElem?_toList, vw_get, hcl, ← hm2, ← Nat.add_assoc] at hj
      rw [Nat.add_zero]
      exact hj
     rw [hcl] at t2
     have hfirst := run_firstCells_some (P := P) w size n1 ⟨bn2, sz2.2 + (k2 * m2 + 0), none⟩ n2 cap2 L t2 hcells2
     have hasz : arr1.size = cap1 * m1 := by rw [hsz1]; show sz1.1 = _; rw [hs1]
     have hfit : L.length ≤ arr1.size := by rw [t2, hasz, hm1]; exact Nat.mul_le_mul_right _ hnc1
     have hst := run_storeCells_lay P bn1 0 b1.elem L 0 arr1 w hh1 (fun _ => by simpa using hfit) hone
     have hstp := relay_stp (b' := ⟨false, b1.elem, .rows n1 (cols2.map (Col.up k2))⟩) (arr' := layFrom arr1 0 L) r hb1 hE1 hro1 hh1 hsz1 h30 rfl rfl (size_layFrom _ _ _) (t1.rows (lay_head hfit))
     refine ⟨goInt n1, w.setRow bn1 (layFrom arr1 0 L), ?_, E, ⟨rfl, rfl⟩, hstp⟩
     have hlo : (Builtin.lenOf (.slice (some ⟨bn2, sz2.2 + (k2 * m2 + 0), none⟩) n2 cap2)).run P w = .ok n2 w := by simp [Builtin.lenOf]
     have hmin : Nat.min n2 n1 = n1 := Nat.min_eq_right hn12
     simp at hst
     simp [Builtin.copy_, hat, run_underlying hu w, hmin, Builtin.lenOf]
     simp at hfirst
     simp [hfirst, size?_run hsz w, hst]
    ·cases ha
   ·cases ha
  ·cases ha
 ·cases ha
theorem clearF_ok {t e : TypeId} {own : Bool} {id k m j n : Nat} {v : A} {h' : Hp} {p : Value} (hu : P.underlying t = some (.slice e)) (ha : (clearF P h e id k m j n).run = some (v, h')) (r : RH E h w) (hx : (A.one (.sl own id k m j n)).Is E p) (at' : Array TypeId) (hat : at'[0]? = some t) (ty : TypeId) :
  ∃ y w', (Builtin.clear_ at' ty #[p]).run P w = .ok y w' ∧ Left E h w v h' y w' := by
 unfold clearF at ha
 split at ha
 ·rename_i hn
  have hn := Nat.eq_of_beq_eq_true hn
  subst hn
  simp only [Tree.run, Option.some.injEq, Prod.mk.injEq] at ha
  obtain ⟨rfl, rfl⟩ := ha
  rcases hx with ⟨bn, sz, o, cap, hE, rfl, hnc, _, ho, _⟩ | ⟨_, _, rfl⟩
  ·exact ⟨.tuple #[], w, by simp [Builtin.clear_, hat, run_underlying hu w], Left.same r (undefA_is E)⟩
  ·exact ⟨.tuple #[], w, by simp [Builtin.clear_, hat, run_underlying hu w], Left.same r (undefA_is E)⟩
 ·rename_i hn
  split at ha
  ·rename_i z b hz hb
   obtain ⟨b', hw, ha⟩ := Tree.bind_some ha
   simp only [Tree.run, Option.some.injEq, Prod.mk.injEq] at ha
   obtain ⟨rfl, rfl⟩ := ha
   have hn0 : 0 < n := by
    rcases Nat.eq_zero_or_pos n with h0 | h0
    ·subst h0; cases hn
    ·exact h0
   obtain ⟨bn, sz, o, cap, hE, rfl, hnc, _, ho, _⟩ := sl_some hx (.inr hn0)
   have ho := ho hn0
   subst ho
   obtain ⟨zv, ⟨i0, hi0, hz0⟩, hzall⟩ := zero?_is hz E
   have hcells : (Builtin.zeroCells zv.cells n).toList = (List.replicate n zv.cells.toList).flatten := by
    rcases Nat.eq_zero_or_pos zv.cells.size with h0 | h0
    ·have h1 : zv.cells.toList = [] := by rw [← List.length_eq_zero_iff]; simpa using h0
     simp [Builtin.zeroCells, h0, h1]
    ·unfold Builtin.zeroCells
     rw [rep_range zv.cells n zv.cells.size rfl h0]
   obtain ⟨w', hst, hstp⟩ := cells_stp (P := P) r hb hE (repC_is hzall n) hw
   refine ⟨.tuple #[], w', ?_, E, undefA_is E, hstp⟩
   obtain ⟨n', rfl⟩ : ∃ n', n = n' + 1 := ⟨n - 1, by omega⟩
   simp [Builtin.clear_, hat, run_underlying hu w, zero?_run ⟨i0, hi0, hz0⟩ w, hcells, hst]
  ·cases ha
theorem clearA_ok {t : TypeId} {x v : A} {h' : Hp} {p : Value} (ha : (clearA P h t x).run = some (v, h')) (r : RH E h w) (hx : x.Is E p) (at' : Array TypeId) (hat : at'[0]? = some t) (ty : TypeId) :
  ∃ y w', (Builtin.clear_ at' ty #[p]).run P w = .ok y w' ∧ Left E h w v h' y w' := by
 unfold clearA at ha
 split at ha
 ·rename_i e own id k m j n hu
  split at ha
  ·rename_i e1 n' cols hb
   split at ha
   ·rename_i z hz
    split at ha
    ·rename_i hcond
     simp only [Bool.and_eq_true, Nat.blt_eq] at hcond
     have hm := Nat.eq_of_beq_eq_true hcond.1.1.1
     obtain rfl := Nat.eq_of_beq_eq_true hcond.1.1.2
     have hzl := Nat.eq_of_beq_eq_true hcond.1.2
     obtain ⟨hnd, ha⟩ := Tree.need_some ha
     have hkn := Nat.le_of_ble_eq_true hnd
     simp only [Tree.run, Option.some.injEq, Prod.mk.injEq] at ha
     obtain ⟨rfl, rfl⟩ := ha
     obtain ⟨p1, hp1, arr, fz, ⟨ty1, hh1, hty1⟩, hsz1, hbd1, hfz1⟩ := r.cells hb rfl
     obtain rfl := hty1 rfl
     rw [roIs_fz hfz1 rfl] at hh1
     obtain ⟨h30, hbd⟩ := hbd1.own rfl
     have hrows : (Body.rows k cols).Is E arr := fun a c col ha' hc => hbd a c col (by omega) hc
     have hsame : Stp E h w E { h with heap := h.heap.set D id (some ⟨false, ty1, .rows k cols⟩), low := min h.low id } w := by
      have := relay_stp (b' := ⟨false, ty1, .rows k cols⟩) (arr' := arr) r hb hp1 rfl hh1 hsz1 h30 rfl rfl rfl hrows
      rwa [setRow_self w p1.1 arr ty1 (0, 0) hh1] at this
     rcases Nat.eq_zero_or_pos n with h0 | hn0
     ·subst h0
      rcases hx with ⟨bn, sz, o, cap, hE, rfl, hnc, _, ho, _⟩ | ⟨_, _, rfl⟩
      ·exact ⟨.tuple #[], w, by simp [Builtin.clear_, hat, run_underlying hu w], E, undefA_is E, hsame⟩
      ·exact ⟨.tuple #[], w, by simp [Builtin.clear_, hat, run_underlying hu w], E, undefA_is E, hsame⟩
     ·obtain ⟨bn, sz, o, cap, hE, rfl, hnc, _, ho, _⟩ := sl_some hx (.inr hn0)
      have ho := ho hn0
      subst ho
      obtain rfl : p1 = (bn, sz) := Option.some.inj (hp1.symm.trans hE)
      have h30' : sz.2 = 0 := h30
      obtain ⟨zv, ⟨i0, hi0, hz0⟩, hzall⟩ := zero?_is hz E
      have hzvs : zv.cells.size = m := by rw [← hzl, hzall.length]; simp
      have hcells : (Builtin.zeroCells zv.cells n).toList = (List.replicate n zv.cells.toList).flatten := by
       unfold Builtin.zeroCells
       rw [rep_range zv.cells n zv.cells.size rfl (by omega)]
      have hall := repC_is hzall n
      have hlen : (List.replicate n zv.cells.toList).flatten.length = n * m := by simp [hzvs]
      have hfit0 := rows_len hbd hkn (by omega)
      rw [← hm, Nat.add_mul] at hfit0
      have hfit : k * m + (List.replicate n zv.cells.toList).flatten.length ≤ arr.size := by rw [hlen]; exact hfit0
      have hst := run_storeCells_lay P bn (k * m) ty1 _ 0 arr w hh1 (fun _ => by simpa using hfit) (all2_oneCell hall)
      have hrows' : (Body.rows k cols).Is E (layFrom arr (k * m) (List.replicate n zv.cells.toList).flatten) := fun a c col ha' hc => by
       obtain ⟨x, hx, hi⟩ := hrows a c col ha' hc
       refine ⟨x, ?_, hi⟩
       have hlt := mul_lt_row ha' (nth_lt hc)
       rw [lay_low hfit (by rw [hm]; exact hlt)]
       exact hx
      have hstp := relay_stp (b' := ⟨false, ty1, .rows k cols⟩) (arr' := layFrom arr (k * m) (List.replicate n zv.cells.toList).flatten) r hb hE rfl hh1 hsz1 h30 rfl rfl (size_layFrom _ _ _) hrows'
      refine ⟨.tuple #[], _, ?_, E, undefA_is E, hstp⟩
      obtain ⟨n1, rfl⟩ : ∃ n', n = n' + 1 := ⟨n - 1, by omega⟩
      simp only [Nat.add_zero] at hst
      simp [Builtin.clear_, hat, run_underlying hu w, zero?_run ⟨i0, hi0, hz0⟩ w, hcells, h30', hst]
    ·cases ha
   ·cases ha
  ·exact clearF_ok hu ha r hx at' hat ty
 ·cases ha
theorem checkKey_str {P : Program} {kt : TypeId} (h : P.underlying kt = some .string) (b : Bool) (n : Nat) (s : ByteArray) (w : World) : (Instr.checkKey b (n + 1) kt (.string s)).run P w = .ok () w := by
 simp [Instr.checkKey, run_underlying h]
theorem run_setObj_mapE {P : Program} {w : World} {r : Nat} {es : Array MapEntry} {clock : Nat} (o : Obj) (h : w.heap[r]? = some (.map es clock)) : (setObj r o).run P w = .ok () (w.putObj r o) := by simp [setObj, Sem.run, h, World.putObj]
theorem insertS_ok {t : TypeId} {m k v : Option A} {v' : A} {h' : Hp} {x y z : Value} (ha : (insertS P h t m k v).run = some (v', h')) (r : RH E h w) (hm : ∀ a, m = some a → a.Is E x) (hk : ∀ a, k = some a → a.Is E y) (hv : ∀ a, v = some a → a.Is E z) :
  v' = undefA ∧ ∃ w', (Instr.mapUpdate t x y z).run P w = .ok () w' ∧ Stp E h w E h' w' := by
 unfold insertS at ha
 split at ha
 ·rename_i id s a kt vt hu
  split at ha
  ·rename_i e es hku hb
   obtain ⟨hn, ha⟩ := Tree.need_some ha
   simp only [Tree.run, Option.some.injEq, Prod.mk.injEq] at ha
   obtain ⟨rfl, rfl⟩ := ha
   obtain ⟨b, sz, hE, rfl⟩ := hm _ rfl
   obtain ⟨rfl, _⟩ := hk _ rfl
   have hz := hv _ rfl
   obtain ⟨p, hp, hbi⟩ := r.blk id _ hb
   obtain rfl : p = (b, sz) := Option.some.inj (hp.symm.trans hE)
   rcases hbi with ⟨arr, fz, _, _, hf, _⟩ | ⟨es', l, he, _, h1, h2⟩ | ⟨n9, f9, g9, x9, he, _⟩ | ⟨_, _, he, _⟩
   rotate_left 2
   ·cases he
   ·cases he
   ·exact hf.2.elim
   ·have he : Body.map es = Body.map es' := he
    injection he with he
    subst he
    refine ⟨rfl, _, ?_, map_stp r hb hE h1 h2 hz⟩
    have hfind : (Instr.findKey kt (.string s) (ents es l 0)).run P w = .ok none w := by
     simp [Instr.findKey, run_underlying hku w, find_fresh l 0 0 hn]
    have hck := checkKey_str (P := P) hku false 9999 s w
    simp only [Instr.mapUpdate, Sem.run_bind, run_underlying hu w, Result.andThen_ok]
    rw [run_getObj_map w _ _ _ h1]
    simp only [Result.andThen_ok, Sem.run_bind]
    rw [show (10000 : Nat) = 9999 + 1 from rfl, hck]
    simp only [Result.andThen_ok, hfind]
    exact run_setObj_mapE _ h1
  ·cases ha
 ·cases ha
theorem checkKey_int {P : Program} {kt : TypeId} (h : P.underlying kt = some (.int .i64)) (b : Bool) (n : Nat) (x : Int) (w : World) : (Instr.checkKey b (n + 1) kt (.int .i64 x)).run P w = .ok () w := by
 simp [Instr.checkKey, run_underlying h]
theorem imapOf_some {P : Program} {t : TypeId} (h : imapOf P t = true) : ∃ kt vt, P.underlying t = some (.map kt vt) ∧ P.underlying kt = some (.int .i64) ∧ ∀ w, (zeroValue vt).run P w = .ok (.int .i64 0) w := by
 unfold imapOf at h
 split at h
 ·rename_i kt vt hu
  split at h
  ·rename_i z hk hv hz
   simp only [decide_eq_true_eq] at h
   subst h
   refine ⟨kt, vt, hu, hk, fun w => ?_⟩
   unfold zeroA? at hz
   split at hz
   ·rename_i i hi
    split at hz
    ·rename_i zv hzv
     have := ofVal_is (E := fun _ => none) hz
     obtain ⟨rfl, _⟩ := this
     exact zero?_run ⟨i, hi, hzv⟩ w
    ·cases hz
   ·cases hz
  ·cases h
 ·cases h
theorem entI_at (k f : Int → Int) (n i : Nat) : (((List.range n).map (entI k f)).toArray)[i]? = if i < n then some (entI k f i) else none := by
 rw [List.getElem?_toArray, List.getElem?_map]
 by_cases h : i < n
 ·rw [List.getElem?_range h, if_pos h]; rfl
 ·rw [List.getElem?_eq_none (by simpa using h), if_neg h]; rfl
theorem mod_same {k f : Int → Int} {n i : Nat} {g : MapEntry → MapEntry} (h : i < n → g (entI k f i) = entI k f i) : (((List.range n).map (entI k f)).toArray).modify i g = ((List.range n).map (entI k f)).toArray := by
 apply Array.ext_getElem?
 intro j
 rw [Array.getElem?_modify]
 split
 ·rename_i e
  subst e
  rw [entI_at]
  split
  ·rename_i hi
   simp only [Option.map_some, h hi]
  ·rfl
 ·rfl
theorem entryA_ok {t : TypeId} {m k : Option A} {v : A} {h' : Hp} {x y : Value} (ha : (entryA P h t m k).run = some (v, h')) (r : RH E h w) (hm : ∀ a, m = some a → a.Is E x) (hk : ∀ a, k = some a → a.Is E y) :
  ∃ z w', (Instr.mapEntry t x y).run P w = .ok z w' ∧ v.Is E z ∧ Stp E h w E h' w' := by
 unfold entryA at ha
 split at ha
 ·rename_i id kx ht
  split at ha
  ·rename_i e n f b lst hb
   simp only [Tree.run, Option.some.injEq, Prod.mk.injEq] at ha
   obtain ⟨rfl, rfl⟩ := ha
   obtain ⟨kt, vt, hu, hku, hz⟩ := imapOf_some ht
   obtain ⟨bn, sz, hE, rfl⟩ := hm _ rfl
   obtain ⟨rfl, _⟩ := hk _ rfl
   obtain ⟨p, hp, hbi⟩ := r.blk id _ hb
   obtain rfl : p = (bn, sz) := Option.some.inj (hp.symm.trans hE)
   rcases hbi with ⟨arr, fz, _, _, hf, _⟩ | ⟨es', l, he, _⟩ | ⟨n', f', b', lst', he, _, ks, h1, h2, h3⟩ | ⟨_, _, he, _⟩
   ·exact hf.2.elim
   ·cases he
   rotate_left
   ·cases he
   have he : Body.imap n f b lst = Body.imap n' f' b' lst' := he
   injection he with e1 e2 e3 e4
   subst e1; subst e2; subst e3; subst e4
   have hck := checkKey_int (P := P) hku false 9999 kx w
   have hlt : bn < w.heap.size := r.lt id _ hp
   by_cases hbx : 0 ≤ b kx
   ·obtain ⟨i, hi, hki⟩ := (h3 kx).resolve_left fun hh => by rw [hh.1] at hbx; omega
    have hbi : b kx = i := by rw [← hki]; exact h2 i hi
    have hfind : (Instr.findKey kt (.int .i64 kx) ((List.range n).map (entI ks f))).run P w = .ok (some (i, .int .i64 (f kx))) w := by
     rw [List.range_eq_range']
     have := findI_some (k := ks) (f := f) (x := kx) n 0 0 i (Nat.zero_le _) (by omega) hki (fun i' _ h4 e => by
      have a := h2 i' (by omega)
      rw [e, hbi] at a
      omega)
     rw [Nat.zero_add, Nat.sub_zero] at this
     simp [Instr.findKey, run_underlying hku w, this]
    refine ⟨.tuple #[.int .i64 (f kx), .int .i64 i], w.putObj bn (.map ((List.range n).map (entI ks f)).toArray n), ?_, ?_, ?_⟩
    ·simp only [Instr.mapEntry, Sem.run_bind, run_underlying hu w, Result.andThen_ok]
     rw [run_getObj_map w _ _ _ h1]
     simp only [Result.andThen_ok, Sem.run_bind]
     rw [show (10000 : Nat) = 9999 + 1 from rfl, hck]
     simp only [Result.andThen_ok, hfind, Sem.run_bind]
     rw [entI_at, if_pos hi]
     have hst : (Instr.keyThatStays (((some (entI ks f i)).map (·.key)).getD (.int .i64 kx)) (.int .i64 kx)).run P w = .ok (.int .i64 kx) w := by
      simp only [Option.map_some, Option.getD_some, entI, hki]
      unfold Instr.keyThatStays
      rw [show Instr.sameBits 10000 (.int .i64 kx) (.int .i64 kx) = true by simp [Instr.sameBits]]
      simp
     rw [hst]
     simp only [Result.andThen_ok, Sem.run_bind]
     rw [mod_same (fun _ => by simp only [entI, hki]), run_setObj_mapE _ h1]
     simp [entI, goInt]
    ·refine ⟨_, rfl, ⟨_, rfl, rfl, rfl⟩, ⟨_, rfl, ?_, rfl⟩, trivial⟩
     unfold enterB
     rw [show decide (0 ≤ b kx) = true by simpa using hbx]
     show Value.int IntKind.i64 (i : Int) = Value.int IntKind.i64 (b kx)
     rw [hbi]
    ·refine obj_stp r hb hE h1 (.inr (.inr (.inl ⟨_, _, _, _, rfl, rfl, ks, ?_, ?_⟩)))
     ·unfold enterN
      rw [show decide (0 ≤ b kx) = true by simpa using hbx, World.putObj_heap_same hlt]
     ·unfold enterN enterB
      rw [show decide (0 ≤ b kx) = true by simpa using hbx]
      exact ⟨h2, h3⟩
   ·have hno : ∀ i : Nat, i < n → ks i ≠ kx := fun i hi e => hbx (by rw [← e, h2 i hi]; omega)
    have hfx : f kx = 0 := by
     rcases h3 kx with h | ⟨i, hi, e⟩
     ·exact h.2
     ·exact absurd e (hno i hi)
    have hfind : (Instr.findKey kt (.int .i64 kx) ((List.range n).map (entI ks f))).run P w = .ok none w := by
     rw [List.range_eq_range']
     have := findI_none (k := ks) (f := f) (x := kx) n 0 0 (fun i _ h4 => hno i (by omega))
     simp [Instr.findKey, run_underlying hku w, this]
    have hd : decide (0 ≤ b kx) = false := by simpa using hbx
    refine ⟨.tuple #[.int .i64 0, .int .i64 n], w.putObj bn (.map (((List.range n).map (entI ks f)).toArray.push ⟨.int .i64 kx, .int .i64 0, n⟩) (n + 1)), ?_, ?_, ?_⟩
    ·simp only [Instr.mapEntry, Sem.run_bind, run_underlying hu w, Result.andThen_ok]
     rw [run_getObj_map w _ _ _ h1]
     simp only [Result.andThen_ok, Sem.run_bind]
     rw [show (10000 : Nat) = 9999 + 1 from rfl, hck]
     simp only [Result.andThen_ok, hfind, Sem.run_bind, hz]
     rw [run_setObj_mapE _ h1]
     simp [goInt]
    ·refine ⟨_, rfl, ⟨_, rfl, ?_, rfl⟩, ⟨_, rfl, ?_, rfl⟩, trivial⟩
     ·rw [hfx]
     ·unfold enterB
      rw [hd]
      simp
    ·refine obj_stp r hb hE h1 (.inr (.inr (.inl ⟨_, _, _, _, rfl, rfl, fun i => if i = (n : Int) then kx else ks i, ?_, fun i hi => ?_, fun z => ?_⟩)))
     ·unfold enterN
      rw [hd, World.putObj_heap_same hlt]
      simp only [List.range_succ, List.map_append, List.map_cons, List.map_nil, List.push_toArray]
      have e1 : (List.range n).map (entI (fun i => if i = (n : Int) then kx else ks i) f) = (List.range n).map (entI ks f) := List.map_congr_left fun i hi => by
       have := List.mem_range.1 hi
       have hk9 : (if ((i : Int)) = (n : Int) then kx else ks i) = ks i := if_neg (by omega)
       unfold entI
       simp only [hk9]
      rw [e1]
      have e2 : entI (fun i => if i = (n : Int) then kx else ks i) f n = ⟨.int .i64 kx, .int .i64 0, n⟩ := by
       unfold entI
       simp only [if_true, hfx]
      rw [e2]
     ·unfold enterB
      rw [hd]
      unfold enterN at hi
      rw [hd] at hi
      simp only
      by_cases e : i = n
      ·subst e
       simp
      ·have hi' : i < n := by simp only at hi; omega
       have hk9 : (if ((i : Int)) = (n : Int) then kx else ks i) = ks i := if_neg (by omega)
       simp only [hk9]
       rw [show decide (ks i = kx) = false by simpa using hno i hi']
       exact h2 i hi'
     ·unfold enterB enterN
      rw [hd]
      simp only
      by_cases e : z = kx
      ·exact .inr ⟨n, by omega, by rw [if_pos rfl]; exact e.symm⟩
      ·rw [show decide (z = kx) = false by simpa using e]
       rcases h3 z with h | ⟨i, hi, e'⟩
       ·exact .inl h
       ·exact .inr ⟨i, by omega, by rw [if_neg (by omega)]; exact e'⟩
  ·cases ha
 ·cases ha
theorem findBorn {k f : Int → Int} {n i : Nat} (hi : i < n) : (((List.range n).map (entI k f)).toArray).findIdx? (fun e => (e.born : Int) == (i : Int)) = some i := by
 rw [List.findIdx?_toArray, List.findIdx?_eq_some_iff_getElem]
 refine ⟨by simpa using hi, ?_, fun j hj => ?_⟩
 ·simp [entI]
 ·simp [entI]
  omega
theorem entryStA_ok {t : TypeId} {m s v : Option A} {v' : A} {h' : Hp} {x y z : Value} (ha : (entryStA h m s v).run = some (v', h')) (r : RH E h w) (hm : ∀ a, m = some a → a.Is E x) (hk : ∀ a, s = some a → a.Is E y) (hv : ∀ a, v = some a → a.Is E z) :
  v' = undefA ∧ ∃ w', (Instr.entryStore t x y z).run P w = .ok () w' ∧ Stp E h w E h' w' := by
 unfold entryStA at ha
 split at ha
 ·rename_i id st vv
  split at ha
  ·rename_i e n f b lst hb
   obtain ⟨hc, ha⟩ := Tree.need_some ha
   simp only [Tree.run, Option.some.injEq, Prod.mk.injEq] at ha
   obtain ⟨rfl, rfl⟩ := ha
   simp only [Bool.and_eq_true, decide_eq_true_eq] at hc
   obtain ⟨hc1, hc2⟩ := hc
   obtain ⟨bn, sz, hE, rfl⟩ := hm _ rfl
   obtain ⟨rfl, _⟩ := hk _ rfl
   obtain ⟨rfl, _⟩ := hv _ rfl
   obtain ⟨p, hp, hbi⟩ := r.blk id _ hb
   obtain rfl : p = (bn, sz) := Option.some.inj (hp.symm.trans hE)
   rcases hbi with ⟨arr, fz, _, _, hf, _⟩ | ⟨es', l, he, _⟩ | ⟨n', f', b', lst', he, _, ks, h1, h2, h3⟩ | ⟨_, _, he, _⟩
   ·exact hf.2.elim
   ·cases he
   rotate_left
   ·cases he
   have he : Body.imap n f b lst = Body.imap n' f' b' lst' := he
   injection he with e1 e2 e3 e4
   subst e1; subst e2; subst e3; subst e4
   have hlt : bn < w.heap.size := r.lt id _ hp
   obtain ⟨i, hi, hki⟩ := (h3 lst).resolve_left fun hh => by rw [hh.1] at hc2; omega
   have hbi : b lst = i := by rw [← hki]; exact h2 i hi
   have hst : st = (i : Int) := hc1.trans hbi
   subst hst
   refine ⟨rfl, w.putObj bn (.map ((((List.range n).map (entI ks f)).toArray).modify i fun e => { e with val := .int .i64 vv }) n), ?_, ?_⟩
   ·simp only [Instr.entryStore, Sem.run_bind]
    rw [run_getObj_map w _ _ _ h1]
    simp only [Result.andThen_ok, Sem.run_bind]
    have : (asInt (.int .i64 (i : Int))).run P w = .ok (i : Int) w := by simp [asInt, asIntOf]
    rw [this]
    simp only [Result.andThen_ok]
    rw [findBorn hi]
    exact run_setObj_mapE _ h1
   ·refine obj_stp r hb hE h1 (.inr (.inr (.inl ⟨_, _, _, _, rfl, rfl, ks, ?_, h2, fun z => ?_⟩)))
    ·rw [World.putObj_heap_same hlt]
     congr 2
     apply Array.ext_getElem?
     intro j
     rw [Array.getElem?_modify, entI_at, entI_at]
     by_cases hj : j < n
     ·rw [if_pos hj, if_pos hj]
      split
      ·rename_i e
       subst e
       simp only [Option.map_some, entI, putM]
       rw [hki]
       simp
      ·rename_i e
       unfold entI putM
       have : ks j ≠ lst := fun e' => by
        have a := h2 j hj
        rw [e', hbi] at a
        omega
       rw [show decide (ks j = lst) = false by simpa using this]
     ·rw [if_neg hj, if_neg hj]
      split <;> rfl
    ·rcases h3 z with h | ⟨j, hj, e⟩
     ·refine .inl ⟨h.1, ?_⟩
      unfold putM
      rw [show decide (z = lst) = false by
       simp only [decide_eq_false_iff_not]
       intro e
       rw [e, hbi] at h
       omega]
      exact h.2
     ·exact .inr ⟨j, hj, e⟩
  ·cases ha
 ·cases ha
theorem lookupS_ok {t : TypeId} {m k : Option A} {ok : Bool} {v : A} {h' : Hp} {x y : Value} (ha : (lookupS P h t m k ok).run = some (v, h')) (r : RH E h w) (hm : ∀ a, m = some a → a.Is E x) (hk : ∀ a, k = some a → a.Is E y) :
  h' = h ∧ ∃ z, (Instr.lookup t x y ok).run P w = .ok z w ∧ v.Is E z := by
 unfold lookupS at ha
 split at ha
 ·rename_i id s kt et hu
  split at ha
  ·rename_i ro e es z hku hb hz
   obtain ⟨⟨a, b⟩, hf, ha⟩ := Tree.bind_some ha
   obtain ⟨bb, sz, hE, rfl⟩ := hm _ rfl
   obtain ⟨rfl, _⟩ := hk _ rfl
   obtain ⟨p, hp, hbi⟩ := r.blk id _ hb
   obtain rfl : p = (bb, sz) := Option.some.inj (hp.symm.trans hE)
   rcases hbi with ⟨arr, fz, _, _, hf, _⟩ | ⟨es', l, he, _, h1, h2⟩ | ⟨n9, f9, g9, x9, he, _⟩ | ⟨_, _, he, _⟩
   rotate_left 2
   ·cases he
   ·cases he
   ·exact hf.2.elim
   ·have he : Body.map es = Body.map es' := he
    injection he with he
    subst he
    have hzv : ∃ zv, (zeroValue et).run P w = .ok zv w ∧ z.Is E zv := by
     unfold zeroA? at hz
     split at hz
     ·rename_i i hi
      split at hz
      ·rename_i zv hzv
       exact ⟨zv, zero?_run ⟨i, hi, hzv⟩ w, ofVal_is hz⟩
      ·cases hz
     ·cases hz
    obtain ⟨zv, hzr, hzi⟩ := hzv
    have hck := fun b => checkKey_str (P := P) hku b 9999 s w
    have main : ∃ u, (Instr.lookup t (.map (some bb)) (.string s) ok).run P w = .ok (if ok then .tuple #[u, .bool b] else u) w ∧ a.Is E u := by
     rcases find_is 0 0 hf h2 with ⟨rfl, rfl, hfn⟩ | ⟨rfl, kk, u, hu', hfn⟩
     ·refine ⟨zv, ?_, hzi⟩
      have hfind : (Instr.findKey kt (.string s) (ents es l 0)).run P w = .ok none w := by
       simp [Instr.findKey, run_underlying hku w, hfn]
      simp only [Instr.lookup, Sem.run_bind, run_underlying hu w, Result.andThen_ok]
      rw [run_getObj_map w _ _ _ h1]
      simp only [Result.andThen_ok, Sem.run_bind, Sem.run_pure]
      rw [show (10000 : Nat) = 9999 + 1 from rfl, hck]
      simp only [Result.andThen_ok, hfind, Sem.run_bind, hzr, Sem.run_pure]
     ·refine ⟨u, ?_, hu'⟩
      have hfind : (Instr.findKey kt (.string s) (ents es l 0)).run P w = .ok (some (kk, u)) w := by
       simp [Instr.findKey, run_underlying hku w, hfn]
      simp only [Instr.lookup, Sem.run_bind, run_underlying hu w, Result.andThen_ok]
      rw [run_getObj_map w _ _ _ h1]
      simp only [Result.andThen_ok, Sem.run_bind, Sem.run_pure]
      rw [show (10000 : Nat) = 9999 + 1 from rfl, hck]
      simp only [Result.andThen_ok, hfind, Sem.run_bind, Sem.run_pure]
    obtain ⟨u, hrun, hui⟩ := main
    cases ok with
    | false =>
     simp only [Tree.run, Option.some.injEq, Prod.mk.injEq] at ha
     obtain ⟨rfl, rfl⟩ := ha
     exact ⟨rfl, u, by simpa using hrun, hui⟩
    | true =>
     simp only at ha
     split at ha
     ·rename_i c hc
      simp only [Tree.run, Option.some.injEq, Prod.mk.injEq] at ha
      obtain ⟨rfl, rfl⟩ := ha
      exact ⟨rfl, _, by simpa using hrun, [u, .bool b], rfl, comp_is hui hc, ⟨_, rfl, rfl, rfl⟩, trivial⟩
     ·cases ha
  ·cases ha
 ·cases ha
theorem imap_find {kt : TypeId} (hku : P.underlying kt = some (.int .i64)) {k f b : Int → Int} {n : Nat} (h2 : ∀ i : Nat, i < n → b (k i) = i) (h3 : ∀ x, (b x = -1 ∧ f x = 0) ∨ ∃ i : Nat, i < n ∧ k i = x) (x : Int) (w : World) :
  (∃ i : Nat, i < n ∧ k i = x ∧ b x = i ∧ (Instr.findKey kt (.int .i64 x) ((List.range n).map (entI k f))).run P w = .ok (some (i, .int .i64 (f x))) w) ∨
  (b x = -1 ∧ f x = 0 ∧ (∀ i : Nat, i < n → k i ≠ x) ∧ (Instr.findKey kt (.int .i64 x) ((List.range n).map (entI k f))).run P w = .ok none w) := by
 rcases h3 x with h | ⟨i, hi, hki⟩
 ·right
  have hno : ∀ i : Nat, i < n → k i ≠ x := fun i hi e => by
   have := h2 i hi
   rw [e, h.1] at this
   omega
  refine ⟨h.1, h.2, hno, ?_⟩
  rw [List.range_eq_range']
  have := findI_none (k := k) (f := f) (x := x) n 0 0 (fun i _ h4 => hno i (by omega))
  simp [Instr.findKey, run_underlying hku w, this]
 ·left
  have hbi : b x = i := by rw [← hki]; exact h2 i hi
  refine ⟨i, hi, hki, hbi, ?_⟩
  rw [List.range_eq_range']
  have := findI_some (k := k) (f := f) (x := x) n 0 0 i (Nat.zero_le _) (by omega) hki (fun i' _ h4 e => by
   have a := h2 i' (by omega)
   rw [e, hbi] at a
   omega)
  rw [Nat.zero_add, Nat.sub_zero] at this
  simp [Instr.findKey, run_underlying hku w, this]
theorem insertI_ok {t : TypeId} (ht : imapOf P t = true) {m k v : Option A} {v' : A} {h' : Hp} {x y z : Value} (ha : (insertI h m k v).run = some (v', h')) (r : RH E h w) (hm : ∀ a, m = some a → a.Is E x) (hk : ∀ a, k = some a → a.Is E y) (hv : ∀ a, v = some a → a.Is E z) :
  v' = undefA ∧ ∃ w', (Instr.mapUpdate t x y z).run P w = .ok () w' ∧ Stp E h w E h' w' := by
 unfold insertI at ha
 split at ha
 ·rename_i id kx vv
  split at ha
  ·rename_i e n f b lst hb
   simp only [Tree.run, Option.some.injEq, Prod.mk.injEq] at ha
   obtain ⟨rfl, rfl⟩ := ha
   obtain ⟨kt, vt, hu, hku, hz⟩ := imapOf_some ht
   obtain ⟨bn, sz, hE, rfl⟩ := hm _ rfl
   obtain ⟨rfl, _⟩ := hk _ rfl
   obtain ⟨rfl, _⟩ := hv _ rfl
   obtain ⟨p, hp, hbi⟩ := r.blk id _ hb
   obtain rfl : p = (bn, sz) := Option.some.inj (hp.symm.trans hE)
   rcases hbi with ⟨arr, fz, _, _, hf, _⟩ | ⟨es', l, he, _⟩ | ⟨n', f', b', lst', he, _, ks, h1, h2, h3⟩ | ⟨_, _, he, _⟩
   ·exact hf.2.elim
   ·cases he
   rotate_left
   ·cases he
   have he : Body.imap n f b lst = Body.imap n' f' b' lst' := he
   injection he with e1 e2 e3 e4
   subst e1; subst e2; subst e3; subst e4
   have hck := checkKey_int (P := P) hku false 9999 kx w
   have hlt : bn < w.heap.size := r.lt id _ hp
   refine ⟨rfl, ?_⟩
   rcases imap_find (P := P) hku h2 h3 kx w with ⟨i, hi, hki, hbi, hfind⟩ | ⟨hbx, hfx, hno, hfind⟩
   ·have hd : decide (0 ≤ b kx) = true := by rw [hbi]; simp
    refine ⟨w.putObj bn (.map ((((List.range n).map (entI ks f)).toArray).modify i fun e => { e with key := .int .i64 kx, val := .int .i64 vv }) n), ?_, ?_⟩
    ·simp only [Instr.mapUpdate, Sem.run_bind, run_underlying hu w, Result.andThen_ok]
     rw [run_getObj_map w _ _ _ h1]
     simp only [Result.andThen_ok, Sem.run_bind]
     rw [show (10000 : Nat) = 9999 + 1 from rfl, hck]
     simp only [Result.andThen_ok, hfind, Sem.run_bind]
     rw [entI_at, if_pos hi]
     have hst : (Instr.keyThatStays (((some (entI ks f i)).map (·.key)).getD (.int .i64 kx)) (.int .i64 kx)).run P w = .ok (.int .i64 kx) w := by
      simp only [Option.map_some, Option.getD_some, entI, hki]
      unfold Instr.keyThatStays
      rw [show Instr.sameBits 10000 (.int .i64 kx) (.int .i64 kx) = true by simp [Instr.sameBits]]
      simp
     rw [hst]
     simp only [Result.andThen_ok]
     exact run_setObj_mapE _ h1
    ·refine obj_stp r hb hE h1 (.inr (.inr (.inl ⟨_, _, _, _, rfl, rfl, ks, ?_, ?_, fun z => ?_⟩)))
     ·unfold enterN
      rw [hd, World.putObj_heap_same hlt]
      congr 2
      apply Array.ext_getElem?
      intro j
      rw [Array.getElem?_modify, entI_at, entI_at]
      by_cases hj : j < n
      ·rw [if_pos hj, if_pos hj]
       split
       ·rename_i e
        subst e
        simp only [Option.map_some, entI, putM]
        rw [hki]
        simp
       ·rename_i e
        unfold entI putM
        have : ks j ≠ kx := fun e' => by
         have a := h2 j hj
         rw [e', hbi] at a
         omega
        rw [show decide (ks j = kx) = false by simpa using this]
      ·rw [if_neg hj, if_neg hj]
       split <;> rfl
     ·unfold enterB enterN
      rw [hd]
      exact h2
     ·unfold enterB enterN
      rw [hd]
      simp only
      rcases h3 z with h | ⟨j, hj, e⟩
      ·refine .inl ⟨h.1, ?_⟩
       unfold putM
       rw [show decide (z = kx) = false by
        simp only [decide_eq_false_iff_not]
        intro e
        rw [e, hbi] at h
        omega]
       exact h.2
      ·exact .inr ⟨j, hj, e⟩
   ·have hd : decide (0 ≤ b kx) = false := by rw [hbx]; rfl
    refine ⟨w.putObj bn (.map (((List.range n).map (entI ks f)).toArray.push ⟨.int .i64 kx, .int .i64 vv, n⟩) (n + 1)), ?_, ?_⟩
    ·simp only [Instr.mapUpdate, Sem.run_bind, run_underlying hu w, Result.andThen_ok]
     rw [run_getObj_map w _ _ _ h1]
     simp only [Result.andThen_ok, Sem.run_bind]
     rw [show (10000 : Nat) = 9999 + 1 from rfl, hck]
     simp only [Result.andThen_ok, hfind]
     exact run_setObj_mapE _ h1
    ·refine obj_stp r hb hE h1 (.inr (.inr (.inl ⟨_, _, _, _, rfl, rfl, fun i => if i = (n : Int) then kx else ks i, ?_, fun i hi => ?_, fun z => ?_⟩)))
     ·unfold enterN
      rw [hd, World.putObj_heap_same hlt]
      simp only [List.range_succ, List.map_append, List.map_cons, List.map_nil, List.push_toArray]
      have e1 : (List.range n).map (entI (fun i => if i = (n : Int) then kx else ks i) (putM f kx vv)) = (List.range n).map (entI ks f) := List.map_congr_left fun i hi => by
       have hi := List.mem_range.1 hi
       have hk9 : (if ((i : Int)) = (n : Int) then kx else ks i) = ks i := if_neg (by omega)
       unfold entI
       simp only [hk9]
       unfold putM
       rw [show decide (ks i = kx) = false by simpa using hno i hi]
      rw [e1]
      have e2 : entI (fun i => if i = (n : Int) then kx else ks i) (putM f kx vv) n = ⟨.int .i64 kx, .int .i64 vv, n⟩ := by
       unfold entI putM
       simp
      rw [e2]
     ·unfold enterB
      rw [hd]
      unfold enterN at hi
      rw [hd] at hi
      simp only
      by_cases e : i = n
      ·subst e
       simp
      ·have hi' : i < n := by simp only at hi; omega
       have hk9 : (if ((i : Int)) = (n : Int) then kx else ks i) = ks i := if_neg (by omega)
       simp only [hk9]
       rw [show decide (ks i = kx) = false by simpa using hno i hi']
       exact h2 i hi'
     ·unfold enterB enterN
      rw [hd]
      simp only
      by_cases e : z = kx
      ·exact .inr ⟨n, by omega, by rw [if_pos rfl]; exact e.symm⟩
      ·rw [show decide (z = kx) = false by simpa using e]
       rcases h3 z with h | ⟨i, hi, e'⟩
       ·refine .inl ⟨h.1, ?_⟩
        unfold putM
        rw [show decide (z = kx) = false by simpa using e]
        exact h.2
       ·exact .inr ⟨i, by omega, by rw [if_neg (by omega)]; exact e'⟩
  ·cases ha
 ·cases ha
theorem lookupI_ok {t : TypeId} (ht : imapOf P t = true) {m k : Option A} {v : A} {h' : Hp} {x y : Value} (ha : (lookupI h m k).run = some (v, h')) (r : RH E h w) (hm : ∀ a, m = some a → a.Is E x) (hk : ∀ a, k = some a → a.Is E y) :
  h' = h ∧ ∃ z, (Instr.lookup t x y false).run P w = .ok z w ∧ v.Is E z := by
 unfold lookupI at ha
 split at ha
 ·rename_i id kx
  split at ha
  ·rename_i ro e n f b lst hb
   simp only [Tree.run, Option.some.injEq, Prod.mk.injEq] at ha
   obtain ⟨rfl, rfl⟩ := ha
   obtain ⟨kt, vt, hu, hku, hz⟩ := imapOf_some ht
   obtain ⟨bn, sz, hE, rfl⟩ := hm _ rfl
   obtain ⟨rfl, _⟩ := hk _ rfl
   obtain ⟨p, hp, hbi⟩ := r.blk id _ hb
   obtain rfl : p = (bn, sz) := Option.some.inj (hp.symm.trans hE)
   rcases hbi with ⟨arr, fz, _, _, hf, _⟩ | ⟨es', l, he, _⟩ | ⟨n', f', b', lst', he, _, ks, h1, h2, h3⟩ | ⟨_, _, he, _⟩
   ·exact hf.2.elim
   ·cases he
   rotate_left
   ·cases he
   have he : Body.imap n f b lst = Body.imap n' f' b' lst' := he
   injection he with e1 e2 e3 e4
   subst e1; subst e2; subst e3; subst e4
   have hck := fun bb => checkKey_int (P := P) hku bb 9999 kx w
   refine ⟨rfl, .int .i64 (f kx), ?_, ⟨rfl, rfl⟩⟩
   simp only [Instr.lookup, Sem.run_bind, run_underlying hu w, Result.andThen_ok]
   rw [run_getObj_map w _ _ _ h1]
   simp only [Result.andThen_ok, Sem.run_bind, Sem.run_pure]
   rw [show (10000 : Nat) = 9999 + 1 from rfl, hck]
   rcases imap_find (P := P) hku h2 h3 kx w with ⟨i, hi, hki, hbi, hfind⟩ | ⟨hbx, hfx, hno, hfind⟩
   ·simp only [Result.andThen_ok, hfind, Sem.run_bind, Sem.run_pure]
    simp
   ·simp only [Result.andThen_ok, hfind, Sem.run_bind, hz, Sem.run_pure]
    simp [hfx]
  ·cases ha
 ·cases ha
theorem insertA_ok {t : TypeId} {m k v : Option A} {v' : A} {h' : Hp} {x y z : Value} (ha : (insertA P h t m k v).run = some (v', h')) (r : RH E h w) (hm : ∀ a, m = some a → a.Is E x) (hk : ∀ a, k = some a → a.Is E y) (hv : ∀ a, v = some a → a.Is E z) :
  v' = undefA ∧ ∃ w', (Instr.mapUpdate t x y z).run P w = .ok () w' ∧ Stp E h w E h' w' := by
 unfold insertA at ha
 split at ha
 ·split at ha
  ·rename_i ht
   exact insertI_ok ht ha r hm hk hv
  ·cases ha
 ·exact insertS_ok ha r hm hk hv
theorem lookupA_ok {t : TypeId} {m k : Option A} {ok : Bool} {v : A} {h' : Hp} {x y : Value} (ha : (lookupA P h t m k ok).run = some (v, h')) (r : RH E h w) (hm : ∀ a, m = some a → a.Is E x) (hk : ∀ a, k = some a → a.Is E y) :
  h' = h ∧ ∃ z, (Instr.lookup t x y ok).run P w = .ok z w ∧ v.Is E z := by
 unfold lookupA at ha
 split at ha
 ·split at ha
  ·rename_i ht
   rw [Bool.and_eq_true, Bool.not_eq_true'] at ht
   obtain ⟨ht, rfl⟩ := ht
   exact lookupI_ok ht ha r hm hk
  ·cases ha
 ·exact lookupS_ok ha r hm hk
end
end Go.Ev
