/- SaltParts: rainflow on a stack whose top stands first; a history point by point. Conditions: none. -/
import Derived.Test.YtlpchgidkibbeaaGreatDoorStrD
namespace Go.Ev
open Go

/-- the stack's loop, the top first -/
def redR : Nat → List Int → Cyc → List Int × Cyc
  | f + 1, d :: c :: b :: a :: r, o => match fourI a b c d with
    | true => redR f (d :: a :: r) (o ++ [(b, c)])
    | false => (d :: c :: b :: a :: r, o)
  | _, s, o => (s, o)
theorem rev4 (a b c d : Int) (r : List Int) : (d :: c :: b :: a :: r).reverse = r.reverse ++ [a, b, c, d] := by simp
theorem getD4 (r : List Int) (t : List Int) (i : Nat) : (r.reverse ++ t).getD (r.length + i) 0 = t.getD i 0 := by
  simp only [List.getD_eq_getElem?_getD]
  rw [List.getElem?_append_right (by simp)]
  simp
theorem rfIn_rev : ∀ (f : Nat) (s : List Int) (o : Cyc), rfIn f s.reverse o = ((redR f s o).1.reverse, (redR f s o).2)
  | 0, s, o => by cases s <;> rfl
  | f + 1, d :: c :: b :: a :: r, o => by
    have hl : (d :: c :: b :: a :: r).reverse.length = r.length + 4 := by simp
    unfold rfIn redR
    rw [hl, rev4, show r.length + 4 - 4 = r.length + 0 by omega, show r.length + 4 - 3 = r.length + 1 by omega, show r.length + 4 - 2 = r.length + 2 by omega]
    unfold fourAt
    rw [getD4, show r.length + 0 + 1 = r.length + 1 by omega, show r.length + 0 + 2 = r.length + 2 by omega, show r.length + 0 + 3 = r.length + 3 by omega, getD4, getD4, getD4]
    rw [show decide (4 ≤ r.length + 4) = true by simp, Bool.true_and]
    show (match fourI a b c d with | true => _ | false => _) = _
    cases fourI a b c d with
    | false => simp
    | true =>
      simp only
      have hc : cutAt (r.reverse ++ [a, b, c, d]) (r.length + 0) = (d :: a :: r).reverse := by
        unfold cutAt
        rw [List.take_append, List.drop_append]
        rw [List.take_of_length_le (by simp), List.drop_of_length_le (by simp), List.length_reverse, show r.length + 0 + 1 - r.length = 1 by omega, show r.length + 0 + 3 - r.length = 3 by omega]
        simp
      rw [hc]
      exact rfIn_rev f (d :: a :: r) (o ++ [(b, c)])
  | f + 1, [], o => rfl
  | f + 1, [a], o => rfl
  | f + 1, [a, b], o => rfl
  | f + 1, [a, b, c], o => rfl
theorem redR_fuel : ∀ (f g : Nat) (s : List Int) (o : Cyc), s.length ≤ f → s.length ≤ g → redR f s o = redR g s o
  | f + 1, g + 1, d :: c :: b :: a :: r, o, hf, hg => by
    unfold redR
    cases fourI a b c d with
    | false => rfl
    | true =>
      simp only [List.length_cons] at hf hg
      exact redR_fuel f g (d :: a :: r) _ (by simp only [List.length_cons]; omega) (by simp only [List.length_cons]; omega)
  | f, g, [], o, _, _ => by cases f <;> cases g <;> rfl
  | f, g, [a], o, _, _ => by cases f <;> cases g <;> rfl
  | f, g, [a, b], o, _, _ => by cases f <;> cases g <;> rfl
  | f, g, [a, b, c], o, _, _ => by cases f <;> cases g <;> rfl
  | 0, _, _ :: _ :: _ :: _ :: _, _, h, _ => by simp at h
  | _ + 1, 0, _ :: _ :: _ :: _ :: _, _, _, h => by simp at h
theorem redR_len : ∀ (f : Nat) (s : List Int) (o : Cyc), (redR f s o).1.length ≤ s.length
  | f + 1, d :: c :: b :: a :: r, o => by
    unfold redR
    cases fourI a b c d with
    | false => exact Nat.le_refl _
    | true =>
      have := redR_len f (d :: a :: r) (o ++ [(b, c)])
      simp only [List.length_cons] at this ⊢
      omega
  | f, [], o => by cases f <;> exact Nat.le_refl _
  | f, [a], o => by cases f <;> exact Nat.le_refl _
  | f, [a, b], o => by cases f <;> exact Nat.le_refl _
  | f, [a, b, c], o => by cases f <;> exact Nat.le_refl _
  | 0, _ :: _ :: _ :: _ :: _, o => Nat.le_refl _
/-- a stack whose turns go up and down by turns -/
def altR : List Int → Prop
  | a :: b :: c :: r => ((a < b ∧ c < b) ∨ (b < a ∧ b < c)) ∧ altR (b :: c :: r)
  | [a, b] => a ≠ b
  | _ => True
theorem altR_two {a b : Int} {r : List Int} (h : altR (a :: b :: r)) : a ≠ b ∧ altR (b :: r) := by
  cases r with
  | nil => exact ⟨h, trivial⟩
  | cons c r => exact ⟨by have := h.1; omega, h.2⟩
/-- a top that is replaced by one that lies beyond it: what the old one closes, the new one closes, too -/
theorem red_cont : ∀ (f : Nat) (t : List Int) (y x : Int) (o : Cyc), altR (y :: t) → (∀ z r, t = z :: r → (z < y ∧ y ≤ x) ∨ (y < z ∧ x ≤ y)) → t.length + 1 ≤ f →
    ∃ t', (redR f (y :: t) o).1 = y :: t' ∧ redR f (x :: t) o = redR f (x :: t') (redR f (y :: t) o).2 ∧ altR (y :: t') ∧ ∀ z r, t' = z :: r → (z < y ∧ y ≤ x) ∨ (y < z ∧ x ≤ y)
  | f + 1, c :: b :: a :: r, y, x, o, hA, hx, hf => by
    have hb := hx c _ rfl
    obtain ⟨h1, h2, h3⟩ := hA
    cases hq : fourI a b c y with
    | false =>
      have e : redR (f + 1) (y :: c :: b :: a :: r) o = (y :: c :: b :: a :: r, o) := by unfold redR; rw [hq]
      exact ⟨c :: b :: a :: r, by rw [e], by rw [e], ⟨h1, h2, h3⟩, hx⟩
    | true =>
      unfold fourI at hq
      simp only [Bool.and_eq_true, decide_eq_true_eq] at hq
      have hq2 : fourI a b c x = true := by
        unfold fourI
        simp only [Bool.and_eq_true, decide_eq_true_eq]
        omega
      have hq1 : fourI a b c y = true := by
        unfold fourI
        simp only [Bool.and_eq_true, decide_eq_true_eq]
        exact hq
      have e1 : redR (f + 1) (y :: c :: b :: a :: r) o = redR f (y :: a :: r) (o ++ [(b, c)]) := by rw [redR]; rw [hq1]
      have e2 : redR (f + 1) (x :: c :: b :: a :: r) o = redR f (x :: a :: r) (o ++ [(b, c)]) := by rw [redR]; rw [hq2]
      have hA' : altR (y :: a :: r) := by
        cases r with
        | nil => show y ≠ a; omega
        | cons p r => exact ⟨by have := h3.1; omega, h3.2⟩
      obtain ⟨t', q1, q2, q3, q4⟩ := red_cont f (a :: r) y x (o ++ [(b, c)]) hA' (fun z r' e => by injection e with e1 _; subst e1; omega) (by simp only [List.length_cons] at hf ⊢; omega)
      rw [e1, e2]
      refine ⟨t', q1, ?_, q3, q4⟩
      have hl := redR_len f (y :: a :: r) (o ++ [(b, c)])
      rw [q1] at hl
      simp only [List.length_cons] at hl hf
      rw [q2]
      exact redR_fuel f (f + 1) (x :: t') _ (by simp only [List.length_cons]; omega) (by simp only [List.length_cons]; omega)
  | f + 1, [], y, x, o, hA, hx, _ => ⟨[], rfl, rfl, hA, hx⟩
  | f + 1, [c], y, x, o, hA, hx, _ => ⟨[c], rfl, rfl, hA, hx⟩
  | f + 1, [c, b], y, x, o, hA, hx, _ => ⟨[c, b], rfl, rfl, hA, hx⟩
/-! ### point by point -/
def red (s : List Int) (o : Cyc) : List Int × Cyc := redR s.length s o
theorem redR_red {f : Nat} {s : List Int} {o : Cyc} (h : s.length ≤ f) : redR f s o = red s o := redR_fuel f s.length s o h (Nat.le_refl _)
theorem redR_step (f : Nat) (a b c d : Int) (r : List Int) (o : Cyc) : redR (f + 1) (d :: c :: b :: a :: r) o = match fourI a b c d with
  | true => redR f (d :: a :: r) (o ++ [(b, c)])
  | false => (d :: c :: b :: a :: r, o) := by rw [redR]
/-- what was taken before stays ahead -/
theorem redR_acc : ∀ (f : Nat) (s : List Int) (p o : Cyc), redR f s (p ++ o) = ((redR f s o).1, p ++ (redR f s o).2)
  | f + 1, d :: c :: b :: a :: r, p, o => by
    rw [redR_step, redR_step]
    cases fourI a b c d with
    | false => rfl
    | true =>
      simp only
      rw [List.append_assoc]
      exact redR_acc f _ p _
  | f, [], p, o => by cases f <;> rfl
  | f, [a], p, o => by cases f <;> rfl
  | f, [a, b], p, o => by cases f <;> rfl
  | f, [a, b, c], p, o => by cases f <;> rfl
  | 0, _ :: _ :: _ :: _ :: _, p, o => rfl
theorem red_acc (s : List Int) (p o : Cyc) : red s (p ++ o) = ((red s o).1, p ++ (red s o).2) := redR_acc _ s p o
theorem redR_bd : ∀ (f : Nat) (s : List Int) (o : Cyc), (redR f s o).1.length + 2 * (redR f s o).2.length = s.length + 2 * o.length
  | f + 1, d :: c :: b :: a :: r, o => by
    rw [redR_step]
    cases fourI a b c d with
    | false => rfl
    | true =>
      have := redR_bd f (d :: a :: r) (o ++ [(b, c)])
      simp only [List.length_cons, List.length_append, List.length_nil] at this ⊢
      omega
  | f, [], o => by cases f <;> rfl
  | f, [a], o => by cases f <;> rfl
  | f, [a, b], o => by cases f <;> rfl
  | f, [a, b, c], o => by cases f <;> rfl
  | 0, _ :: _ :: _ :: _ :: _, o => rfl
/-- two stacks under one top: the same side -/
def sideR (y : Int) : List Int → List Int → Prop
  | [], [] => True
  | z :: _, z' :: _ => (z < y ∧ z' < y) ∨ (y < z ∧ y < z')
  | _, _ => False
theorem side_self {y : Int} : ∀ {t : List Int}, altR (y :: t) → sideR y t t
  | [], _ => trivial
  | z :: t, h => by have := (altR_two h).1; show (z < y ∧ z < y) ∨ (y < z ∧ y < z); omega
theorem side_trans {y : Int} : ∀ {a b c : List Int}, sideR y a b → sideR y b c → sideR y a c
  | [], [], [], _, _ => trivial
  | p :: _, q :: _, r :: _, h, k => by
    have h : (p < y ∧ q < y) ∨ (y < p ∧ y < q) := h
    have k : (q < y ∧ r < y) ∨ (y < q ∧ y < r) := k
    show (p < y ∧ r < y) ∨ (y < p ∧ y < r)
    omega
  | [], _ :: _, _, h, _ => h.elim
  | _ :: _, [], _, h, _ => h.elim
  | [], [], _ :: _, _, k => k.elim
  | _ :: _, _ :: _, [], _, k => k.elim
theorem red_side : ∀ (f : Nat) (t : List Int) (y : Int) (o : Cyc), altR (y :: t) → ∃ t', (redR f (y :: t) o).1 = y :: t' ∧ altR (y :: t') ∧ sideR y t t'
  | f + 1, c :: b :: a :: r, y, o, h => by
    have hh := h
    obtain ⟨h1, h2, h3⟩ := h
    rw [redR_step]
    cases hq : fourI a b c y with
    | false => exact ⟨_, rfl, hh, side_self hh⟩
    | true =>
      unfold fourI at hq
      simp only [Bool.and_eq_true, decide_eq_true_eq] at hq
      have hA : altR (y :: a :: r) := by
        cases r with
        | nil => show y ≠ a; omega
        | cons p r => exact ⟨by have := h3.1; omega, h3.2⟩
      obtain ⟨t', q1, q2, q3⟩ := red_side f (a :: r) y (o ++ [(b, c)]) hA
      refine ⟨t', q1, q2, side_trans (show sideR y (c :: b :: a :: r) (a :: r) from ?_) q3⟩
      show (c < y ∧ a < y) ∨ (y < c ∧ y < a)
      omega
  | f, [], y, o, h => ⟨[], by cases f <;> rfl, h, trivial⟩
  | f, [c], y, o, h => ⟨[c], by cases f <;> rfl, h, side_self h⟩
  | f, [c, b], y, o, h => ⟨[c, b], by cases f <;> rfl, h, side_self h⟩
  | 0, c :: b :: a :: r, y, o, h => ⟨c :: b :: a :: r, rfl, h, side_self h⟩
def pushR (q : List Int × Cyc) (x : Int) : List Int × Cyc := red (x :: q.1) q.2
def Link : List Int → List Int → Prop
  | [], [] => True
  | y :: t, y' :: t' => y = y' ∧ sideR y t t'
  | _, _ => False
theorem alt_tail {y : Int} : ∀ {t : List Int}, altR (y :: t) → altR t
  | [], _ => trivial
  | _ :: _, h => (altR_two h).2
theorem alt_link {y : Int} : ∀ {t s : List Int}, altR (y :: t) → Link t s → altR s → altR (y :: s) ∧ sideR y t s
  | [], [], h, _, _ => ⟨h, trivial⟩
  | [], _ :: _, _, h, _ => h.elim
  | _ :: _, [], _, h, _ => h.elim
  | z :: t, z' :: s, h, hl, hs => by
    obtain ⟨e, h2⟩ := hl
    subst e
    have h0 := (altR_two h).1
    refine ⟨?_, by show (z < y ∧ z < y) ∨ (y < z ∧ y < z); omega⟩
    cases s with
    | nil => exact h0
    | cons w' s =>
      cases t with
      | nil => exact h2.elim
      | cons w t =>
        have h1 := h.1
        have h2 : (w < z ∧ w' < z) ∨ (z < w ∧ z < w') := h2
        exact ⟨by omega, hs⟩
theorem link_push : ∀ t : List Int, altR t → Link t (t.reverse.foldl pushR ([], [])).1 ∧ altR (t.reverse.foldl pushR ([], [])).1
  | [], _ => ⟨trivial, trivial⟩
  | y :: t, h => by
    obtain ⟨a, b⟩ := link_push t (alt_tail h)
    rw [List.reverse_cons, List.foldl_append]
    show Link (y :: t) (pushR (t.reverse.foldl pushR ([], [])) y).1 ∧ altR (pushR (t.reverse.foldl pushR ([], [])) y).1
    generalize t.reverse.foldl pushR ([], []) = q at a b ⊢
    obtain ⟨h2, h3⟩ := alt_link h a b
    obtain ⟨t', e, h4, h5⟩ := red_side (y :: q.1).length q.1 y q.2 h2
    have e : (pushR q y).1 = y :: t' := e
    rw [e]
    exact ⟨⟨rfl, side_trans h3 h5⟩, h4⟩
def btw (a b x : Int) : Bool := (decide (a < b) && decide (b < x)) || (decide (b < a) && decide (x < b))
theorem btw_true {a b x : Int} (h : btw a b x = true) : (a < b ∧ b < x) ∨ (b < a ∧ x < b) := by
  unfold btw at h
  simpa only [Bool.or_eq_true, Bool.and_eq_true, decide_eq_true_eq] using h
theorem btw_false {a b x : Int} (h : btw a b x = false) : ¬ ((a < b ∧ b < x) ∨ (b < a ∧ x < b)) := by
  intro g
  have : btw a b x = true := by
    unfold btw
    simpa only [Bool.or_eq_true, Bool.and_eq_true, decide_eq_true_eq] using g
  rw [h] at this
  cases this
/-- the turns of a history, the last one first, point by point -/
def tStep : List Int → Int → List Int
  | [], x => [x]
  | [a], x => match x == a with | true => [a] | false => [x, a]
  | b :: a :: r, x => match x == b with
    | true => b :: a :: r
    | false => match btw a b x with
      | true => x :: a :: r
      | false => x :: b :: a :: r
theorem tS1 (a x : Int) : tStep [a] x = match x == a with | true => [a] | false => [x, a] := rfl
theorem tS2 (b a : Int) (r : List Int) (x : Int) : tStep (b :: a :: r) x = match x == b with
    | true => b :: a :: r
    | false => match btw a b x with
      | true => x :: a :: r
      | false => x :: b :: a :: r := rfl
def stepR (q : List Int × Cyc) (x : Int) : List Int × Cyc := match q with
  | ([], o) => ([x], o)
  | ([a], o) => match x == a with | true => ([a], o) | false => ([x, a], o)
  | (b :: a :: r, o) => match x == b with
    | true => (b :: a :: r, o)
    | false => match btw a b x with
      | true => red (x :: a :: r) o
      | false => red (x :: b :: a :: r) o
theorem sR1 (a : Int) (o : Cyc) (x : Int) : stepR ([a], o) x = match x == a with | true => ([a], o) | false => ([x, a], o) := rfl
theorem sR2 (b a : Int) (r : List Int) (o : Cyc) (x : Int) : stepR (b :: a :: r, o) x = match x == b with
    | true => (b :: a :: r, o)
    | false => match btw a b x with
      | true => red (x :: a :: r) o
      | false => red (x :: b :: a :: r) o := rfl
theorem alt_step : ∀ (t : List Int) (x : Int), altR t → altR (tStep t x)
  | [], x, _ => trivial
  | [a], x, _ => by
    rw [tS1]
    cases h : x == a with
    | true => trivial
    | false => show x ≠ a; simpa using h
  | b :: a :: r, x, h => by
    rw [tS2]
    cases hx : x == b with
    | true => exact h
    | false =>
      have hx : x ≠ b := by simpa using hx
      cases hb : btw a b x with
      | true =>
        have hb := btw_true hb
        show altR (x :: a :: r)
        cases r with
        | nil => show x ≠ a; omega
        | cons c r => have := h.1; exact ⟨by omega, h.2⟩
      | false =>
        have hb := btw_false hb
        have := (altR_two h).1
        exact ⟨by omega, h⟩
theorem push_step (t : List Int) (x : Int) (h : altR t) : (tStep t x).reverse.foldl pushR ([], []) = stepR (t.reverse.foldl pushR ([], [])) x := by
  match t, h with
  | [], _ => rfl
  | [a], _ =>
    show (tStep [a] x).reverse.foldl pushR ([], []) = stepR ([a], []) x
    rw [tS1, sR1]
    cases hx : x == a with
    | true => rfl
    | false => rfl
  | b :: a :: r, h =>
    obtain ⟨l1, l2⟩ := link_push (a :: r) (alt_tail h)
    have e0 : (b :: a :: r).reverse.foldl pushR ([], []) = pushR ((a :: r).reverse.foldl pushR ([], [])) b := by rw [List.reverse_cons, List.foldl_append]; rfl
    have e1 : ∀ y, (y :: a :: r).reverse.foldl pushR ([], []) = pushR ((a :: r).reverse.foldl pushR ([], [])) y := fun y => by rw [List.reverse_cons, List.foldl_append]; rfl
    have e2 : ∀ y, (y :: b :: a :: r).reverse.foldl pushR ([], []) = pushR (pushR ((a :: r).reverse.foldl pushR ([], [])) b) y := fun y => by rw [List.reverse_cons, List.foldl_append, ← e0]; rfl
    rw [e0, tS2]
    generalize (a :: r).reverse.foldl pushR ([], []) = q at *
    obtain ⟨s, o⟩ := q
    simp only at l1 l2
    obtain ⟨h2, h3⟩ := alt_link h l1 l2
    obtain ⟨t', q1, q2, q3⟩ := red_side (b :: s).length s b o h2
    have q1 : (pushR (s, o) b).1 = b :: t' := q1
    have q4 := side_trans h3 q3
    match t', q1, q2, q4 with
    | [], _, _, k => exact k.elim
    | a' :: r', q1, q2, q4 =>
      have q4 : (a < b ∧ a' < b) ∨ (b < a ∧ b < a') := q4
      have hq : pushR (s, o) b = (b :: a' :: r', (pushR (s, o) b).2) := by rw [← q1]
      rw [hq, sR2]
      cases hx : x == b with
      | true => simp only; rw [e0, ← hq]
      | false =>
        have eb : btw a' b x = btw a b x := by
          rw [Bool.eq_iff_iff]
          constructor
          · intro g; have g := btw_true g; cases k : btw a b x with | true => rfl | false => have := btw_false k; omega
          · intro g; have g := btw_true g; cases k : btw a' b x with | true => rfl | false => have := btw_false k; omega
        rw [eb]
        cases hb : btw a b x with
        | true =>
          have hb := btw_true hb
          simp only
          rw [e1]
          obtain ⟨t2, p1, p2, _, _⟩ := red_cont ((b :: s).length) s b x o h2 (fun z r e => by
            subst e
            have h3 : (a < b ∧ z < b) ∨ (b < a ∧ b < z) := h3
            omega) (Nat.le_refl _)
          have p1 : (pushR (s, o) b).1 = b :: t2 := p1
          rw [q1] at p1
          injection p1 with _ p1
          subst p1
          show red (x :: s) o = red (x :: a' :: r') (pushR (s, o) b).2
          have p2 : red (x :: s) o = redR (b :: s).length (x :: a' :: r') (pushR (s, o) b).2 := p2
          rw [p2]
          have hl := redR_len (b :: s).length (b :: s) o
          have hl : (pushR (s, o) b).1.length ≤ (b :: s).length := hl
          rw [q1] at hl
          exact redR_red hl
        | false =>
          simp only
          rw [e2, hq]
          rfl
theorem alt_fold : ∀ (h t : List Int), altR t → altR (h.foldl tStep t)
  | [], t, ht => ht
  | x :: h, t, ht => alt_fold h (tStep t x) (alt_step t x ht)
theorem push_fold : ∀ (h t : List Int), altR t → (h.foldl tStep t).reverse.foldl pushR ([], []) = h.foldl stepR (t.reverse.foldl pushR ([], []))
  | [], _, _ => rfl
  | x :: h, t, ht => by
    show ((h.foldl tStep (tStep t x)).reverse.foldl pushR ([], [])) = h.foldl stepR (stepR (t.reverse.foldl pushR ([], [])) x)
    rw [← push_step t x ht]
    exact push_fold h (tStep t x) (alt_step t x ht)
/-- turns, and what they come to -/
def trn (h : List Int) : List Int := (h.foldl tStep []).reverse
def flow (h : List Int) : List Int × Cyc := h.foldl stepR ([], [])
theorem flow_trn (h : List Int) : (trn h).foldl pushR ([], []) = flow h := push_fold h [] trivial
theorem flow_alt (h : List Int) : altR (flow h).1 := by
  rw [← flow_trn]
  exact (link_push _ (alt_fold h [] trivial)).2
/-! ### what is left is calm -/
def calmR : List Int → Prop
  | d :: c :: b :: a :: r => fourI a b c d = false ∧ calmR (c :: b :: a :: r)
  | _ => True
theorem calm_tl : ∀ {s : List Int}, calmR s → calmR s.tail
  | [], _ => trivial
  | [_], _ => trivial
  | [_, _], _ => trivial
  | [_, _, _], _ => trivial
  | _ :: _ :: _ :: _ :: _, h => h.2
theorem calm_red : ∀ (f : Nat) (s : List Int) (o : Cyc), s.length ≤ f → calmR s.tail → calmR (redR f s o).1
  | f + 1, d :: c :: b :: a :: r, o, hf, h => by
    rw [redR_step]
    cases hq : fourI a b c d with
    | false => exact ⟨hq, h⟩
    | true =>
      simp only [List.length_cons] at hf
      have h1 : calmR (b :: a :: r) := calm_tl (s := c :: b :: a :: r) h
      have h2 : calmR (a :: r) := calm_tl h1
      exact calm_red f (d :: a :: r) _ (by simp only [List.length_cons]; omega) h2
  | f, [], o, _, _ => by cases f <;> trivial
  | f, [a], o, _, _ => by cases f <;> trivial
  | f, [a, b], o, _, _ => by cases f <;> trivial
  | f, [a, b, c], o, _, _ => by cases f <;> trivial
  | 0, _ :: _ :: _ :: _ :: _, _, h, _ => by simp at h
theorem calm_step (q : List Int × Cyc) (x : Int) (h : calmR q.1) : calmR (stepR q x).1 := by
  match q, h with
  | ([], o), _ => trivial
  | ([a], o), _ =>
    rw [sR1]
    cases x == a <;> trivial
  | (b :: a :: r, o), h =>
    rw [sR2]
    cases x == b with
    | true => exact h
    | false =>
      cases btw a b x with
      | true =>
        have h1 : calmR (a :: r) := calm_tl (s := b :: a :: r) h
        exact calm_red _ (x :: a :: r) o (Nat.le_refl _) h1
      | false => exact calm_red _ (x :: b :: a :: r) o (Nat.le_refl _) h
theorem calm_fold : ∀ (h : List Int) (q : List Int × Cyc), calmR q.1 → calmR (h.foldl stepR q).1
  | [], _, hq => hq
  | x :: h, q, hq => calm_fold h (stepR q x) (calm_step q x hq)
theorem red_calm : ∀ (s : List Int) (o : Cyc), calmR s → red s o = (s, o)
  | d :: c :: b :: a :: r, o, h => by
    show redR (r.length + 3 + 1) _ _ = _
    rw [redR_step, h.1]
  | [], o, _ => rfl
  | [a], o, _ => rfl
  | [a, b], o, _ => rfl
  | [a, b, c], o, _ => rfl
/-- a rest goes through as it is -/
theorem settled : ∀ (s : List Int), altR s → calmR s → s.reverse.foldl stepR ([], []) = (s, [])
  | [], _, _ => rfl
  | x :: t, h, hc => by
    rw [List.reverse_cons, List.foldl_append, settled t (alt_tail h) (calm_tl hc)]
    show stepR (t, []) x = (x :: t, [])
    match t, h, hc with
    | [], _, _ => rfl
    | [a], h, _ =>
      have h : x ≠ a := h
      rw [sR1, show (x == a) = false by simpa using h]
    | b :: a :: r, h, hc =>
      have h1 := h.1
      rw [sR2, show (x == b) = false by simp only [beq_eq_false_iff_ne, ne_eq]; omega]
      simp only
      cases hb : btw a b x with
      | true => have := btw_true hb; omega
      | false => exact red_calm _ _ hc
theorem step_acc (s : List Int) (p o : Cyc) (x : Int) : stepR (s, p ++ o) x = ((stepR (s, o) x).1, p ++ (stepR (s, o) x).2) := by
  match s with
  | [] => rfl
  | [a] =>
    rw [sR1, sR1]
    cases x == a <;> rfl
  | b :: a :: r =>
    rw [sR2, sR2]
    cases x == b with
    | true => rfl
    | false =>
      cases btw a b x with
      | true => exact red_acc _ _ _
      | false => exact red_acc _ _ _
theorem fold_acc : ∀ (h s : List Int) (p o : Cyc), h.foldl stepR (s, p ++ o) = ((h.foldl stepR (s, o)).1, p ++ (h.foldl stepR (s, o)).2)
  | [], s, p, o => rfl
  | x :: h, s, p, o => by
    show h.foldl stepR (stepR (s, p ++ o) x) = ((h.foldl stepR (stepR (s, o) x)).1, p ++ (h.foldl stepR (stepR (s, o) x)).2)
    rw [step_acc]
    exact fold_acc h _ p _
/-- a history in two parts -/
theorem flow_cut (h1 h2 : List Int) : flow ((flow h1).1.reverse ++ h2) = ((flow (h1 ++ h2)).1, (flow ((flow h1).1.reverse ++ h2)).2) ∧ (flow (h1 ++ h2)).2 = (flow h1).2 ++ (flow ((flow h1).1.reverse ++ h2)).2 := by
  have e1 : flow ((flow h1).1.reverse ++ h2) = h2.foldl stepR ((flow h1).1, []) := by
    have hs := settled _ (flow_alt h1) (calm_fold h1 ([], []) trivial)
    show ((flow h1).1.reverse ++ h2).foldl stepR ([], []) = _
    rw [List.foldl_append, hs]
  have e2 : flow (h1 ++ h2) = h2.foldl stepR ((flow h1).1, (flow h1).2 ++ []) := by
    unfold flow
    rw [List.foldl_append, List.append_nil]
  rw [e1, e2, fold_acc]
  exact ⟨rfl, rfl⟩
theorem trn_self : ∀ t : List Int, altR t → t.reverse.foldl tStep [] = t
  | [], _ => rfl
  | x :: t, h => by
    rw [List.reverse_cons, List.foldl_append, trn_self t (alt_tail h)]
    show tStep t x = x :: t
    match t, h with
    | [], _ => rfl
    | [a], h =>
      have h : x ≠ a := h
      rw [tS1, show (x == a) = false by simpa using h]
    | b :: a :: r, h =>
      have h1 := h.1
      rw [tS2, show (x == b) = false by simp only [beq_eq_false_iff_ne, ne_eq]; omega]
      simp only
      cases hb : btw a b x with
      | true => have := btw_true hb; omega
      | false => rfl
theorem trn_trn (h : List Int) : trn (trn h) = trn h := by
  show ((h.foldl tStep []).reverse.foldl tStep []).reverse = _
  rw [trn_self _ (alt_fold h [] trivial)]
  rfl
/-! ### the opposite sign -/
def neg1 (x : Int) : Int := -x
def neg2 (c : Int × Int) : Int × Int := (-c.1, -c.2)
theorem four_neg (a b c d : Int) : fourI (-a) (-b) (-c) (-d) = fourI a b c d := by
  unfold fourI
  rw [show (-b - -c).natAbs = (b - c).natAbs by omega, show (-a - -b).natAbs = (a - b).natAbs by omega, show (-c - -d).natAbs = (c - d).natAbs by omega]
theorem redR_neg : ∀ (f : Nat) (s : List Int) (o : Cyc), redR f (s.map neg1) (o.map neg2) = ((redR f s o).1.map neg1, (redR f s o).2.map neg2)
  | f + 1, d :: c :: b :: a :: r, o => by
    show redR (f + 1) (-d :: -c :: -b :: -a :: r.map neg1) (o.map neg2) = _
    rw [redR_step, redR_step, four_neg]
    cases fourI a b c d with
    | false => rfl
    | true =>
      have := redR_neg f (d :: a :: r) (o ++ [(b, c)])
      rw [List.map_append] at this
      exact this
  | f, [], o => by cases f <;> rfl
  | f, [a], o => by cases f <;> rfl
  | f, [a, b], o => by cases f <;> rfl
  | f, [a, b, c], o => by cases f <;> rfl
  | 0, _ :: _ :: _ :: _ :: _, o => rfl
theorem red_neg (s : List Int) (o : Cyc) : red (s.map neg1) (o.map neg2) = ((red s o).1.map neg1, (red s o).2.map neg2) := by
  unfold red
  rw [List.length_map]
  exact redR_neg _ s o
theorem btw_neg (a b x : Int) : btw (-a) (-b) (-x) = btw a b x := by
  rw [Bool.eq_iff_iff]
  constructor
  · intro g; have g := btw_true g; cases k : btw a b x with | true => rfl | false => have := btw_false k; omega
  · intro g; have g := btw_true g; cases k : btw (-a) (-b) (-x) with | true => rfl | false => have := btw_false k; omega
theorem beq_neg (a b : Int) : (-a == -b) = (a == b) := by
  rw [Bool.eq_iff_iff, beq_iff_eq, beq_iff_eq]
  omega
theorem step_neg (q : List Int × Cyc) (x : Int) : stepR (q.1.map neg1, q.2.map neg2) (-x) = ((stepR q x).1.map neg1, (stepR q x).2.map neg2) := by
  match q with
  | ([], o) => rfl
  | ([a], o) =>
    show stepR ([-a], o.map neg2) (-x) = _
    rw [sR1, sR1, beq_neg]
    cases x == a <;> rfl
  | (b :: a :: r, o) =>
    show stepR (-b :: -a :: r.map neg1, o.map neg2) (-x) = _
    rw [sR2, sR2, beq_neg, btw_neg]
    cases x == b with
    | true => rfl
    | false =>
      cases btw a b x with
      | true => exact red_neg (x :: a :: r) o
      | false => exact red_neg (x :: b :: a :: r) o
theorem fold_neg : ∀ (h : List Int) (q : List Int × Cyc), (h.map neg1).foldl stepR (q.1.map neg1, q.2.map neg2) = ((h.foldl stepR q).1.map neg1, (h.foldl stepR q).2.map neg2)
  | [], q => rfl
  | x :: h, q => by
    show (h.map neg1).foldl stepR (stepR (q.1.map neg1, q.2.map neg2) (-x)) = _
    rw [step_neg]
    exact fold_neg h (stepR q x)
theorem flow_neg (h : List Int) : flow (h.map neg1) = ((flow h).1.map neg1, (flow h).2.map neg2) := fold_neg h ([], [])
/-! ### sizes -/
theorem push_bd (q : List Int × Cyc) (x : Int) : (pushR q x).1.length + 2 * (pushR q x).2.length = q.1.length + 1 + 2 * q.2.length := by
  have := redR_bd (x :: q.1).length (x :: q.1) q.2
  exact this
theorem flow_bd (h : List Int) : (flow h).1.length + 2 * (flow h).2.length = (trn h).length := by
  have key : ∀ (t : List Int) (q : List Int × Cyc), (t.foldl pushR q).1.length + 2 * (t.foldl pushR q).2.length = q.1.length + 2 * q.2.length + t.length := fun t => by
    induction t with
    | nil => intro q; rfl
    | cons x t ih =>
      intro q
      have := ih (pushR q x)
      have := push_bd q x
      simp only [List.foldl_cons, List.length_cons]
      omega
  have := key (trn h) ([], [])
  rw [flow_trn] at this
  simpa using this
/-! ### each turn is in the rest or in a cycle -/
def cntI (v : Int) : List Int → Int
  | [] => 0
  | x :: l => (if x = v then 1 else 0) + cntI v l
theorem cntI_app (v : Int) : ∀ a b : List Int, cntI v (a ++ b) = cntI v a + cntI v b
  | [], b => by simp [cntI]
  | x :: a, b => by
    show (if x = v then 1 else 0) + cntI v (a ++ b) = (if x = v then 1 else 0) + cntI v a + cntI v b
    rw [cntI_app v a b]
    omega
theorem cntI_rev (v : Int) : ∀ a : List Int, cntI v a.reverse = cntI v a
  | [] => rfl
  | x :: a => by
    rw [List.reverse_cons, cntI_app, cntI_rev v a]
    simp only [cntI]
    omega
def ends (v : Int) (o : Cyc) : Int := cntI v (o.map (·.1)) + cntI v (o.map (·.2))
theorem ends_app (v : Int) (a b : Cyc) : ends v (a ++ b) = ends v a + ends v b := by
  unfold ends
  rw [List.map_append, List.map_append, cntI_app, cntI_app]
  omega
theorem redR_cnt (v : Int) : ∀ (f : Nat) (s : List Int) (o : Cyc), cntI v (redR f s o).1 + ends v (redR f s o).2 = cntI v s + ends v o
  | f + 1, d :: c :: b :: a :: r, o => by
    rw [redR_step]
    cases fourI a b c d with
    | false => rfl
    | true =>
      have := redR_cnt v f (d :: a :: r) (o ++ [(b, c)])
      rw [ends_app] at this
      simp only
      rw [this]
      simp only [ends, cntI, List.map_cons, List.map_nil]
      omega
  | f, [], o => by cases f <;> rfl
  | f, [a], o => by cases f <;> rfl
  | f, [a, b], o => by cases f <;> rfl
  | f, [a, b, c], o => by cases f <;> rfl
  | 0, _ :: _ :: _ :: _ :: _, o => rfl
theorem flow_cnt (h : List Int) (v : Int) : cntI v (flow h).1 + ends v (flow h).2 = cntI v (trn h) := by
  have key : ∀ (t : List Int) (q : List Int × Cyc), cntI v (t.foldl pushR q).1 + ends v (t.foldl pushR q).2 = cntI v q.1 + ends v q.2 + cntI v t := fun t => by
    induction t with
    | nil => intro q; simp [cntI]
    | cons x t ih =>
      intro q
      have h1 := ih (pushR q x)
      have h2 := redR_cnt v (x :: q.1).length (x :: q.1) q.2
      have h2 : cntI v (pushR q x).1 + ends v (pushR q x).2 = cntI v (x :: q.1) + ends v q.2 := h2
      simp only [List.foldl_cons]
      rw [h1, h2]
      simp only [cntI]
      omega
  have := key (trn h) ([], [])
  rw [flow_trn] at this
  rw [this]
  simp [cntI, ends]
/-! ### as the program's loops come to it -/
theorem rfOut_push : ∀ (r s : List Int) (o : Cyc), rfOut r s.reverse o = ((r.foldl pushR (s, o)).1.reverse, (r.foldl pushR (s, o)).2)
  | [], s, o => rfl
  | n :: r, s, o => by
    unfold rfOut
    have e : s.reverse ++ [n] = (n :: s).reverse := by simp
    have e2 : redR (s.reverse.length + 1) (n :: s) o = pushR (s, o) n := by
      rw [List.length_reverse]
      exact redR_red (Nat.le_refl _)
    rw [e, rfIn_rev, e2]
    exact rfOut_push r (pushR (s, o) n).1 (pushR (s, o) n).2
theorem rfOut_flow (h : List Int) : rfOut (trn h) [] [] = ((flow h).1.reverse, (flow h).2) := by
  rw [← flow_trn]
  exact rfOut_push (trn h) [] []
/-! ### the turns, as the program's loops come to them -/
def his (z : Nat → Int) (k : Nat) : List Int := (List.range k).map z
theorem his_succ (z : Nat → Int) (k : Nat) : his z (k + 1) = his z k ++ [z k] := by
  unfold his
  rw [List.range_succ, List.map_append]
  rfl
theorem top_step (t : List Int) (x : Int) : ∃ r, tStep t x = x :: r := by
  match t with
  | [] => exact ⟨[], rfl⟩
  | [a] =>
    rw [tS1]
    cases h : x == a with
    | true => exact ⟨[], by rw [beq_iff_eq] at h; rw [h]⟩
    | false => exact ⟨[a], rfl⟩
  | b :: a :: r =>
    rw [tS2]
    cases h : x == b with
    | true => exact ⟨a :: r, by rw [beq_iff_eq] at h; rw [h]⟩
    | false => cases btw a b x with
      | true => exact ⟨a :: r, rfl⟩
      | false => exact ⟨b :: a :: r, rfl⟩
theorem same_step (x : Int) (r : List Int) : tStep (x :: r) x = x :: r := by
  cases r with
  | nil => rw [tS1, show (x == x) = true by simp]
  | cons a r => rw [tS2, show (x == x) = true by simp]
theorem fold_last (l : List Int) (x : Int) : ∃ r, (l ++ [x]).foldl tStep [] = x :: r := by
  rw [List.foldl_append]
  exact top_step _ x
theorem toL_lastD (s : L2) (h : 1 ≤ s.1) : ∃ l, toL s = l ++ [s.2 (s.1 - 1)] := by
  obtain ⟨m, f⟩ := s
  cases m with
  | zero => exact absurd h (Nat.not_succ_le_zero 0)
  | succ m =>
    refine ⟨(List.range m).map f, ?_⟩
    unfold toL
    simp only
    rw [List.range_succ, List.map_append]
    rfl
theorem ded_trn (z : Nat → Int) : ∀ k, (his z k).foldl tStep [] = (toL (dedS z k)).foldl tStep []
  | 0 => rfl
  | k + 1 => by
    have hd : dedS z (k + 1) = match ((k : Int) == 0) || (z k != z (k - 1)) with | true => pushL (dedS z k) (z k) | false => dedS z k := rfl
    rw [his_succ, List.foldl_append, ded_trn z k, hd]
    cases hc : ((k : Int) == 0) || (z k != z (k - 1)) with
    | true =>
      simp only
      rw [toL_push, List.foldl_append]
    | false =>
      simp only [Bool.or_eq_false_iff, beq_eq_false_iff_ne, bne_eq_false_iff_eq, ne_eq] at hc
      have hk : 1 ≤ k := by omega
      obtain ⟨l, hl⟩ := toL_lastD (dedS z k) (dedS_pos z k hk)
      rw [(ded_facts z k).1 hk] at hl
      obtain ⟨r, hr⟩ := fold_last l (z (k - 1))
      simp only
      rw [hl, hr, hc.2]
      exact same_step _ _
def coreS (f : Nat → Int) : Nat → List Int
  | 0 => []
  | k + 1 => match decide (0 < k) && btw (f (k - 1)) (f k) (f (k + 1)) with
    | true => coreS f k
    | false => f k :: coreS f k
theorem core_nil {f : Nat → Int} : ∀ {k : Nat}, coreS f k = [] → k = 0
  | 0, _ => rfl
  | 1, h => by
    unfold coreS at h
    simp at h
  | k + 2, h => by
    unfold coreS at h
    split at h
    · have := core_nil h; omega
    · cases h
theorem core_trn {f : Nat → Int} {M : Nat} (hf : ∀ i, i + 1 < M → f (i + 1) ≠ f i) : ∀ k, k < M → (his f (k + 1)).foldl tStep [] = f k :: coreS f k ∧ ∀ z r, coreS f k = z :: r → (z < f k ∧ f (k - 1) < f k) ∨ (f k < z ∧ f k < f (k - 1))
  | 0, _ => ⟨rfl, fun z r e => by cases e⟩
  | k + 1, hk => by
    obtain ⟨h1, h2⟩ := core_trn hf k (by omega)
    have hx := hf k (by omega)
    have hs : coreS f (k + 1) = match decide (0 < k) && btw (f (k - 1)) (f k) (f (k + 1)) with | true => coreS f k | false => f k :: coreS f k := rfl
    rw [his_succ, List.foldl_append, h1, hs, Nat.add_sub_cancel]
    show tStep (f k :: coreS f k) (f (k + 1)) = _ ∧ _
    have hne : (f (k + 1) == f k) = false := by simpa using hx
    cases hc : coreS f k with
    | nil =>
      have hk0 := core_nil hc
      subst hk0
      rw [show (decide (0 < 0) && btw (f (0 - 1)) (f 0) (f (0 + 1))) = false by simp]
      rw [tS1, hne]
      refine ⟨rfl, fun z r e => ?_⟩
      injection e with e _
      subst e
      omega
    | cons z r =>
      have hz := h2 z r hc
      have hk0 : 0 < k := by
        rcases Nat.eq_zero_or_pos k with h | h
        · subst h; cases hc
        · exact h
      rw [show decide (0 < k) = true by simpa using hk0, Bool.true_and]
      rw [tS2, hne]
      simp only
      have eb : btw z (f k) (f (k + 1)) = btw (f (k - 1)) (f k) (f (k + 1)) := by
        rw [Bool.eq_iff_iff]
        constructor
        · intro g; have g := btw_true g; cases q : btw (f (k - 1)) (f k) (f (k + 1)) with | true => rfl | false => have := btw_false q; omega
        · intro g; have g := btw_true g; cases q : btw z (f k) (f (k + 1)) with | true => rfl | false => have := btw_false q; omega
      rw [eb]
      cases hb : btw (f (k - 1)) (f k) (f (k + 1)) with
      | true =>
        have hb := btw_true hb
        refine ⟨rfl, fun z' r' e => ?_⟩
        injection e with e _
        subst e
        omega
      | false =>
        refine ⟨rfl, fun z' r' e => ?_⟩
        injection e with e _
        subst e
        omega
theorem btw_bet {a x b : Int} (h1 : x ≠ a) (h2 : b ≠ x) : betQ a x b = btw a x b := by
  rw [← bet_eq h1 h2, Bool.eq_iff_iff]
  unfold btw
  rw [beq_iff_eq, Bool.or_eq_true, Bool.and_eq_true, Bool.and_eq_true, decide_eq_decide]
  simp only [decide_eq_true_eq]
  omega
theorem sel_core {f : Nat → Int} {M : Nat} (hf : ∀ i, i + 1 < M → f (i + 1) ≠ f i) : ∀ k, k < M → toL (selS M f k) = (coreS f k).reverse
  | 0, _ => rfl
  | k + 1, hk => by
    have hs : selS M f (k + 1) = match skipQ M f k with | true => selS M f k | false => pushL (selS M f k) (f k) := rfl
    have hc : coreS f (k + 1) = match decide (0 < k) && btw (f (k - 1)) (f k) (f (k + 1)) with | true => coreS f k | false => f k :: coreS f k := rfl
    have e : skipQ M f k = (decide (0 < k) && btw (f (k - 1)) (f k) (f (k + 1))) := by
      unfold skipQ
      rcases Nat.eq_zero_or_pos k with h | h
      · subst h; rfl
      · rw [show decide ((k : Int) > 0) = true by simp only [decide_eq_true_eq]; omega, show decide (((k + 1 : Nat) : Int) < (M : Int)) = true by simp only [decide_eq_true_eq]; omega, show decide (0 < k) = true by simpa using h, Bool.true_and]
        have h1 := hf (k - 1) (by omega)
        rw [show k - 1 + 1 = k by omega] at h1
        exact btw_bet h1 (hf k hk)
    rw [hs, hc, e]
    cases decide (0 < k) && btw (f (k - 1)) (f k) (f (k + 1)) with
    | true => exact sel_core hf k (by omega)
    | false =>
      simp only
      rw [toL_push, sel_core hf k (by omega), List.reverse_cons]
theorem sel_trn {f : Nat → Int} {M : Nat} (hf : ∀ i, i + 1 < M → f (i + 1) ≠ f i) : toL (selS M f M) = trn (his f M) := by
  cases M with
  | zero => rfl
  | succ M =>
    have hs : selS (M + 1) f (M + 1) = match skipQ (M + 1) f M with | true => selS (M + 1) f M | false => pushL (selS (M + 1) f M) (f M) := rfl
    have e : skipQ (M + 1) f M = false := by
      unfold skipQ
      rw [show decide (((M + 1 : Nat) : Int) < ((M + 1 : Nat) : Int)) = false by simp]
      cases decide ((M : Int) > 0) <;> rfl
    rw [hs, e]
    simp only
    rw [toL_push, sel_core hf M (Nat.lt_succ_self M)]
    unfold trn
    rw [(core_trn hf M (Nat.lt_succ_self M)).1, List.reverse_cons]
theorem tur_trn (n : Nat) (z : Nat → Int) : toL (turQ n z) = trn (his z n) := by
  unfold turQ
  rw [sel_trn (ded_facts z n).2]
  unfold trn
  rw [ded_trn z n]
  rfl
theorem tur_in {n : Nat} {z : Nat → Int} (h : ∀ i, i < n → -100000 ≤ z i ∧ z i ≤ 100000) : ∀ i, i < (turQ n z).1 → -100000 ≤ (turQ n z).2 i ∧ (turQ n z).2 i ≤ 100000 := turQ_in h
/-- what the program comes to -/
theorem rain_flow {n : Nat} {z : Nat → Int} (h : ∀ i, i < n → -100000 ≤ z i ∧ z i ≤ 100000) : toL (rfX n z).1 = (flow (his z n)).1.reverse ∧ toC (rfX n z).2 = (flow (his z n)).2 := by
  obtain ⟨a, b, _⟩ := rfP_list (turQ n z).2 (turQ n z).1 (turQ_in h) (turQ n z).1 (Nat.le_refl _)
  have e : (List.range (turQ n z).1).map (turQ n z).2 = toL (turQ n z) := rfl
  rw [e, tur_trn, rfOut_flow] at a b
  exact ⟨a, b⟩
/-! ### sums -/
theorem w64_ex (x : Int) : w64 x = (x + 9223372036854775808) % 18446744073709551616 - 9223372036854775808 := IntKind.wrap_i64 x
theorem w64_l (a b : Int) : w64 (w64 a + b) = w64 (a + b) := by rw [w64_ex, w64_ex, w64_ex]; omega
theorem w64_r (a b : Int) : w64 (a + w64 b) = w64 (a + b) := by rw [w64_ex, w64_ex, w64_ex]; omega
theorem w64_w (a : Int) : w64 (w64 a) = w64 a := by rw [w64_ex, w64_ex]; omega
theorem w64_small {a : Int} (h1 : -1000000 ≤ a) (h2 : a ≤ 1000000) : w64 a = a := by rw [w64_ex]; omega
theorem d2V_lin (r w1 w2 : Nat → Int) (c : Nat) (o : Int) (ho : w64 o = o) : ∀ k, d2V r w1 w2 c o k = w64 (o + d2V r w1 w2 c 0 k)
  | 0 => by
    show o = w64 (o + 0)
    rw [Int.add_zero, ho]
  | k + 1 => by
    show w64 (d2V r w1 w2 c o k + _) = w64 (o + w64 (d2V r w1 w2 c 0 k + _))
    rw [d2V_lin r w1 w2 c o ho k, w64_l, w64_r, Int.add_assoc]
theorem d1V_w (z1 z2 w1 w2 : Nat → Int) (c : Nat) : ∀ k, w64 (d1V z1 z2 w1 w2 c k) = d1V z1 z2 w1 w2 c k
  | 0 => rfl
  | k + 1 => w64_w _
theorem daV_sum (n m c : Nat) (z1 z2 z1' z2' r r' w1 w2 : Nat → Int) : daV n m c z1 z2 r w1 w2 = w64 (daV n 0 c z1 z2 r' w1 w2 + daV 0 m c z1' z2' r w1 w2) := by
  show d2V r w1 w2 c (d1V z1 z2 w1 w2 c n) (m - 1) = w64 (d1V z1 z2 w1 w2 c n + d2V r w1 w2 c 0 (m - 1))
  exact d2V_lin r w1 w2 c _ (d1V_w z1 z2 w1 w2 c n) (m - 1)
/-- twice as often as the classes have cycles, their damage -/
def sumK (f w2 : Nat → Int) : Nat → Int
  | 0 => 0
  | i + 1 => w64 (sumK f w2 i + w64 (w64 (2 * f i) * w2 i))
theorem sumK_same {f g w2 : Nat → Int} : ∀ i, (∀ j, j < i → f j = g j) → sumK f w2 i = sumK g w2 i
  | 0, _ => rfl
  | i + 1, h => by
    show w64 (sumK f w2 i + w64 (w64 (2 * f i) * w2 i)) = w64 (sumK g w2 i + w64 (w64 (2 * g i) * w2 i))
    rw [sumK_same i fun j hj => h j (by omega), h i (Nat.lt_succ_self i)]
theorem sumK_put {f w2 : Nat → Int} {j : Nat} (h0 : 0 ≤ f j) (h1 : f j ≤ 1000) : ∀ i, j < i → sumK (putF f j (w64 (f j + 1))) w2 i = w64 (sumK f w2 i + w64 (2 * w2 j))
  | 0, h => by omega
  | i + 1, h => by
    show w64 (sumK (putF f j (w64 (f j + 1))) w2 i + w64 (w64 (2 * putF f j (w64 (f j + 1)) i) * w2 i)) = w64 (w64 (sumK f w2 i + w64 (w64 (2 * f i) * w2 i)) + w64 (2 * w2 j))
    rcases Nat.lt_or_ge j i with hj | hj
    · rw [sumK_put h0 h1 i hj, putF_other _ _ (show i ≠ j by omega), w64_l, w64_l]
      congr 1
      omega
    · have e : i = j := by omega
      subst e
      have hs : sumK (putF f i (w64 (f i + 1))) w2 i = sumK f w2 i := sumK_same i fun k hk => putF_other _ _ (show k ≠ i by omega)
      rw [hs, putF_same]
      rw [show w64 (f i + 1) = f i + 1 from w64_small (by omega) (by omega), show w64 (2 * (f i + 1)) = 2 * (f i + 1) from w64_small (by omega) (by omega), show w64 (2 * f i) = 2 * f i from w64_small (by omega) (by omega)]
      rw [show 2 * (f i + 1) * w2 i = 2 * f i * w2 i + 2 * w2 i by rw [Int.mul_add, Int.add_mul, Int.mul_one]]
      rw [w64_l, w64_r, ← Int.add_assoc, ← w64_r (sumK f w2 i + w64 (2 * f i * w2 i)), w64_r]
      generalize 2 * f i * w2 i = P
      rw [w64_r, Int.add_comm (sumK f w2 i + w64 P), ← Int.add_assoc, w64_r]
      congr 1
      omega
theorem cntV_step (z1 z2 w1 : Nat → Int) (c k : Nat) : cntV z1 z2 w1 c (k + 1) = match decide (clsK w1 (farW (z1 k) (z2 k)) c ≥ 0) with
    | true => putF (cntV z1 z2 w1 c k) (0 + (clsK w1 (farW (z1 k) (z2 k)) c).toNat) (w64 (cntV z1 z2 w1 c k (0 + (clsK w1 (farW (z1 k) (z2 k)) c).toNat) + 1))
    | false => cntV z1 z2 w1 c k := rfl
theorem cntV_bd (z1 z2 w1 : Nat → Int) (c : Nat) : ∀ k, k ≤ 1000 → ∀ i, 0 ≤ cntV z1 z2 w1 c k i ∧ cntV z1 z2 w1 c k i ≤ k
  | 0, _, i => ⟨Int.le_refl _, Int.le_refl _⟩
  | k + 1, hk, i => by
    have ih := cntV_bd z1 z2 w1 c k (by omega)
    rw [cntV_step]
    cases decide (clsK w1 (farW (z1 k) (z2 k)) c ≥ 0) with
    | true =>
      simp only
      generalize 0 + (clsK w1 (farW (z1 k) (z2 k)) c).toNat = j
      have hj := ih j
      rw [w64_small (by omega) (by omega)]
      by_cases e : i = j
      · subst e
        rw [putF_same]
        omega
      · rw [putF_other _ _ e]
        have := ih i
        omega
    | false =>
      have := ih i
      simp only
      omega
theorem sum_cnt (z1 z2 w1 w2 : Nat → Int) (c : Nat) : ∀ n, n ≤ 1000 → sumK (cntV z1 z2 w1 c n) w2 c = d1V z1 z2 w1 w2 c n
  | 0, _ => by
    have key : ∀ i, sumK (fun _ => 0) w2 i = 0 := fun i => by
      induction i with
      | zero => rfl
      | succ i ih =>
        show w64 (sumK (fun _ => 0) w2 i + w64 (w64 (2 * 0) * w2 i)) = 0
        rw [ih, show w64 (2 * 0) = 0 from w64_small (by omega) (by omega), Int.zero_mul]
        rfl
    exact key c
  | n + 1, hn => by
    have ih := sum_cnt z1 z2 w1 w2 c n (by omega)
    obtain ⟨b1, b2⟩ := clsK_bd w1 (farW (z1 n) (z2 n)) c
    show sumK (cntV z1 z2 w1 c (n + 1)) w2 c = w64 (d1V z1 z2 w1 w2 c n + w64 (2 * dmgV w1 w2 c (farW (z1 n) (z2 n))))
    rw [← ih, cntV_step]
    unfold dmgV
    cases h : decide (clsK w1 (farW (z1 n) (z2 n)) c ≥ 0) with
    | true =>
      simp only [decide_eq_true_eq] at h
      simp only
      obtain ⟨c1, c2⟩ := cntV_bd z1 z2 w1 c n (by omega) (0 + (clsK w1 (farW (z1 n) (z2 n)) c).toNat)
      exact sumK_put c1 (by omega) c (by omega)
    | false =>
      simp only
      rw [show w64 (2 * 0) = 0 from w64_small (by omega) (by omega), Int.add_zero, ih, d1V_w]
/-! ### a map of integers -/
/-- a count that is turned at a key -/
structure MS where
  n : Nat
  f : Int → Int
  b : Int → Int
  last : Int
def incM (g : Int → Int) (s : MS) (x : Int) : MS := ⟨enterN s.n s.b x, putM s.f x (g (s.f x)), enterB s.n s.b x, x⟩
def upI (a : Int) : Int := w64 (a + 1)
def dnI (a : Int) : Int := w64 (a - 1)
def emptyM : MS := ⟨0, fun _ => 0, fun _ => -1, 0⟩
def itM (g : Int → Int) (z : Nat → Int) (s : MS) : Nat → MS
  | 0 => s
  | k + 1 => incM g (itM g z s k) (z k)
def itM2 (z1 z2 : Nat → Int) (s : MS) : Nat → MS
  | 0 => s
  | k + 1 => incM dnI (incM dnI (itM2 z1 z2 s k) (z1 k)) (z2 k)
theorem itM_up (z : Nat → Int) (s : MS) (h : ∀ y, -100000 ≤ s.f y ∧ s.f y ≤ 100000) (y : Int) : ∀ k, k ≤ 100000 → (itM upI z s k).f y = s.f y + cntI y (his z k) ∧ 0 ≤ cntI y (his z k) ∧ cntI y (his z k) ≤ k
  | 0, _ => ⟨by simp [his, cntI, itM], by simp [his, cntI], by simp [his, cntI]⟩
  | k + 1, hk => by
    obtain ⟨h1, h2, h3⟩ := itM_up z s h y k (by omega)
    have hy := h y
    rw [his_succ, cntI_app]
    show putM (itM upI z s k).f (z k) (upI ((itM upI z s k).f (z k))) y = _ ∧ _
    unfold putM
    by_cases e : y = z k
    · subst e
      simp only [decide_true, cntI, if_true]
      rw [h1]
      unfold upI
      rw [w64_small (by omega) (by omega)]
      omega
    · rw [show decide (y = z k) = false by simpa using e]
      simp only [cntI]
      rw [if_neg fun q => e q.symm]
      omega
theorem itM_dn (z : Nat → Int) (s : MS) (h : ∀ y, -100000 ≤ s.f y ∧ s.f y ≤ 100000) (y : Int) : ∀ k, k ≤ 100000 → (itM dnI z s k).f y = s.f y - cntI y (his z k) ∧ 0 ≤ cntI y (his z k) ∧ cntI y (his z k) ≤ k
  | 0, _ => ⟨by simp [his, cntI, itM], by simp [his, cntI], by simp [his, cntI]⟩
  | k + 1, hk => by
    obtain ⟨h1, h2, h3⟩ := itM_dn z s h y k (by omega)
    have hy := h y
    rw [his_succ, cntI_app]
    show putM (itM dnI z s k).f (z k) (dnI ((itM dnI z s k).f (z k))) y = _ ∧ _
    unfold putM
    by_cases e : y = z k
    · subst e
      simp only [decide_true, cntI, if_true]
      rw [h1]
      unfold dnI
      rw [w64_small (by omega) (by omega)]
      omega
    · rw [show decide (y = z k) = false by simpa using e]
      simp only [cntI]
      rw [if_neg fun q => e q.symm]
      omega
theorem inc_dn (s : MS) (x y : Int) (h : -500000 ≤ s.f x ∧ s.f x ≤ 500000) : (incM dnI s x).f y = s.f y - if x = y then 1 else 0 := by
  show putM s.f x (dnI (s.f x)) y = _
  unfold putM
  by_cases e : y = x
  · subst e
    simp only [decide_true, if_true]
    unfold dnI
    rw [w64_small (by omega) (by omega)]
  · rw [show decide (y = x) = false by simpa using e, if_neg fun q => e q.symm]
    simp
theorem itM2_dn (z1 z2 : Nat → Int) (s : MS) (h : ∀ y, -100000 ≤ s.f y ∧ s.f y ≤ 100000) : ∀ k, k ≤ 100000 → ∀ y, (itM2 z1 z2 s k).f y = s.f y - (cntI y (his z1 k) + cntI y (his z2 k)) ∧ (0 ≤ cntI y (his z1 k) ∧ cntI y (his z1 k) ≤ k) ∧ 0 ≤ cntI y (his z2 k) ∧ cntI y (his z2 k) ≤ k
  | 0, _, y => ⟨by simp [his, cntI, itM2], ⟨by simp [his, cntI], by simp [his, cntI]⟩, by simp [his, cntI], by simp [his, cntI]⟩
  | k + 1, hk, y => by
    have ih := itM2_dn z1 z2 s h k (by omega)
    have hs := h y
    have hb : ∀ y, -400000 ≤ (itM2 z1 z2 s k).f y ∧ (itM2 z1 z2 s k).f y ≤ 400000 := fun y => by
      have := ih y
      have := h y
      omega
    have e1 : ∀ y, (incM dnI (itM2 z1 z2 s k) (z1 k)).f y = (itM2 z1 z2 s k).f y - if z1 k = y then 1 else 0 := fun y => inc_dn _ _ y (by have := hb (z1 k); omega)
    have e2 : (itM2 z1 z2 s (k + 1)).f y = (incM dnI (itM2 z1 z2 s k) (z1 k)).f y - if z2 k = y then 1 else 0 := inc_dn _ _ y (by
      rw [e1]
      have := hb (z2 k)
      split <;> omega)
    rw [e2, e1, his_succ, his_succ, cntI_app, cntI_app]
    have := ih y
    simp only [cntI]
    split <;> split <;> omega
end Go.Ev
