/- '==' of struct and array values as the evaluator says it. Conditions: none. -/
import Derived.Test.YtlpchgidkibbeaaGreatDoorEvMem
import Derived.Laws.StructEq
namespace Go.Ev
open Go

section
variable {P : Program}

/-- the value whose cells are these -/
def ofCells (agg : Bool) (l : List Value) (x : Value) : Prop := match agg with
  | true => x = .agg l.toArray
  | false => l = [x]

def descAgg : TypeDesc → Bool
  | .struct _ => true
  | .array _ _ => true
  | _ => false
theorem agg?_desc {t : TypeId} {d : TypeDesc} (h : P.underlying t = some d) : agg? P t = some (descAgg d) := by
  unfold agg?; rw [h]; cases d <;> rfl

theorem partC_run {E : Env} {t : TypeId} {cs part' : List C} {l : List Value} {off : Nat} (ha : All2 (C.Is E) cs l) (h : partC P t cs off = some part') (w : World) :
    ∃ x l', (part t l.toArray off).run P w = .ok x w ∧ All2 (C.Is E) part' l' ∧ ∃ b, agg? P t = some b ∧ ofCells b l' x := by
  unfold partC at h
  split at h
  · rename_i s h1 h2
    split at h
    · rename_i hle
      simp only [Option.some.injEq] at h; subst h
      refine ⟨.agg ((l.drop off).take s).toArray, (l.drop off).take s, ?_, (ha.drop off).take s, true, h1, rfl⟩
      simp only [part, Sem.run_bind, agg?_run h1 w, Result.andThen_ok, if_true, size?_run h2 w, Sem.run_pure]
      congr 2
      apply Array.ext'
      simp
    · cases h
  · rename_i h1
    split at h
    · rename_i c hc
      simp only [Option.some.injEq] at h; subst h
      obtain ⟨x, hx, hi⟩ := ha.get off c hc
      refine ⟨x, [x], ?_, ⟨hi, trivial⟩, false, h1, rfl⟩
      simp only [part, Sem.run_bind, agg?_run h1 w, Result.andThen_ok, Bool.false_eq_true, if_false]
      simp [hx]
    · cases h
  · cases h

def EqOk (P : Program) (m : Nat) (eq : TypeId → List C → List C → Option Bool) : Prop :=
  ∀ t xs ys r, eq t xs ys = some r → ∀ (E : Env) l l' x y b w, All2 (C.Is E) xs l → All2 (C.Is E) ys l' → agg? P t = some b → ofCells b l x → ofCells b l' y →
    (Op.equalIn m t x y).run P w = .ok r w

theorem eqFs_run {m : Nat} {eq : TypeId → List C → List C → Option Bool} (heq : EqOk P m eq) {E : Env} {xs ys : List C} {l l' : List Value} (hx : All2 (C.Is E) xs l) (hy : All2 (C.Is E) ys l') (w : World) :
    ∀ {fs : List Field} {r : Bool}, eqFs P eq xs ys fs = some r → (Op.eqFields m l.toArray l'.toArray fs).run P w = .ok r w
  | [], r, h => by simp only [eqFs, Option.some.injEq] at h; subst h; simp [Op.eqFields]
  | f :: fs, r, h => by
    simp only [eqFs] at h
    split at h
    · rename_i a b hn ha hb
      split at h
      · rename_i r1 r2 h1 h2
        simp only [Option.some.injEq] at h; subst h
        obtain ⟨x, lx, hrx, hax, bx, hbx, hox⟩ := partC_run hx ha w
        obtain ⟨y, ly, hry, hay, by', hby, hoy⟩ := partC_run hy hb w
        obtain rfl : bx = by' := Option.some.inj (hbx.symm.trans hby)
        have he := heq _ _ _ _ h1 E lx ly x y bx w hax hay hbx hox hoy
        have ih := eqFs_run heq hx hy w h2
        have hn' : f.name ≠ "_" := by simpa using hn
        simp only [Op.eqFields, if_pos hn', Sem.run_bind, hrx, hry, Result.andThen_ok, he]
        cases r1
        · simp
        · simpa using ih
      · cases h
    · cases h

theorem eqEs_run {m : Nat} {eq : TypeId → List C → List C → Option Bool} (heq : EqOk P m eq) {E : Env} {xs ys : List C} {l l' : List Value} (hx : All2 (C.Is E) xs l) (hy : All2 (C.Is E) ys l') (w : World) (e : TypeId) (s : Nat) :
    ∀ {n i : Nat} {r : Bool}, eqEs P eq e s xs ys i n = some r →
      (do
        let r ← forIn (List.range' i n) ((none, ()) : Option Bool × Unit) fun j _ => do
          let a ← part e l.toArray (j * s)
          let b ← part e l'.toArray (j * s)
          let c ← Op.equalIn m e a b
          if c = false then pure (ForInStep.done (some false, ())) else pure (ForInStep.yield (none, ()))
        match r.1 with
          | some a => pure a
          | none => pure true : Sem Bool).run P w = .ok r w
  | 0, i, r, h => by simp only [eqEs, Option.some.injEq] at h; subst h; simp
  | n + 1, i, r, h => by
    simp only [eqEs] at h
    split at h
    · rename_i a b ha hb
      split at h
      · rename_i r1 r2 h1 h2
        simp only [Option.some.injEq] at h; subst h
        obtain ⟨x, lx, hrx, hax, bx, hbx, hox⟩ := partC_run hx ha w
        obtain ⟨y, ly, hry, hay, by', hby, hoy⟩ := partC_run hy hb w
        obtain rfl : bx = by' := Option.some.inj (hbx.symm.trans hby)
        have he := heq _ _ _ _ h1 E lx ly x y bx w hax hay hbx hox hoy
        have ih := eqEs_run heq hx hy w e s h2
        simp only [List.range'_succ, List.forIn_cons, Sem.run_bind, hrx, hry, Result.andThen_ok, he, Sem.run_ite]
        cases r1
        · simp
        · simpa [Sem.run_bind] using ih
      · cases h
    · cases h

theorem eqT_ok : ∀ (d m : Nat), d ≤ m → EqOk P m (eqT P d)
  | 0, _, _ => fun t xs ys r h => by cases h
  | d + 1, 0, hm => by omega
  | d + 1, m + 1, hm => by
    intro t xs ys r h E l l' x y b w hx hy hb hox hoy
    have ih := eqT_ok d m (by omega)
    simp only [eqT] at h
    split at h
    · rename_i k0 hu
      split at h
      · rename_i k a k' b'
        split at h
        · rename_i hk
          have hk : k = k' := by simpa using hk
          subst hk
          simp only [Option.some.injEq] at h; subst h
          rw [agg?_desc hu] at hb
          injection hb with hb; subst hb
          simp only [ofCells, descAgg] at hox hoy
          subst hox; subst hoy
          obtain ⟨rfl, _⟩ := hx.1
          obtain ⟨rfl, _⟩ := hy.1
          exact run_equalIn_int w m t k k0 a b' hu
        · cases h
      · cases h
    · rename_i hu
      split at h
      · rename_i a b'
        simp only [Option.some.injEq] at h; subst h
        rw [agg?_desc hu] at hb
        injection hb with hb; subst hb
        simp only [ofCells, descAgg] at hox hoy
        subst hox; subst hoy
        obtain ⟨rfl, _⟩ := hx.1
        obtain ⟨rfl, _⟩ := hy.1
        exact run_equalIn_bool' w m t a b' hu
      · cases h
    · rename_i hu
      split at h
      · rename_i a b'
        simp only [Option.some.injEq] at h; subst h
        rw [agg?_desc hu] at hb
        injection hb with hb; subst hb
        simp only [ofCells, descAgg] at hox hoy
        subst hox; subst hoy
        obtain ⟨rfl, _⟩ := hx.1
        obtain ⟨rfl, _⟩ := hy.1
        exact run_equalIn_string w m t a b' hu
      · cases h
    · rename_i fs hu
      split at h
      · rename_i hs
        rw [agg?_desc hu] at hb
        injection hb with hb; subst hb
        simp only [ofCells, descAgg] at hox hoy
        subst hox; subst hoy
        have hf : P.fieldsOf t = fs := by simp [Program.fieldsOf, hu]
        rw [run_equalIn_struct w m t _ _ (by rw [hf]; exact hu) hs, hf]
        exact eqFs_run ih hx hy w h
      · cases h
    · rename_i n e hu
      split at h
      · rename_i s hs
        rw [agg?_desc hu] at hb
        injection hb with hb; subst hb
        simp only [ofCells, descAgg] at hox hoy
        subst hox; subst hoy
        have hh := eqEs_run ih hx hy w e s h
        simp only [Op.equalIn, Sem.run_bind, run_underlying hu, Result.andThen_ok, size?_run hs w]
        rw [← hh]
        simp only [Std.Legacy.Range.forIn_eq_forIn_range', Std.Legacy.Range.size, Sem.run_bind]
        simp
        congr 1
        funext a w'
        rcases a with ⟨_ | _, _⟩ <;> rfl
      · cases h
    · cases h
end
end Go.Ev
