/- The evaluator's operations are those of the model. Conditions: none. -/
import Derived.Test.YtlpchgidkibbeaaGreatDoorEvEq
import Derived.Maps.AppendAt
namespace Go.Ev
open Go

section
variable {P : Program}

/-- an operation comes to a value -/
def OpOk (P : Program) (s : Sem Next) (w : World) (Post : Value → World → Prop) : Prop := match s.run P w with
  | .ok (.value x) w' => Post x w'
  | .ok .skip w' => Post undef w'
  | .ok (.enter f args) w' => Calls P f args w' fun e w'' => ∃ x, e = .returned x ∧ Post x w''
  | .ok (.round l f tmps assign body) w' => RoundIn Fence.wide 0 P l f tmps assign body w' fun e w'' => ∃ x, e = .returned x ∧ Post x w''
  | _ => False

/-- the fence of a frame: of a function's, or of a round's of the loop with record l -/
def G (ro : Option Nat) : Fence := { Fence.wide with round := ro }
theorem callsG (ro : Option Nat) {n : Nat} {f : FuncId} {args : Array Value} {w : World} {R : Ending → World → Prop} (h : Calls P f args w R) : CallsIn (G ro) n P f args w R := callsIn_wide.2 h
theorem roundG (ro : Option Nat) {n : Nat} {l : Nat} {f : FuncId} {tmps : Array Value} {assign body : Code} {w : World} {R : Ending → World → Prop} (h : RoundIn Fence.wide n P l f tmps assign body w R) : RoundIn (G ro) n P l f tmps assign body w R := h
theorem semG (ro : Option Nat) (ρ : Operand → Value) {o : Oper} (h : ∀ c, o.op ≠ .defer c) : o.semAt (G ro).round ρ = execOp ρ o := Oper.semAt_eq _ _ _ h

theorem OpOk.wpIn {ro : Option Nat} {o : Oper} {a : Act} {w : World} {Post : Value → World → Prop} {next : Act → World → Prop} {Q : Exit → Act → World → Prop} (hd : ∀ c, o.op ≠ .defer c)
    (h : OpOk P (execOp a.eval o) w Post) (hp : ∀ x w', Post x w' → next (a.put o.dst x) w') : o.wpIn (G ro) 0 P a w next Q := by
  unfold Oper.wpIn
  refine ⟨fun _ _ => trivial, ?_⟩
  rw [semG ro _ hd]
  unfold OpOk at h
  cases hr : (execOp a.eval o).run P w with
  | ok n w' =>
    rw [hr] at h
    cases n <;> simp only at h <;> first | exact h.elim | skip
    · exact hp _ _ h
    · exact hp _ _ h
    · refine ⟨fun hd => (by cases hd), callsG ro (Calls.mono h ?_)⟩
      rintro e w'' ⟨x, he, hx⟩
      subst he
      exact hp _ _ hx
    · refine ⟨fun hd => (by cases hd), roundG ro (RoundIn.mono h ?_)⟩
      rintro e w'' ⟨x, he, hx⟩
      subst he
      exact hp _ _ hx
  | halt x w' => rw [hr] at h; exact h.elim

theorem OpOk.of_value {s : Sem Next} {w w' : World} {x : Value} {Post : Value → World → Prop} (h : s.run P w = .ok (.value x) w') (hp : Post x w') : OpOk P s w Post := by
  unfold OpOk; rw [h]; exact hp
theorem OpOk.of_skip {s : Sem Next} {w w' : World} {Post : Value → World → Prop} (h : s.run P w = .ok .skip w') (hp : Post undef w') : OpOk P s w Post := by
  unfold OpOk; rw [h]; exact hp

theorem pureRun_run {α : Type} : ∀ {s : Sem α} {a : α}, pureRun P s = some a → ∀ w, s.run P w = .ok a w := by
  intro s
  induction s with
  | pure a => intro b h w; simp only [pureRun, Option.some.injEq] at h; subst h; rfl
  | program k ih => intro b h w; simp only [pureRun] at h; exact ih P h w
  | mark m k ih => intro b h w; simp only [pureRun] at h; exact ih h w
  | _ => intro b h w; simp [pureRun] at h

theorem pureC_all {s : Sem Value} {a : A} (h : (pureC P s).run = some a) (E : Env) : ∃ v, (∀ w, s.run P w = .ok v w) ∧ a.Is E v := by
  unfold pureC at h
  split at h
  · rename_i v hv
    split at h
    · rename_i c hc
      simp only [Tree.run, Option.some.injEq] at h; subst h
      exact ⟨v, pureRun_run hv, litC_is hc⟩
    · cases h
  · cases h
theorem pureC_run {s : Sem Value} {a : A} (h : (pureC P s).run = some a) (E : Env) (w : World) : ∃ v, s.run P w = .ok v w ∧ a.Is E v := by
  unfold pureC at h
  split at h
  · rename_i v hv
    split at h
    · rename_i c hc
      simp only [Tree.run, Option.some.injEq] at h; subst h
      exact ⟨v, pureRun_run hv w, litC_is hc⟩
    · cases h
  · cases h

/-- a function of the table, or one whose text is run: what is asked of it -/
def EvfOk (P : Program) (evf : FuncId → Spec) : Prop := ∀ f args h v h', (evf f args h).run = some (v, h') → ∀ (E : Env) (w : World) (vals : List Value), RH E h w → All2 (A.Is E) args vals →
  (f < yieldBase → Calls P f vals.toArray w fun e w' => ∃ x E', e = .returned x ∧ v.Is E' x ∧ Stp E h w E' h' w') ∧
  ∀ id l s, f = yieldBase + id → E id = some (l, s) → YieldAt Fence.wide 0 P l vals.toArray w fun e w' => ∃ x E', e = .returned x ∧ v.Is E' x ∧ Stp E h w E' h' w'

/-- no function is one that the model answers by itself -/
def NoOwn (P : Program) : Prop := ∀ (f : FuncId) (fn : Func), P.funcs[f]? = some fn → (fn.name == "runtime.NumGoroutine") = false

/-- the operands read as the evaluator says -/
def Fits (E : Env) (ρA : Operand → Option A) (ρ : Operand → Value) (xs : List Operand) : Prop := ∀ x ∈ xs, ∀ a, ρA x = some a → a.Is E (ρ x)

section
variable {E : Env} {ρA : Operand → Option A} {ρ : Operand → Value}
theorem Fits.left {xs ys : List Operand} (h : Fits E ρA ρ (xs ++ ys)) : Fits E ρA ρ xs := fun x hx => h x (List.mem_append_left _ hx)
theorem Fits.right {xs ys : List Operand} (h : Fits E ρA ρ (xs ++ ys)) : Fits E ρA ρ ys := fun x hx => h x (List.mem_append_right _ hx)

theorem argsOf_is : ∀ {xs : List Operand} {as : List A}, Fits E ρA ρ xs → argsOf ρA xs = some as → All2 (A.Is E) as (xs.map ρ)
  | [], as, _, h => by simp only [argsOf, Option.some.injEq] at h; subst h; trivial
  | x :: xs, as, hf, h => by
    simp only [argsOf] at h
    split at h
    · rename_i a as' h1 h2
      simp only [Option.some.injEq] at h; subst h
      exact ⟨hf x (by simp) a h1, argsOf_is (fun y hy => hf y (by simp [hy])) h2⟩
    · cases h

theorem capsOf_is : ∀ {as : List A} {l : List (Nat × Nat × Nat × Nat)} {vs : List Value}, All2 (A.Is E) as vs → capsOf as = some l → All2 (ptrIs E) l vs
  | [], l, [], _, h => by simp only [capsOf, Option.some.injEq] at h; subst h; trivial
  | .one (.ptr id k m j) :: as, l, v :: vs, ha, h => by
    simp only [capsOf] at h
    split at h
    · rename_i l' hl
      simp only [Option.some.injEq] at h; subst h
      exact ⟨ha.1, capsOf_is ha.2 hl⟩
    · cases h
  | .one (.lit _) :: _, _, _, _, h => by simp [capsOf] at h
  | .one (.sl ..) :: _, _, _, _, h => by simp [capsOf] at h
  | .one (.fn ..) :: _, _, _, _, h => by simp [capsOf] at h
  | .one .any :: _, _, _, _, h => by simp [capsOf] at h
  | .agg _ :: _, _, _, _, h => by simp [capsOf] at h
  | .tup _ :: _, _, _, _, h => by simp [capsOf] at h
  | [], _, _ :: _, ha, _ => ha.elim

theorem capA_is : ∀ {l : List (Nat × Nat × Nat × Nat)} {vs : List Value}, All2 (ptrIs E) l vs → All2 (A.Is E) (l.map capA) vs
  | [], [], _ => trivial
  | _ :: _, _ :: _, h => ⟨h.1, capA_is h.2⟩
  | [], _ :: _, h => h.elim
  | _ :: _, [], h => h.elim

theorem litsOf_is : ∀ {cs : List C} {vs : List Value} {xs : List Value}, litsOf cs = some vs → All2 (C.Is E) cs xs → xs = vs ∧ ∀ v ∈ vs, v.oneCell' = true
  | [], vs, xs, h, ha => by
    simp only [litsOf, Option.some.injEq] at h
    subst h
    match xs, ha with
    | [], _ => exact ⟨rfl, by simp⟩
  | c :: cs, vs, [], h, ha => ha.elim
  | c :: cs, vs, x :: xs, h, ha => by
    unfold litsOf at h
    split at h
    · rename_i e; cases e
    · rename_i v cs' e
      obtain ⟨rfl, rfl⟩ := List.cons.inj e
      split at h
      · rename_i vs' hv
        simp only [Option.some.injEq] at h
        subst h
        obtain ⟨rfl, h1⟩ := litsOf_is hv ha.2
        obtain ⟨rfl, h2⟩ := ha.1
        exact ⟨rfl, fun v hv => (List.mem_cons.1 hv).elim (fun e => e ▸ h2) fun hv => h1 v hv⟩
      · cases h
    · cases h
theorem firstOf_is {a : A} {p : Bool × List Value} {x : Value} (h : firstOf a = some p) (ha : a.Is E x) : x = firstV p ∧ ∀ v ∈ p.2, v.oneCell' = true := by
  unfold firstOf at h
  split at h
  · rename_i v
    simp only [Option.some.injEq] at h
    subst h
    obtain ⟨rfl, h1⟩ := ha
    exact ⟨rfl, by simpa using h1⟩
  · rename_i cs
    split at h
    · rename_i vs hv
      simp only [Option.some.injEq] at h
      subst h
      obtain ⟨l, rfl, hl⟩ := ha
      obtain ⟨rfl, h1⟩ := litsOf_is hv hl
      exact ⟨rfl, h1⟩
    · cases h
  · cases h
theorem firstsOf_is : ∀ {as : List A} {ls : List (Bool × List Value)} {xs : List Value}, firstsOf as = some ls → All2 (A.Is E) as xs → xs = ls.map firstV ∧ ∀ p ∈ ls, ∀ v ∈ p.2, v.oneCell' = true
  | [], ls, xs, h, ha => by
    simp only [firstsOf, Option.some.injEq] at h
    subst h
    match xs, ha with
    | [], _ => exact ⟨rfl, by simp⟩
  | a :: as, ls, [], h, ha => ha.elim
  | a :: as, ls, x :: xs, h, ha => by
    unfold firstsOf at h
    split at h
    · rename_i p ps hp hps
      simp only [Option.some.injEq] at h
      subst h
      obtain ⟨rfl, h1⟩ := firstOf_is hp ha.1
      obtain ⟨rfl, h2⟩ := firstsOf_is hps ha.2
      exact ⟨rfl, fun q hq => (List.mem_cons.1 hq).elim (fun e => e ▸ h1) fun hq => h2 q hq⟩
    · cases h
theorem lits_is : ∀ {vs : List Value}, (∀ v ∈ vs, v.oneCell' = true) → All2 (C.Is E) (vs.map .lit) vs
  | [], _ => trivial
  | v :: vs, h => ⟨⟨rfl, h v (by simp)⟩, lits_is fun w hw => h w (by simp [hw])⟩
theorem firstA_is : ∀ {p : Bool × List Value}, (∀ v ∈ p.2, v.oneCell' = true) → (firstA p).Is E (firstV p)
  | (true, vs), h => ⟨vs, rfl, lits_is h⟩
  | (false, v :: _), h => ⟨rfl, h v (by simp)⟩
  | (false, []), _ => undefA_is E
theorem firstAs_is : ∀ {ls : List (Bool × List Value)}, (∀ p ∈ ls, ∀ v ∈ p.2, v.oneCell' = true) → All2 (A.Is E) (ls.map firstA) (ls.map firstV)
  | [], _ => trivial
  | p :: ls, h => ⟨firstA_is (h p (by simp)), firstAs_is fun q hq => h q (by simp [hq])⟩
theorem partsOf_is : ∀ {ps : List (Nat × Operand)} {qs : List (Nat × List C)}, Fits E ρA ρ (ps.map (·.2)) → partsOf ρA ps = some qs →
    All2 (fun (q : Nat × List C) (v : Nat × Value) => q.1 = v.1 ∧ All2 (C.Is E) q.2 v.2.cells.toList) qs (ps.map fun p => (p.1, ρ p.2))
  | [], qs, _, h => by simp only [partsOf, Option.some.injEq] at h; subst h; trivial
  | (i, x) :: ps, qs, hf, h => by
    simp only [partsOf] at h
    split at h
    · rename_i a qs' h1 h2
      split at h
      · rename_i cs hc
        simp only [Option.some.injEq] at h; subst h
        exact ⟨⟨rfl, (hf x (by simp) a h1).cells hc⟩, partsOf_is (fun y hy => hf y (by simp only [List.map_cons, List.mem_cons]; exact .inr hy)) h2⟩
      · cases h
    · cases h
end

theorem foldl_lay : ∀ (l : List Value) (off n : Nat) (cs : Array Value), off + n + l.length ≤ cs.size →
    (l.zipIdx n).foldl (fun cs (p : Value × Nat) => cs.setIfInBounds (off + p.2) p.1) cs = (cs.toList.take (off + n) ++ l ++ cs.toList.drop (off + n + l.length)).toArray
  | [], off, n, cs, _ => by simp
  | v :: l, off, n, cs, h => by
    simp only [List.zipIdx_cons, List.foldl_cons]
    rw [foldl_lay l off (n + 1) _ (by simp at h ⊢; omega)]
    have e := list_seg_step cs.toList (off + n) v l (by simp at h ⊢; omega)
    simpa [Array.toList_setIfInBounds, Nat.add_assoc] using congrArg List.toArray e

theorem fill_is {E : Env} {place : Nat → Option (Nat × Nat)} : ∀ {qs : List (Nat × List C)} {vs : List (Nat × Value)} {zs out : List C} {l : List Value},
    All2 (fun (q : Nat × List C) (v : Nat × Value) => q.1 = v.1 ∧ All2 (C.Is E) q.2 v.2.cells.toList) qs vs → All2 (C.Is E) zs l → fillC place zs qs = some out →
    ∃ l' : List Value, Instr.fill place l.toArray vs = some l'.toArray ∧ All2 (C.Is E) out l'
  | [], [], zs, out, l, _, hz, h => by
    simp only [fillC, Option.some.injEq] at h; subst h
    exact ⟨l, rfl, hz⟩
  | (i, cs) :: qs, (i', v) :: vs, zs, out, l, ha, hz, h => by
    obtain ⟨⟨he, hc⟩, ha⟩ := ha
    simp only at he; subst he
    simp only [fillC] at h
    split at h
    · cases h
    · rename_i off size hpl
      split at h
      · rename_i hcond
        simp only [Bool.and_eq_true] at hcond
        have hs : cs.length = size := Nat.eq_of_beq_eq_true hcond.1
        have hle : off + cs.length ≤ zs.length := Nat.le_of_ble_eq_true hcond.2
        have hvs : v.cells.size = cs.length := by rw [hc.length]; simp
        have hz' : All2 (C.Is E) (zs.take off ++ cs ++ zs.drop (off + cs.length)) (l.take off ++ v.cells.toList ++ l.drop (off + v.cells.size)) :=
          ((hz.take off).append hc).append (by rw [hvs]; exact hz.drop _)
        obtain ⟨l', hl', ho⟩ := fill_is ha hz' h
        refine ⟨l', ?_, ho⟩
        simp only [Instr.fill, hpl]
        have hlz : l.length = zs.length := hz.length.symm
        rw [if_neg (by simp only [hvs, hs, List.size_toArray, Bool.or_eq_true, decide_eq_true_eq, ne_eq, not_true_eq_false, false_or]; omega)]
        rw [← hl']
        congr 1
        have := foldl_lay v.cells.toList off 0 l.toArray (by simp [hvs]; omega)
        simp only [Nat.add_zero, Array.length_toList] at this
        rw [← this, ← Array.foldl_toList]
        congr 1
        apply List.ext_getElem?
        intro j
        simp
      · cases h
  | [], _ :: _, _, _, _, h, _, _ => h.elim
  | _ :: _, [], _, _, _, h, _, _ => h.elim

theorem zero?_is {t : TypeId} {cs : List C} (h : zero? P t = some cs) (E : Env) : ∃ z : Value, (∃ i, P.info? t = some i ∧ i.zero = some z) ∧ All2 (C.Is E) cs z.cells.toList := by
  unfold zero? at h
  split at h
  · rename_i i hi
    split at h
    · rename_i z hz
      split at h
      · rename_i a ha
        exact ⟨z, ⟨i, hi, hz⟩, (ofVal_is ha).cells h⟩
      · cases h
    · cases h
  · cases h
theorem zero?_run {t : TypeId} {z : Value} (h : ∃ i, P.info? t = some i ∧ i.zero = some z) (w : World) : (zeroValue t).run P w = .ok z w := by
  obtain ⟨i, hi, hz⟩ := h
  simp [zeroValue, typeInfo, hi, hz]

theorem repC_is {E : Env} {z : List C} {l : List Value} (h : All2 (C.Is E) z l) : ∀ n, All2 (C.Is E) (repC n z) (List.replicate n l).flatten
  | 0 => by simp [repC, All2]
  | n + 1 => by simp only [repC, List.replicate_succ, List.flatten_cons]; exact h.append (repC_is h n)

theorem rep_range (zs : Array Value) (n s : Nat) (hs : zs.size = s) (h0 : 0 < s) : (Array.range (n * s)).map (fun i => zs[i % zs.size]!) = ((List.replicate n zs.toList).flatten).toArray := by
  apply Array.ext'
  apply List.ext_getElem?
  intro i
  simp only [Array.toList_map, Array.toList_range, List.getElem?_map]
  have key : ∀ n i, (List.replicate n zs.toList).flatten[i]? = if i < n * s then zs[i % s]? else none := by
    intro n
    induction n with
    | zero => intro i; simp
    | succ n ih =>
      intro i
      simp only [List.replicate_succ, List.flatten_cons, List.getElem?_append, Array.length_toList, hs]
      split
      · rename_i hi
        have : i < (n + 1) * s := by rw [Nat.add_mul]; omega
        rw [if_pos this, Nat.mod_eq_of_lt hi]; simp
      · rename_i hi
        rw [ih]
        have e : (i - s) % s = i % s := by rw [Nat.mod_eq_sub_mod (a := i) (by omega)]
        rw [e]
        by_cases h1 : i - s < n * s
        · rw [if_pos h1, if_pos (by rw [Nat.add_mul]; omega)]
        · rw [if_neg h1, if_neg (by rw [Nat.add_mul]; omega)]
  rw [key]
  by_cases hi : i < n * s
  · have hm : i % s < zs.size := by rw [hs]; exact Nat.mod_lt _ h0
    simp only [List.getElem?_range hi, Option.map_some, hs, if_pos hi]
    rw [getElem!_pos zs (i % s) hm, Array.getElem?_eq_getElem hm]
  · simp [hi]

/-! ### Arithmetic -/
theorem eqGuard_lit (op : BinOp) (t : TypeId) (x y : Operand) {u v : Value} (hu : u.oneCell' = true) (hn : u = .nilIface → v = .nilIface → False) (w : World) : (eqGuard op t x y u v).run P w = .ok () w := by
  unfold eqGuard
  generalize (!match op with | .eql => true | .neq => true | _ => false) = b
  cases b
  · simp only [Bool.false_eq_true, if_false]
    split
    · exact (hn rfl rfl).elim
    · cases hu
    · rfl
  · rfl
theorem binLit_all {op : BinOp} {t : TypeId} {u v : Value} {a : A} (h : (binLit P op t u v).run = some a) (E : Env) (x y : Operand) (hu : u.oneCell' = true) :
    ∃ r, (∀ w, (do eqGuard op t x y u v; binOp op t u v : Sem Value).run P w = .ok r w) ∧ a.Is E r := by
  have hg : (∃ b, u = .agg b) → False := by rintro ⟨b, rfl⟩; cases hu
  unfold binLit at h
  split at h
  · rename_i k n k' n'
    unfold divA at h
    split at h
    · rename_i hk
      have hk : k = k' := by simpa using hk
      subst hk
      simp only at h
      obtain ⟨hb, h⟩ := Tree.need_some h
      simp only [Tree.run, Option.some.injEq] at h; subst h
      have hb : n' ≠ 0 := by simpa using hb
      exact ⟨_, fun w => (by simp [eqGuard, binOp, Op.intDiv, hb]), rfl, rfl⟩
    · cases h
  · rename_i k n k' n'
    unfold divA at h
    split at h
    · rename_i hk
      have hk : k = k' := by simpa using hk
      subst hk
      simp only at h
      obtain ⟨hb, h⟩ := Tree.need_some h
      simp only [Tree.run, Option.some.injEq] at h; subst h
      have hb : n' ≠ 0 := by simpa using hb
      exact ⟨_, fun w => (by simp [eqGuard, binOp, Op.intDiv, hb]), rfl, rfl⟩
    · cases h
  · cases h
  · obtain ⟨r, hr, hi⟩ := pureC_all h E
    refine ⟨r, fun w => ?_, hi⟩
    have hnil : u = .nilIface → v = .nilIface → False := by assumption
    have hgd := eqGuard_lit (P := P) op t x y hu hnil w
    simp only [Sem.run_bind, hgd, Result.andThen_ok, hr]

theorem binLit_run {op : BinOp} {t : TypeId} {u v : Value} {a : A} (h : (binLit P op t u v).run = some a) (E : Env) (w : World) (x y : Operand) (hu : u.oneCell' = true) :
    ∃ r, (do eqGuard op t x y u v; binOp op t u v : Sem Value).run P w = .ok r w ∧ a.Is E r := let ⟨r, h1, h2⟩ := binLit_all h E x y hu; ⟨r, h1 w, h2⟩

theorem eqAgg_run {t : TypeId} {xs ys : List C} {r : Bool} (h : eqAgg P t xs ys = some r) {E : Env} {l l' : List Value} (hx : All2 (C.Is E) xs l) (hy : All2 (C.Is E) ys l') (w : World) (op : BinOp) (x y : Operand) :
    (eqGuard op t x y (.agg l.toArray) (.agg l'.toArray)).run P w = .ok () w ∧ (Op.equal t (.agg l.toArray) (.agg l'.toArray)).run P w = .ok r w := by
  unfold eqAgg at h
  split at h
  · rename_i hg ha
    exact ⟨run_eqGuard_agg w op t x y _ _ hg, eqT_ok 20 Op.maxDepth (by unfold Op.maxDepth; omega) t xs ys r h E l l' _ _ true w hx hy ha rfl rfl⟩
  · cases h

theorem run_equalIn_nilS (w : World) (d : Nat) (t e : TypeId) (a : Addr) (n c n' c' : Nat) (h : P.underlying t = some (.slice e)) : (Op.equalIn (d + 1) t (.slice (some a) n c) (.slice none n' c')).run P w = .ok false w := by
  simp [Op.equalIn, run_underlying h]
theorem run_eql_nilS (w : World) (t e : TypeId) (a : Addr) (n c : Nat) {n' c' : Nat} (h : P.underlying t = some (.slice e)) : (binOp .eql t (.slice (some a) n c) (.slice none n' c')).run P w = .ok (.bool false) w := by
  simp only [binOp]
  simp [Op.equal, Op.maxDepth, run_equalIn_nilS w 9999 t e a n c n' c' h]
theorem run_neq_nilS (w : World) (t e : TypeId) (a : Addr) (n c : Nat) {n' c' : Nat} (h : P.underlying t = some (.slice e)) : (binOp .neq t (.slice (some a) n c) (.slice none n' c')).run P w = .ok (.bool true) w := by
  simp only [binOp]
  simp [Op.equal, Op.maxDepth, run_equalIn_nilS w 9999 t e a n c n' c' h]
theorem binary_all {op : BinOp} {t : TypeId} {u v a : A} (h : (binary P op t u v).run = some a) {E : Env} {p q : Value} (hu : u.Is E p) (hv : v.Is E q) (x y : Operand) :
    ∃ r, (∀ w, (do eqGuard op t x y p q; binOp op t p q : Sem Value).run P w = .ok r w) ∧ a.Is E r := by
  unfold binary at h
  split at h
  · obtain ⟨rfl, hp1⟩ := hu
    obtain ⟨rfl, _⟩ := hv
    exact binLit_all h E x y hp1
  · obtain ⟨l, rfl, hl⟩ := hu
    obtain ⟨l', rfl, hl'⟩ := hv
    split at h
    · rename_i r hr
      have hh := fun w => eqAgg_run hr hl hl' w op x y
      split at h
      · simp only [Tree.run, Option.some.injEq] at h; subst h
        refine ⟨.bool r, fun w => ?_, rfl, rfl⟩
        obtain ⟨h1, h2⟩ := hh w
        simp only [Sem.run_bind, h1, Result.andThen_ok, binOp, h2, Sem.run_pure]
      · simp only [Tree.run, Option.some.injEq] at h; subst h
        refine ⟨.bool (!r), fun w => ?_, rfl, rfl⟩
        obtain ⟨h1, h2⟩ := hh w
        simp only [Sem.run_bind, h1, Result.andThen_ok, binOp, h2, Sem.run_pure]
      · cases h
    · cases h
  · obtain ⟨rfl, _⟩ := hv
    split at h
    · rename_i hu'
      obtain ⟨hn, h⟩ := Tree.need_some h
      obtain ⟨b, s, o, cap, hE, rfl, _⟩ := sl_some hu (by simpa [Nat.blt_eq] using hn)
      have hu := hu'
      simp only [Tree.run, Option.some.injEq] at h; subst h
      refine ⟨.bool false, fun w => ?_, rfl, rfl⟩
      simp only [Sem.run_bind, eqGuard_lit .eql t x y (u := .slice (some ⟨b, o, none⟩) _ cap) (v := .slice none _ _) rfl (fun h => by cases h) w, Result.andThen_ok, run_eql_nilS w t _ _ _ _ hu]
    · rename_i hu'
      obtain ⟨hn, h⟩ := Tree.need_some h
      obtain ⟨b, s, o, cap, hE, rfl, _⟩ := sl_some hu (by simpa [Nat.blt_eq] using hn)
      have hu := hu'
      simp only [Tree.run, Option.some.injEq] at h; subst h
      refine ⟨.bool true, fun w => ?_, rfl, rfl⟩
      simp only [Sem.run_bind, eqGuard_lit .neq t x y (u := .slice (some ⟨b, o, none⟩) _ cap) (v := .slice none _ _) rfl (fun h => by cases h) w, Result.andThen_ok, run_neq_nilS w t _ _ _ _ hu]
    · cases h
  · cases h

theorem binary_run {op : BinOp} {t : TypeId} {u v a : A} (h : (binary P op t u v).run = some a) {E : Env} {p q : Value} (hu : u.Is E p) (hv : v.Is E q) (w : World) (x y : Operand) :
    ∃ r, (do eqGuard op t x y p q; binOp op t p q : Sem Value).run P w = .ok r w ∧ a.Is E r := let ⟨r, h1, h2⟩ := binary_all h hu hv x y; ⟨r, h1 w, h2⟩

theorem max2A_run {E : Env} {x y z : A} {u v : Value} (h : max2A x y = some z) (hx : x.Is E u) (hy : y.Is E v) (w : World) : ∃ r, (Builtin.max2 u v).run P w = .ok r w ∧ z.Is E r := by
  unfold max2A at h
  split at h
  · simp only [Option.some.injEq] at h; subst h
    obtain ⟨rfl, _⟩ := hx
    obtain ⟨rfl, _⟩ := hy
    exact ⟨_, rfl, rfl, rfl⟩
  · cases h
theorem maxA_run {E : Env} : ∀ {ys : List A} {x z : A} {u : Value} {vs : List Value}, maxA x ys = some z → x.Is E u → All2 (A.Is E) ys vs → ∀ w, ∃ r, (vs.foldlM Builtin.max2 u).run P w = .ok r w ∧ z.Is E r
  | [], x, z, u, [], h, hx, _, w => by simp only [maxA, Option.some.injEq] at h; subst h; exact ⟨u, rfl, hx⟩
  | y :: ys, x, z, u, v :: vs, h, hx, hy, w => by
    simp only [maxA] at h
    split at h
    · rename_i z' hz
      obtain ⟨r, hr, hi⟩ := max2A_run (P := P) hz hx hy.1 w
      obtain ⟨r2, hr2, hi2⟩ := maxA_run h hi hy.2 w
      exact ⟨r2, by simp [List.foldlM_cons, Sem.run_bind, hr, hr2], hi2⟩
    · cases h
  | [], _, _, _, _ :: _, _, _, h, _ => h.elim
  | _ :: _, _, _, _, [], _, _, h, _ => h.elim
theorem min2A_run {E : Env} {x y z : A} {u v : Value} (h : min2A x y = some z) (hx : x.Is E u) (hy : y.Is E v) (w : World) : ∃ r, (Builtin.min2 u v).run P w = .ok r w ∧ z.Is E r := by
  unfold min2A at h
  split at h
  · simp only [Option.some.injEq] at h; subst h
    obtain ⟨rfl, _⟩ := hx
    obtain ⟨rfl, _⟩ := hy
    exact ⟨_, rfl, rfl, rfl⟩
  · cases h
theorem minA_run {E : Env} : ∀ {ys : List A} {x z : A} {u : Value} {vs : List Value}, minA x ys = some z → x.Is E u → All2 (A.Is E) ys vs → ∀ w, ∃ r, (vs.foldlM Builtin.min2 u).run P w = .ok r w ∧ z.Is E r
  | [], x, z, u, [], h, hx, _, w => by simp only [minA, Option.some.injEq] at h; subst h; exact ⟨u, rfl, hx⟩
  | y :: ys, x, z, u, v :: vs, h, hx, hy, w => by
    simp only [minA] at h
    split at h
    · rename_i z' hz
      obtain ⟨r, hr, hi⟩ := min2A_run (P := P) hz hx hy.1 w
      obtain ⟨r2, hr2, hi2⟩ := minA_run h hi hy.2 w
      exact ⟨r2, by simp [List.foldlM_cons, Sem.run_bind, hr, hr2], hi2⟩
    · cases h
  | [], _, _, _, _ :: _, _, _, h, _ => h.elim
  | _ :: _, _, _, _, [], _, _, h, _ => h.elim
end
end Go.Ev
