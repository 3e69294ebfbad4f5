/- A region whose order is open: whatever order the model draws, it comes to what the evaluator says. Conditions: none. -/
import Derived.Test.YtlpchgidkibbeaaGreatDoorEvReg
namespace Go.Ev
open Go

/-! ### Masks: whatever stands behind an operation's edges -/
theorem testBit_pow (n k : Nat) : (2 ^ n).testBit k = decide (n = k) := Nat.testBit_two_pow

/-- 'L' holds of whatever the listed operations stand behind -/
def AccOk (L : Nat → Prop) (acc : List Nat) : Prop := ∀ j m, nth acc j = some m → L j → ∀ k, m.testBit k = true → L k

theorem edgeMask_sub {L : Nat → Prop} {acc : List Nat} (hacc : AccOk L acc) : ∀ {es : List Edge}, (∀ e ∈ es, Region.binds .any e = true → L e.on) → ∀ k, (edgeMask acc es).testBit k = true → L k
  | [], _, k, h => by simp [edgeMask] at h
  | e :: es, he, k, h => by
    simp only [edgeMask] at h
    split at h
    · rename_i hb
      have hLe := he e (by simp) hb
      simp only [show ∀ a b, Nat.lor a b = a ||| b from fun _ _ => rfl, Nat.testBit_or, Bool.or_eq_true] at h
      rcases h with (h | h) | h
      · rw [testBit_pow] at h
        have : e.on = k := by simpa using h
        rw [← this]; exact hLe
      · cases hn : nth acc e.on with
        | none => rw [hn] at h; simp at h
        | some m => rw [hn] at h; exact hacc _ m hn hLe k h
      · exact edgeMask_sub hacc (fun e' he' => he e' (by simp [he'])) k h
    · exact edgeMask_sub hacc (fun e' he' => he e' (by simp [he'])) k h

theorem nth_append {α : Type} (l : List α) (x : α) (j : Nat) : nth (l ++ [x]) j = if j < l.length then nth l j else if j = l.length then some x else none := by
  simp only [nth_eq, List.getElem?_append]
  split
  · rfl
  · rename_i h
    split
    · rename_i e; simp [e]
    · rename_i e; simp; omega

theorem masks_len : ∀ (os : List Oper) (acc : List Nat), (masks acc os).length = acc.length + os.length
  | [], acc => by simp [masks]
  | o :: os, acc => by simp [masks, masks_len os]; omega

theorem masks_keep : ∀ (os : List Oper) (acc : List Nat) (j : Nat), j < acc.length → nth (masks acc os) j = nth acc j
  | [], acc, j, _ => rfl
  | o :: os, acc, j, h => by
    simp only [masks]
    rw [masks_keep os _ j (by simp; omega), nth_append, if_pos h]

/-- the mask of an operation whose edges are all in L lies in L -/
theorem masks_ok {L : Nat → Prop} : ∀ (os : List Oper) (acc : List Nat), AccOk L acc → (∀ j o, nth os j = some o → L (acc.length + j) → ∀ e ∈ o.after, Region.binds .any e = true → L e.on) →
    ∀ j m o, nth os j = some o → nth (masks acc os) (acc.length + j) = some m → (∀ e ∈ o.after, Region.binds .any e = true → L e.on) → ∀ k, m.testBit k = true → L k
  | [], _, _, _, j, m, o, ho, _, _, _, _ => by simp [nth] at ho
  | o :: os, acc, hacc, hcl, 0, m, o', ho, hm, he, k, hk => by
    simp only [nth, Option.some.injEq] at ho; subst ho
    simp only [masks] at hm
    rw [masks_keep os _ _ (by simp), nth_append] at hm
    simp at hm
    subst hm
    exact edgeMask_sub hacc (fun e h' => he e (by simpa using h')) k hk
  | o :: os, acc, hacc, hcl, j + 1, m, o', ho, hm, he, k, hk => by
    simp only [nth] at ho
    simp only [masks] at hm
    have hacc' : AccOk L (acc ++ [edgeMask acc o.after.toList]) := fun i m' hi hL k' hk' => by
      rw [nth_append] at hi
      split at hi
      · exact hacc i m' hi hL k' hk'
      · split at hi
        · rename_i _ e
          injection hi with hi; subst hi
          have := hcl 0 o rfl (by rw [Nat.add_zero, ← e]; exact hL)
          exact edgeMask_sub hacc (fun e' h' => this e' (by simpa using h')) k' hk'
        · cases hi
    have hlen : (acc ++ [edgeMask acc o.after.toList]).length = acc.length + 1 := by simp
    refine masks_ok os _ hacc' (fun i o2 hi hL => ?_) j m o' ho ?_ he k hk
    · rw [hlen] at hL
      exact hcl (i + 1) o2 (by simpa [nth] using hi) (by rw [show acc.length + (i + 1) = acc.length + 1 + i by omega]; exact hL)
    · rw [hlen, show acc.length + 1 + j = acc.length + (j + 1) by omega]; exact hm

/-! ### The items of a region -/
theorem items_mem : ∀ {os : List Oper} {ms : List Nat} {n : Nat} {x : Item}, x ∈ itemsFrom n os ms → ∃ j, x.i = n + j ∧ nth os j = some x.o ∧ nth ms j = some x.mask
  | [], _, _, _, h => by simp [itemsFrom] at h
  | _ :: _, [], _, _, h => by simp [itemsFrom] at h
  | o :: os, m :: ms, n, x, h => by
    simp only [itemsFrom, List.mem_cons] at h
    rcases h with rfl | h
    · exact ⟨0, rfl, rfl, rfl⟩
    · obtain ⟨j, h1, h2, h3⟩ := items_mem h
      exact ⟨j + 1, by omega, by simpa [nth] using h2, by simpa [nth] using h3⟩
theorem items_all : ∀ {os : List Oper} {ms : List Nat} {n j : Nat}, os.length = ms.length → j < os.length → ∃ x ∈ itemsFrom n os ms, x.i = n + j
  | [], _, _, j, _, h => by simp at h
  | _ :: _, [], _, _, h, _ => by simp at h
  | o :: os, m :: ms, n, 0, _, _ => ⟨⟨n, o, m⟩, by simp [itemsFrom], rfl⟩
  | o :: os, m :: ms, n, j + 1, hl, h => by
    obtain ⟨x, hx, hi⟩ := items_all (os := os) (ms := ms) (n := n + 1) (j := j) (by simpa using hl) (by simpa using h)
    exact ⟨x, by simp [itemsFrom, hx], by omega⟩
theorem order_mem {xs : List Item} {x : Item} : x ∈ orderOf xs ↔ x ∈ xs := by
  unfold orderOf
  rw [List.mem_append, List.mem_filter, List.mem_filter]
  constructor
  · rintro (⟨h, _⟩ | ⟨h, _⟩) <;> exact h
  · intro h
    by_cases hb : isEarly (loudMask xs) x = true
    · exact .inl ⟨h, hb⟩
    · exact .inr ⟨h, by simpa using hb⟩

theorem memN_iff {n : Nat} : ∀ {l : List Nat}, memN n l = true ↔ n ∈ l
  | [] => by simp [memN]
  | m :: l => by
    simp only [memN, List.mem_cons]
    by_cases e : n = m
    · subst e; simp
    · have : Nat.beq n m = false := by rw [Bool.eq_false_iff]; intro h; exact e (Nat.eq_of_beq_eq_true h)
      rw [this, memN_iff]; simp [e]

theorem looksOp_mem {t : Nat} : ∀ {xs : List Operand}, Operand.tmp t ∈ xs → t ∈ looksOp xs := by
  intro xs
  induction xs with
  | nil => intro h; simp at h
  | cons x xs ih =>
    intro h
    rcases List.mem_cons.1 h with e | h2
    · subst e; simp [looksOp]
    · have := ih h2
      cases x with
      | tmp u => exact List.mem_cons_of_mem _ this
      | const u => exact this
      | global u => exact this
      | func u => exact this
theorem looks_op {ops : List Oper} {o : Oper} {t : Nat} (h : Operand.tmp t ∈ o.op.operands.toList) : t ∈ looks ops o := by
  unfold looks
  split
  · split
    · exact List.mem_cons_of_mem _ (looksOp_mem h)
    · exact looksOp_mem h
  · exact looksOp_mem h
theorem looks_guard {ops : List Oper} {o : Oper} {j : Nat} {b : Bool} {t : Nat} (hg : o.guard = some (j, b)) (ht : dstOf ops j = some t) : t ∈ looks ops o := by
  unfold looks; rw [hg]; simp [ht]

theorem clash_dst {ops : List Oper} {x y : Oper} {t : Nat} (hx : x.dst = some t) (hy : t ∈ looks ops y ∨ y.dst = some t) : clash ops x y = true := by
  unfold clash
  rw [hx]
  rcases hy with hy | hy
  · simp [memN_iff.2 hy]
  · simp [hy]
theorem clash_looks {ops : List Oper} {x y : Oper} {t : Nat} (hy : y.dst = some t) (hx : t ∈ looks ops x) : clash ops x y = true := by
  unfold clash
  rw [hy]
  simp [memN_iff.2 hx]

theorem apartFrom_spec {ops : List Oper} {y : Item} : ∀ {xs : List Item}, apartFrom ops y xs = true → ∀ x ∈ xs, clash ops x.o y.o = true → y.mask.testBit x.i = true
  | [], _, x, hx, _ => by simp at hx
  | x :: xs, h, x', hx, hc => by
    simp only [apartFrom] at h
    split at h
    · rename_i hcl
      split at h
      · rename_i hb
        rcases List.mem_cons.1 hx with rfl | hx
        · exact hb
        · exact apartFrom_spec h x' hx hc
      · cases h
    · rename_i hcl
      rcases List.mem_cons.1 hx with rfl | hx
      · rw [hc] at hcl; cases hcl
      · exact apartFrom_spec h x' hx hc
theorem edgesIn_spec {m : Nat} : ∀ {es : List Edge}, edgesIn m es = true → ∀ e ∈ es, Region.binds .any e = true → m.testBit e.on = true
  | [], _, e, he, _ => by simp at he
  | e :: es, h, e', he, hb => by
    simp only [edgesIn] at h
    split at h
    · split at h
      · rename_i ht
        rcases List.mem_cons.1 he with rfl | he
        · exact ht
        · exact edgesIn_spec h e' he hb
      · cases h
    · rename_i hnb
      rcases List.mem_cons.1 he with rfl | he
      · rw [hb] at hnb; cases hnb
      · exact edgesIn_spec h e' he hb

/-! ### The quiet operations, one after the other -/
structure Rec where
  it : Item
  st : St
  go : Bool
  v : A

section
variable (P : Program) (evf : FuncId → Spec) (ops : Array Oper)

/-- a run of quiet operations: from a state to one from which on each operation stands behind all that came before -/
inductive Quiet : List Item → Nat → List (Nat × Bool) → St → List Rec → List Item → Nat → List (Nat × Bool) → St → Prop
  | stop (ys : List Item) (listed : Nat) (dec : List (Nat × Bool)) (st : St) (h : allTail listed ys = true) (hd : DecOk dec st.env) : Quiet ys listed dec st [] ys listed dec st
  | step (y : Item) (ys : List Item) (listed : Nat) (dec dec1 : List (Nat × Bool)) (st st1 st2 : St) (go : Bool) (v : A) (recs : List Rec) (zs : List Item) (listedF : Nat) (decF : List (Nat × Bool)) (stF : St)
      (e1 : st1.hp = st.hp) (e2 : st1.size = st.size) (e3 : ∀ t, st1.env.get D t = st.env.get D t)
      (hg : match y.o.guard with
       | none => go = true
       | some (j, want) => ∃ t d, dstOf ops.toList j = some t ∧ st.env.get D t = some d ∧ GuardGo d want go)
      (hop : go = true → ∃ h', (evOp P evf y.o.op st1.ρ { st1.hp with low := st1.hp.next }).run = some (v, h') ∧ h'.low = st1.hp.next ∧ h'.next = st1.hp.next)
      (hno : go = false → v = undefA)
      (hput : (st1.put y.o.dst v).run = some st2)
      (rest : Quiet ys (Nat.lor listed (2 ^ y.i)) (unDec dec1 y.o.dst) st2 recs zs listedF decF stF) : Quiet (y :: ys) listed dec st (⟨y, st1, go, v⟩ :: recs) zs listedF decF stF

variable {P evf ops}
theorem quiet_of {stR : St} : ∀ {ys : List Item} {listed : Nat} {dec : List (Nat × Bool)} {st : St}, DecOk dec st.env → (evItems P evf ops.toList ys listed dec st).run = some stR →
    ∃ recs zs listedF decF stF, Quiet P evf ops ys listed dec st recs zs listedF decF stF ∧ DecOk decF stF.env ∧ (evOps P evf ops.toList (zs.map (·.o)) decF stF).run = some stR
  | [], listed, dec, st, hd, h => by
    simp only [evItems] at h
    exact ⟨[], [], listed, dec, st, .stop _ _ _ _ rfl hd, hd, h⟩
  | y :: ys, listed, dec, st, hd, h => by
    simp only [evItems] at h
    split at h
    · rename_i ht
      exact ⟨[], y :: ys, listed, dec, st, .stop _ _ _ _ ht hd, hd, h⟩
    · obtain ⟨go, dec', st1, h1, e1, e2, e3, e4, hg⟩ := guarded_spec h hd
      cases go with
      | true =>
        simp only at h1
        obtain ⟨⟨v, h'⟩, hop, h1⟩ := Tree.bind_some h1
        simp only at h1
        split at h1
        · rename_i hq
          simp only [Bool.and_eq_true] at hq
          obtain ⟨st2, hput, h1⟩ := Tree.bind_some h1
          obtain ⟨recs, zs, lF, dF, sF, hQ, hdF, hF⟩ := quiet_of (DecOk.put e4 hput) h1
          exact ⟨_, zs, lF, dF, sF, .step y ys listed dec dec' st st1 st2 true v recs zs lF dF sF e1 e2 e3 hg
            (fun _ => ⟨h', hop, Nat.eq_of_beq_eq_true hq.1, Nat.eq_of_beq_eq_true hq.2⟩) (fun e => by cases e) hput hQ, hdF, hF⟩
        · cases h1
      | false =>
        simp only at h1
        obtain ⟨st2, hput, h1⟩ := Tree.bind_some h1
        obtain ⟨recs, zs, lF, dF, sF, hQ, hdF, hF⟩ := quiet_of (DecOk.put e4 hput) h1
        exact ⟨_, zs, lF, dF, sF, .step y ys listed dec dec' st st1 st2 false undefA recs zs lF dF sF e1 e2 e3 hg (fun e => by cases e) (fun _ => rfl) hput hQ, hdF, hF⟩

/-- what the writes of some of the records leave in the temporaries -/
def upd (env : Tmp → Option A) (dst : Option Tmp) (v : A) : Tmp → Option A := fun t => if dst = some t then some v else env t
def wrL (L : Nat → Bool) : (Tmp → Option A) → List Rec → Tmp → Option A
  | env, [] => env
  | env, r :: rs => wrL L (if L r.it.i = true then upd env r.it.o.dst r.v else env) rs

theorem wrL_none {L : Nat → Bool} {t : Tmp} : ∀ {rs : List Rec} {env : Tmp → Option A}, (∀ r ∈ rs, r.it.o.dst = some t → L r.it.i = false) → wrL L env rs t = env t
  | [], _, _ => rfl
  | r :: rs, env, h => by
    simp only [wrL]
    rw [wrL_none fun r' hr' => h r' (by simp [hr'])]
    split
    · rename_i hL
      unfold upd
      rw [if_neg]
      intro e
      have := h r (by simp) e
      rw [hL] at this; cases this
    · rfl
theorem wrL_congr {L L' : Nat → Bool} {t : Tmp} : ∀ {rs : List Rec} {env env' : Tmp → Option A}, (∀ r ∈ rs, r.it.o.dst = some t → L r.it.i = L' r.it.i) → env t = env' t → wrL L env rs t = wrL L' env' rs t
  | [], _, _, _, h => h
  | r :: rs, env, env', h, he => by
    simp only [wrL]
    refine wrL_congr (fun r' hr' => h r' (by simp [hr'])) ?_
    by_cases e : r.it.o.dst = some t
    · have := h r (by simp) e
      rw [← this]
      split
      · simp [upd, e]
      · exact he
    · split <;> split <;> simp [upd, e, he]
theorem wrL_append {L : Nat → Bool} : ∀ {rs rs' : List Rec} {env : Tmp → Option A}, wrL L env (rs ++ rs') = wrL L (wrL L env rs) rs'
  | [], _, _ => rfl
  | _ :: rs, rs', env => by simp only [List.cons_append, wrL]; exact wrL_append

/-- what the orders' check gives of the records -/
structure Ordered (recs : List Rec) : Prop where
  look : ∀ pre r post, recs = pre ++ r :: post → ∀ r' ∈ pre, clash ops.toList r'.it.o r.it.o = true → r.it.mask.testBit r'.it.i = true
  ne : ∀ pre r post, recs = pre ++ r :: post → ∀ r' ∈ post, r'.it.i ≠ r.it.i
  edges : ∀ pre r post, recs = pre ++ r :: post → ∀ e ∈ r.it.o.after, Region.binds .any e = true → ∃ r' ∈ pre, r'.it.i = e.on

/-- the masks that the items bear after the check -/
def maskOf (xs : List Item) : Nat → Nat := fun m => xs.foldl (fun m x => Nat.lor m (2 ^ x.i)) m

theorem lor_bit (a n k : Nat) : (Nat.lor a (2 ^ n)).testBit k = (a.testBit k || decide (n = k)) := by
  rw [show Nat.lor a (2 ^ n) = a ||| 2 ^ n from rfl, Nat.testBit_or, testBit_pow]

structure Facts (done : List Item) (listed : Nat) (ys : List Item) : Prop where
  bits : ∀ k, listed.testBit k = true ↔ ∃ x ∈ done, x.i = k
  ok : orderOk ops.toList done listed ys = true

theorem Facts.next {done : List Item} {listed : Nat} {y : Item} {ys : List Item} (f : Facts (ops := ops) done listed (y :: ys)) :
    Facts (ops := ops) (y :: done) (Nat.lor listed (2 ^ y.i)) ys ∧ edgesIn listed y.o.after.toList = true ∧ apartFrom ops.toList y done = true ∧ listed.testBit y.i = false := by
  have h := f.ok
  simp only [orderOk] at h
  split at h
  · rename_i hc
    simp only [Bool.and_eq_true, Bool.not_eq_true'] at hc
    refine ⟨⟨fun k => ?_, h⟩, hc.1.1.1, hc.1.1.2, hc.2⟩
    rw [lor_bit, Bool.or_eq_true, f.bits, decide_eq_true_eq]
    constructor
    · rintro (⟨x, hx, e⟩ | e)
      · exact ⟨x, by simp [hx], e⟩
      · exact ⟨y, by simp, e⟩
    · rintro ⟨x, hx, e⟩
      rcases List.mem_cons.1 hx with rfl | hx
      · exact .inr e
      · exact .inl ⟨x, hx, e⟩
  · cases h

theorem Quiet.items {ys : List Item} {listed : Nat} {dec : List (Nat × Bool)} {st : St} {recs : List Rec} {zs : List Item} {lF : Nat} {dF : List (Nat × Bool)} {sF : St}
    (q : Quiet P evf ops ys listed dec st recs zs lF dF sF) : ys = recs.map (·.it) ++ zs := by
  induction q with
  | stop => rfl
  | step y ys listed dec dec1 st st1 st2 go v recs zs lF dF sF _ _ _ _ _ _ _ _ ih => simp [ih]

theorem Quiet.ordered {ys : List Item} {listed : Nat} {dec : List (Nat × Bool)} {st : St} {recs : List Rec} {zs : List Item} {lF : Nat} {dF : List (Nat × Bool)} {sF : St}
    (q : Quiet P evf ops ys listed dec st recs zs lF dF sF) : ∀ {done : List Item}, Facts (ops := ops) done listed ys →
    ∃ doneF, Facts (ops := ops) doneF lF zs ∧ (∀ x, x ∈ doneF ↔ x ∈ done ∨ ∃ r ∈ recs, r.it = x) ∧ allTail lF zs = true ∧
      (∀ pre r post, recs = pre ++ r :: post →
        (∀ x, (x ∈ done ∨ ∃ r' ∈ pre, r'.it = x) → clash ops.toList x.o r.it.o = true → r.it.mask.testBit x.i = true) ∧
        (∀ x, (x ∈ done ∨ ∃ r' ∈ pre, r'.it = x) → r.it.i ≠ x.i) ∧
        (∀ e ∈ r.it.o.after, Region.binds .any e = true → ∃ x, (x ∈ done ∨ ∃ r' ∈ pre, r'.it = x) ∧ x.i = e.on)) := by
  induction q with
  | stop ys listed dec st h hd =>
    intro done f
    exact ⟨done, f, fun x => by simp, h, fun pre r post e => by simp at e⟩
  | step y ys listed dec dec1 st st1 st2 go v recs zs lF dF sF _ _ _ _ _ _ _ _ ih =>
    intro done f
    obtain ⟨f1, hed, hap, hbit⟩ := f.next
    obtain ⟨doneF, fF, hmem, htail, hall⟩ := ih f1
    refine ⟨doneF, fF, fun x => ?_, htail, fun pre r post e => ?_⟩
    · rw [hmem]; simp only [List.mem_cons]
      constructor
      · rintro ((rfl | h) | ⟨r, hr, e⟩)
        · exact .inr ⟨_, .inl rfl, rfl⟩
        · exact .inl h
        · exact .inr ⟨r, .inr hr, e⟩
      · rintro (h | ⟨r, rfl | hr, e⟩)
        · exact .inl (.inr h)
        · exact .inl (.inl e.symm)
        · exact .inr ⟨r, hr, e⟩
    · cases pre with
      | nil =>
        simp only [List.nil_append, List.cons.injEq] at e
        obtain ⟨rfl, rfl⟩ := e
        refine ⟨fun x hx hc => ?_, fun x hx => ?_, fun e he hb => ?_⟩
        · rcases hx with hx | ⟨r', hr', _⟩
          · exact apartFrom_spec hap x hx hc
          · simp at hr'
        · rcases hx with hx | ⟨r', hr', _⟩
          · intro e
            have := (f.bits y.i).2 ⟨x, hx, e.symm⟩
            rw [hbit] at this; cases this
          · simp at hr'
        · have := edgesIn_spec hed e (by simpa using he) hb
          obtain ⟨x, hx, e'⟩ := (f.bits _).1 this
          exact ⟨x, .inl hx, e'⟩
      | cons p pre =>
        simp only [List.cons_append, List.cons.injEq] at e
        obtain ⟨rfl, rfl⟩ := e
        obtain ⟨h1, h2, h3⟩ := hall pre r post rfl
        have conv : ∀ x, (x ∈ done ∨ ∃ r' ∈ (⟨y, st1, go, v⟩ : Rec) :: pre, r'.it = x) → (x ∈ y :: done ∨ ∃ r' ∈ pre, r'.it = x) := by
          rintro x (hx | ⟨r', hr', e⟩)
          · exact .inl (by simp [hx])
          · rcases List.mem_cons.1 hr' with rfl | hr'
            · exact .inl (by simp [← e])
            · exact .inr ⟨r', hr', e⟩
        refine ⟨fun x hx hc => h1 x (conv x hx) hc, fun x hx => h2 x (conv x hx), fun e he hb => ?_⟩
        obtain ⟨x, hx, e'⟩ := h3 e he hb
        refine ⟨x, ?_, e'⟩
        rcases hx with hx | ⟨r', hr', e⟩
        · rcases List.mem_cons.1 hx with rfl | hx
          · exact .inr ⟨⟨x, st1, go, v⟩, by simp, rfl⟩
          · exact .inl hx
        · exact .inr ⟨r', by simp [hr'], e⟩

/-- the states of the records -/
theorem Quiet.states {ys : List Item} {listed : Nat} {dec : List (Nat × Bool)} {st : St} {recs : List Rec} {zs : List Item} {lF : Nat} {dF : List (Nat × Bool)} {sF : St}
    (q : Quiet P evf ops ys listed dec st recs zs lF dF sF) :
    sF.hp = st.hp ∧ sF.size = st.size ∧ (∀ t, sF.env.get D t = wrL (fun _ => true) (fun t => st.env.get D t) recs t) ∧
    (∀ pre r post, recs = pre ++ r :: post → r.st.hp = st.hp ∧ (∀ t, r.st.env.get D t = wrL (fun _ => true) (fun t => st.env.get D t) pre t) ∧ (∀ d, r.it.o.dst = some d → d < st.size) ∧
      (match r.it.o.guard with
       | none => r.go = true
       | some (j, want) => ∃ t d, dstOf ops.toList j = some t ∧ r.st.env.get D t = some d ∧ GuardGo d want r.go) ∧
      (r.go = true → ∃ h', (evOp P evf r.it.o.op r.st.ρ { r.st.hp with low := r.st.hp.next }).run = some (r.v, h') ∧ h'.low = r.st.hp.next ∧ h'.next = r.st.hp.next) ∧ (r.go = false → r.v = undefA)) := by
  induction q with
  | stop ys listed dec st h hd => exact ⟨rfl, rfl, fun _ => rfl, fun pre r post e => by simp at e⟩
  | step y ys listed dec dec1 st st1 st2 go v recs zs lF dF sF e1 e2 e3 hg hop hno hput _ ih =>
    obtain ⟨i1, i2, i3, i4⟩ := ih
    obtain ⟨p1, p2, p3, p4⟩ := put_spec hput
    have henv : (fun t => st2.env.get D t) = upd (fun t => st.env.get D t) y.o.dst v := by
      funext t; rw [p3]; unfold upd; split
      · rfl
      · exact e3 t
    refine ⟨by rw [i1, p1, e1], by rw [i2, p2, e2], fun t => ?_, fun pre r post e => ?_⟩
    · rw [i3, henv]; simp [wrL]
    · cases pre with
      | nil =>
        simp only [List.nil_append, List.cons.injEq] at e
        obtain ⟨rfl, rfl⟩ := e
        refine ⟨e1, fun t => by simp only [wrL]; exact e3 t, fun d hd => by rw [← e2]; exact p4 d hd, ?_, hop, hno⟩
        simp only
        cases hgu : y.o.guard with
        | none => rw [hgu] at hg; exact hg
        | some jw =>
          obtain ⟨j, want⟩ := jw
          rw [hgu] at hg
          obtain ⟨t, d, h1, h2, h3⟩ := hg
          exact ⟨t, d, h1, by rw [e3]; exact h2, h3⟩
      | cons p pre =>
        simp only [List.cons_append, List.cons.injEq] at e
        obtain ⟨rfl, rfl⟩ := e
        obtain ⟨j1, j2, j3, j4⟩ := i4 pre r post rfl
        refine ⟨by rw [j1, p1, e1], fun t => ?_, fun d hd => by have := j3 d hd; rw [p2, e2] at this; exact this, j4⟩
        rw [j2, henv]; simp [wrL]
end
end Go.Ev
