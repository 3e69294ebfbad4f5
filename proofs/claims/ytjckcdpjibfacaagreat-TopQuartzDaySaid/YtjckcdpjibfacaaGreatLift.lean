/- Entries of tables for functions on tables (lists of structs), numbers, bools and strings, that may hand back new tables. Conditions: as the entries say. -/
import Derived.Test.YtjckcdpjibfacaaGreatBas
import Derived.Test.YtjckcdpjibfacaaGreatLoops
namespace Go.Ev
open Go Go.Proofs
def mapC (φ : Nat → Nat) : C → C
 | .lit v => .lit v
 | .ptr id k m j => .ptr (φ id) k m j
 | .sl o id k m j n => .sl o (φ id) k m j n
 | .fb f ls => .fb f ls
 | _ => .any
def mapCs (φ : Nat → Nat) : List C → List C
 | [] => []
 | c :: cs => mapC φ c :: mapCs φ cs
def mapVs (φ : Nat → Nat) : List (Bool × List C) → List (Bool × List C)
 | [] => []
 | (b, cs) :: vs => (b, mapCs φ cs) :: mapVs φ vs
def mapA (φ : Nat → Nat) : A → A
 | .one c => .one (mapC φ c)
 | .agg cs => .agg (mapCs φ cs)
 | .tup vs => .tup (mapVs φ vs)
def mapB (φ : Nat → Nat) : Blk → Blk
 | ⟨ro, e, .flat cs⟩ => ⟨ro, e, .flat (mapCs φ cs)⟩
 | b => b
section
variable {E E' : Env} {φ : Nat → Nat} (h : ∀ id p, E id = some p → E' (φ id) = some p)
include h
theorem mapC_is {c : C} {x : Value} (hc : c.Is E x) : (mapC φ c).Is E' x := by
 have h1 := hc.oneCell
 cases c with
 | lit v => exact hc
 | ptr id k m j => obtain ⟨b, s, he, hx⟩ := hc; exact ⟨b, s, h _ _ he, hx⟩
 | sl o id k m j n =>
  rcases hc with ⟨b, s, o', cap, he, r⟩ | r
  ·exact .inl ⟨b, s, o', cap, h _ _ he, r⟩
  ·exact .inr r
 | fb f ls => exact hc
 | fn f caps => exact h1
 | yld id => exact h1
 | bd f id k m j => exact h1
 | mp id => exact h1
 | any => exact h1
theorem mapCs_is : ∀ {cs : List C} {xs : List Value}, All2 (C.Is E) cs xs → All2 (C.Is E') (mapCs φ cs) xs
 | [], [], _ => trivial
 | _ :: _, _ :: _, hh => ⟨mapC_is h hh.1, mapCs_is hh.2⟩
 | [], _ :: _, hh => hh.elim
 | _ :: _, [], hh => hh.elim
theorem mapVs_is : ∀ {vs : List (Bool × List C)} {xs : List Value}, All2 (compIs E) vs xs → All2 (compIs E') (mapVs φ vs) xs
 | [], [], _ => trivial
 | (false, _) :: _, _ :: _, ⟨⟨c, e, hc⟩, hh⟩ => ⟨⟨mapC φ c, by subst e; rfl, mapC_is h hc⟩, mapVs_is hh⟩
 | (true, _) :: _, _ :: _, ⟨⟨l, e, hc⟩, hh⟩ => ⟨⟨l, e, mapCs_is h hc⟩, mapVs_is hh⟩
 | [], _ :: _, hh => hh.elim
 | (_, _) :: _, [], hh => hh.elim
theorem mapA_is {a : A} {x : Value} (ha : a.Is E x) : (mapA φ a).Is E' x := by
 cases a with
 | one c => exact mapC_is h ha
 | agg cs => obtain ⟨l, e, hh⟩ := ha; exact ⟨l, e, mapCs_is h hh⟩
 | tup vs => obtain ⟨l, e, hh⟩ := ha; exact ⟨l, e, mapVs_is h hh⟩
omit h in
theorem mapCs_len : ∀ cs : List C, (mapCs φ cs).length = cs.length
 | [] => rfl
 | _ :: cs => by simp [mapCs, mapCs_len cs]
omit h in
theorem mapCs_nth : ∀ {cs : List C} {i : Nat} {c : C}, nth (mapCs φ cs) i = some c → ∃ c', nth cs i = some c' ∧ c = mapC φ c'
 | [], _, _, hh => by simp [mapCs, nth] at hh
 | c0 :: cs, 0, c, hh => by simp only [mapCs, nth, Option.some.injEq] at hh; exact ⟨c0, rfl, hh.symm⟩
 | _ :: cs, i + 1, c, hh => mapCs_nth (cs := cs) hh
theorem mapB_is {w : World} {p : Nat × Nat × Nat} {b : Blk} (hm : b.body.isMap = false) (hb : blkIs E w p b) : blkIs E' w p (mapB φ b) := by
 obtain ⟨ro, e, body⟩ := b
 obtain ⟨arr, fz, h1, h2, h3, h4⟩ := hb.cells hm
 cases body with
 | flat cs =>
  refine .inl ⟨arr, fz, h1, h2, ⟨h3.1, fun i c hc => ?_⟩, ?_⟩
  ·obtain ⟨c', hc', rfl⟩ := mapCs_nth hc
   obtain ⟨x, hx, hi⟩ := h3.2 i c' hc'
   exact ⟨x, hx, mapC_is h hi⟩
  ·unfold roIs at h4 ⊢
   cases ro with
   | false => exact h4
   | true =>
    intro cs' hcs'
    injection hcs' with hcs'
    rw [← hcs', mapCs_len]
    exact h4 cs rfl
 | rows n cols =>
  refine .inl ⟨arr, fz, h1, h2, ⟨h3.1, fun k j c hk hj => ?_⟩, h4⟩
  obtain ⟨x, hx, hi⟩ := h3.2 k j c hk hj
  exact ⟨x, hx, at_is hi⟩
 | map es => cases hm
 | imap n f g x => cases hm
 | iter id n => cases hm
end
def SubV (b b1 : Blk) : Prop := b1.ro = true ∧ ∀ (E E' : Env) (w : World) (p : Nat × Nat × Nat), blkIs E w p b → blkIs E' w p b1
theorem subV_rows {ro : Bool} {e : TypeId} {n n' : Nat} {cols : List Col} (hn : n ≤ n') : SubV ⟨ro, e, .rows n' cols⟩ ⟨true, 0, .rows n cols⟩ := by
 refine ⟨rfl, fun E E' w p h => ?_⟩
 obtain ⟨arr, fz, ⟨t, h1, _⟩, h2, h3, _⟩ := h.cells rfl
 refine .inl ⟨arr, fz, ⟨t, h1, fun e => by cases e⟩, h2, ⟨fun e => (by cases e), fun k j c hk hj => ?_⟩, fun cs e => by cases e⟩
 obtain ⟨x, hx, hi⟩ := h3.2 k j c (Nat.lt_of_lt_of_le hk hn) hj
 exact ⟨x, hx, at_is hi⟩
theorem noIds_nth : ∀ {cs : List C} {i : Nat} {c : C}, noIds cs = true → nth cs i = some c → c.noId = true
 | [], _, _, _, hh => by simp [nth] at hh
 | c0 :: cs, 0, c, hn, hh => by
  simp only [nth, Option.some.injEq] at hh
  subst hh
  simp only [noIds] at hn
  split at hn
  ·assumption
  ·cases hn
 | c0 :: cs, i + 1, c, hn, hh => by
  simp only [noIds] at hn
  split at hn
  ·exact noIds_nth (cs := cs) (i := i) hn hh
  ·cases hn
theorem subV_flat {e : TypeId} {cs : List C} (hn : noIds cs = true) : SubV ⟨true, e, .flat cs⟩ ⟨true, 0, .flat cs⟩ := by
 refine ⟨rfl, fun E E' w p h => ?_⟩
 obtain ⟨arr, fz, ⟨t, h1, _⟩, h2, h3, h4⟩ := h.cells rfl
 refine .inl ⟨arr, fz, ⟨t, h1, fun e => by cases e⟩, h2, ⟨fun e => (by cases e), fun i c hc => ?_⟩, h4⟩
 obtain ⟨x, hx, hi⟩ := h3.2 i c hc
 exact ⟨x, hx, hi.noId (noIds_nth hn hc)⟩
theorem subV_flatRows {ro : Bool} {e : TypeId} {cs : List C} {n : Nat} {dflt cols : List Col} (h : putRows n 0 dflt cs = some cols) : SubV ⟨ro, e, .flat cs⟩ ⟨true, 0, .rows n cols⟩ := by
 refine ⟨rfl, fun E E' w p h0 => ?_⟩
 obtain ⟨arr, fz, ⟨t, h1, _⟩, h2, h3, _⟩ := h0.cells rfl
 obtain ⟨l1, l2⟩ := putRows_spec h
 refine .inl ⟨arr, fz, ⟨t, h1, fun e => by cases e⟩, h2, ⟨fun e => (by cases e), fun k j c hk hj => ?_⟩, fun cs e => by cases e⟩
 obtain ⟨c0, _, _, a2⟩ := l2 j c hj
 obtain ⟨x, hx, he⟩ := a2 k hk
 obtain ⟨y, hy, hi⟩ := h3.2 _ x hx
 rw [Nat.zero_add] at he
 rw [← he] at hi
 exact ⟨y, by rw [l1]; exact hy, at_is hi⟩
theorem rh_subV {E : Env} {h : Hp} {w : World} (rh : RH E h w) {ids : List Nat} {bs : List Blk} {globs : List (Nat × Nat)} (hlen : ids.length = bs.length) (hlim : bs.length ≤ lim)
  (hbs : ∀ i id b1, nth ids i = some id → nth bs i = some b1 → ∃ b, h.blk id = some b ∧ SubV b b1) (hg : ∀ g i, lookupN globs g = some i → ∃ id, nth ids i = some id ∧ lookupN h.globs g = some id) :
  RH (subEnv E ids) (hpL bs globs) w where
 nlim := hlim
 dom := fun id hid => by
  have hid : bs.length ≤ id := hid
  unfold subEnv
  rw [nth_eq, List.getElem?_eq_none (by omega)]
 lt := fun id p hp => by
  unfold subEnv at hp
  split at hp
  ·exact rh.lt _ _ hp
  ·cases hp
 blk := fun i b1 hb => by
  rw [hpL_get hlim] at hb
  have hi : i < ids.length := by rw [hlen]; exact nth_lt hb
  have hid : nth ids i = some ids[i] := by rw [nth_eq]; exact List.getElem?_eq_getElem hi
  obtain ⟨b, hbb, _, s2⟩ := hbs i _ b1 hid hb
  obtain ⟨p, hp, hi⟩ := rh.blk _ _ hbb
  exact ⟨p, by unfold subEnv; rw [hid]; exact hp, s2 _ _ _ _ hi⟩
 inj := fun i i' b1 b1' p p' hb hb' hro hp hp' he => by
  rw [hpL_get hlim] at hb
  have hi : i < ids.length := by rw [hlen]; exact nth_lt hb
  have hid : nth ids i = some ids[i] := by rw [nth_eq]; exact List.getElem?_eq_getElem hi
  obtain ⟨b, hbb, s1, _⟩ := hbs i _ b1 hid hb
  rw [s1] at hro
  cases hro
 glob := fun g i hgi => by
  obtain ⟨id, h1, h2⟩ := hg g i hgi
  obtain ⟨s, hs⟩ := rh.glob g id h2
  exact ⟨s, by unfold subEnv; rw [h1]; exact hs⟩
 lp := fun _ _ e => by cases e
def upN (ids : List Nat) (next : Nat) (i : Nat) : Nat := match nth ids i with
 | some id => id
 | none => next + (i - ids.length)
def hpN (bs : List Blk) (globs : List (Nat × Nat)) (news : List Blk) : Hp := match news with
 | [] => hpL bs globs
 | b :: l => { heap := layBlks (layL 0 bs .nil) bs.length ((b :: l).map some), next := bs.length + (b :: l).length, low := bs.length, globs := globs }
def layH (φ : Nat → Nat) (h : Hp) (news : List Blk) : Hp := match news with
 | [] => h
 | b :: l => { h with heap := layBlks h.heap h.next ((b :: l).map fun b => some (mapB φ b)), next := h.next + (b :: l).length }
theorem hpN_get {bs : List Blk} {globs : List (Nat × Nat)} {news : List Blk} (hl : bs.length + news.length ≤ lim) (j : Nat) (hj : j < news.length) : (hpN bs globs news).heap.get D (bs.length + j) = news[j]? := by
 cases news with
 | nil => simp at hj
 | cons b l =>
  show (layBlks (layL 0 bs .nil) bs.length ((b :: l).map some)).get D (bs.length + j) = _
  rw [layBlks_get (by simpa using hl), if_pos (by simp at hj ⊢; omega)]
  simp only [Nat.add_sub_cancel_left, List.getElem?_map]
  cases h : (b :: l)[j]? with
  | none => rw [List.getElem?_eq_none_iff] at h; omega
  | some x => rfl
theorem hpN_next {bs : List Blk} {globs : List (Nat × Nat)} {news : List Blk} : (hpN bs globs news).next = bs.length + news.length := by cases news <;> rfl
theorem hpN_low {bs : List Blk} {globs : List (Nat × Nat)} {news : List Blk} : (hpN bs globs news).low = bs.length := by cases news <;> rfl
theorem layH_get {φ : Nat → Nat} {h : Hp} {news : List Blk} (hl : h.next + news.length ≤ lim) (k : Nat) : (layH φ h news).heap.get D k = if h.next ≤ k ∧ k < h.next + news.length then (news[k - h.next]?).map (mapB φ) else h.heap.get D k := by
 cases news with
 | nil =>
  show h.heap.get D k = _
  rw [if_neg (by simp)]
 | cons b l =>
  show (layBlks h.heap h.next ((b :: l).map fun b => some (mapB φ b))).get D k = _
  rw [layBlks_get (by simpa using hl)]
  simp only [List.length_map]
  split
  ·simp only [List.getElem?_map]
   cases (b :: l)[k - h.next]? <;> rfl
  ·rfl
theorem layH_next {φ : Nat → Nat} {h : Hp} {news : List Blk} : (layH φ h news).next = h.next + news.length := by cases news <;> rfl
theorem layH_low {φ : Nat → Nat} {h : Hp} {news : List Blk} : (layH φ h news).low = h.low := by cases news <;> rfl
theorem layH_globs {φ : Nat → Nat} {h : Hp} {news : List Blk} : (layH φ h news).globs = h.globs := by cases news <;> rfl
theorem layH_lp {φ : Nat → Nat} {h : Hp} {news : List Blk} : (layH φ h news).lp = h.lp := by cases news <;> rfl
theorem lift_newR {P : Program} {f : FuncId} {args1 : List A} {v : A} {bs : List Blk} {globs : List (Nat × Nat)} {news : List Blk} (hc : CallAt P f args1 (hpL bs globs) v (hpN bs globs news)) (hmaps : ∀ b ∈ news, b.body.isMap = false)
  {E : Env} {h : Hp} {w : World} (rh : RH E h w) {ids : List Nat} (hlen : ids.length = bs.length) (hlim : bs.length + news.length ≤ lim) (hroom : h.next + news.length ≤ lim)
  (rs : RH (subEnv E ids) (hpL bs globs) w)
  {vals : List Value} (hargs : All2 (A.Is (subEnv E ids)) args1 vals) : Calls P f vals.toArray w fun e w' => ∃ x E', e = .returned x ∧ (mapA (upN ids h.next) v).Is E' x ∧ Stp E h w E' (layH (upN ids h.next) h news) w' := by
 refine (hc _ w vals rs hargs).mono ?_
 rintro e w' ⟨x, E1, he', hx, hst⟩
 have hold : ∀ i p, i < bs.length → E1 i = some p → ∃ id, nth ids i = some id ∧ E id = some p := fun i p hi hp => by
  rcases hst.fr.new i p hp with h1 | ⟨h1, _⟩
  ·unfold subEnv at h1
   split at h1
   ·rename_i id hid; exact ⟨id, hid, h1⟩
   ·cases h1
  ·have h1 : bs.length ≤ i := h1
   omega
 have hhi : ∀ i p, E1 i = some p → i < bs.length + news.length := fun i p hp => by
  rcases Nat.lt_or_ge i (bs.length + news.length) with h1 | h1
  ·exact h1
  ·rw [hst.rh.dom i (by rw [hpN_next]; exact h1)] at hp; cases hp
 have hEn : ∀ id p, E id = some p → id < h.next := fun id p hp => by
  rcases Nat.lt_or_ge id h.next with h1 | h1
  ·exact h1
  ·rw [rh.dom id h1] at hp; cases hp
 have hnew : ∀ j p, E1 (bs.length + j) = some p → w.heap.size ≤ p.1 := fun j p hp => by
  rcases hst.fr.new _ p hp with h1 | ⟨_, h1 | ⟨id0, p0, he0, _, hl⟩⟩
  ·unfold subEnv at h1
   rw [nth_eq, List.getElem?_eq_none (by omega)] at h1
   cases h1
  ·exact h1
  ·rw [hpN_low] at hl
   unfold subEnv at he0
   rw [nth_eq, List.getElem?_eq_none (by omega)] at he0
   cases he0
 have hkeep : ∀ k, k < w.heap.size → w'.heap[k]? = w.heap[k]? := fun k hk => hst.fr.keep k hk fun id p hp _ => by
  rw [hpN_low]
  unfold subEnv at hp
  split at hp
  ·rename_i id' hid; rw [← hlen]; exact nth_lt hid
  ·cases hp
 obtain ⟨E', hE'⟩ : ∃ E' : Env, ∀ id, E' id = if id < h.next then E id else if id < h.next + news.length then E1 (bs.length + (id - h.next)) else none := ⟨_, fun _ => rfl⟩
 have hle : E.le E' := fun id p hp => by rw [hE', if_pos (hEn id p hp)]; exact hp
 have hup : ∀ i p, E1 i = some p → E' (upN ids h.next i) = some p := fun i p hp => by
  rcases Nat.lt_or_ge i bs.length with h1 | h1
  ·obtain ⟨id, hid, he⟩ := hold i p h1 hp
   unfold upN
   rw [hid]
   exact hle _ _ he
  ·have hn : nth ids i = none := by rw [nth_eq, List.getElem?_eq_none (by omega)]
   have hi := hhi i p hp
   unfold upN
   rw [hn]
   simp only
   rw [hE', if_neg (by omega), if_pos (by omega), show bs.length + (h.next + (i - ids.length) - h.next) = i by omega]
   exact hp
 refine ⟨x, E', he', mapA_is hup hx, ?_⟩
 refine ⟨⟨by rw [layH_next]; exact hroom, fun id hid => ?_, fun id p hp => ?_, fun id b hb => ?_, fun id id' b b' p p' hb hb' hro hp hp' he => ?_, fun g id hgg => ?_, ?_⟩, ⟨hle, hst.fr.os, hst.fr.tape, hst.fr.output, hst.fr.size, fun k hk _ => hkeep k hk, fun id p hp => ?_, hst.fr.oth⟩, by rw [layH_next]; exact Nat.le_add_right _ _, by rw [layH_low]; exact Nat.le_refl _, layH_globs, layH_lp⟩
 ·rw [layH_next] at hid
  rw [hE', if_neg (by omega), if_neg (by omega)]
 ·rw [hE'] at hp
  split at hp
  ·exact Nat.lt_of_lt_of_le (rh.lt _ _ hp) hst.fr.size
  ·split at hp
   ·exact hst.rh.lt _ _ hp
   ·cases hp
 ·rw [layH_get hroom] at hb
  split at hb
  ·rename_i hc2
   cases hj : news[id - h.next]? with
   | none => rw [hj] at hb; cases hb
   | some b0 =>
    rw [hj] at hb
    simp only [Option.map_some, Option.some.injEq] at hb
    subst hb
    obtain ⟨p, hp, hi⟩ := hst.rh.blk (bs.length + (id - h.next)) b0 (by rw [hpN_get hlim _ (by omega)]; exact hj)
    exact ⟨p, by rw [hE', if_neg (by omega), if_pos hc2.2]; exact hp, mapB_is hup (hmaps b0 (List.mem_of_getElem? hj)) hi⟩
  ·obtain ⟨p, hp, hi⟩ := rh.blk id b hb
   exact ⟨p, hle _ _ hp, (hi.of_heap (hkeep _ (rh.lt _ _ hp))).mono hle⟩
 ·rw [layH_get hroom] at hb hb'
  split at hb <;> split at hb'
  ·rename_i c1 c2
   cases hj : news[id - h.next]? with
   | none => rw [hj] at hb; cases hb
   | some b0 =>
    cases hj' : news[id' - h.next]? with
    | none => rw [hj'] at hb'; cases hb'
    | some b0' =>
     rw [hj] at hb
     rw [hj'] at hb'
     simp only [Option.map_some, Option.some.injEq] at hb hb'
     subst hb
     rw [hE', if_neg (by omega), if_pos c1.2] at hp
     rw [hE', if_neg (by omega), if_pos c2.2] at hp'
     have hro0 : b0.ro = false := by
      obtain ⟨ro, e, body⟩ := b0
      cases body <;> exact hro
     have := hst.rh.inj _ _ b0 b0' p p' (by rw [hpN_get hlim _ (by omega)]; exact hj) (by rw [hpN_get hlim _ (by omega)]; exact hj') hro0 hp hp' he
     omega
  ·rename_i c1 _
   obtain ⟨q, hq, _⟩ := rh.blk id' b' hb'
   obtain rfl : q = p' := Option.some.inj ((hle _ _ hq).symm.trans hp')
   have := rh.lt _ _ hq
   rw [hE', if_neg (by omega), if_pos c1.2] at hp
   have := hnew _ _ hp
   omega
  ·rename_i _ c2
   obtain ⟨q, hq, _⟩ := rh.blk id b hb
   obtain rfl : q = p := Option.some.inj ((hle _ _ hq).symm.trans hp)
   have := rh.lt _ _ hq
   rw [hE', if_neg (by omega), if_pos c2.2] at hp'
   have := hnew _ _ hp'
   omega
  ·obtain ⟨q, hq, _⟩ := rh.blk id b hb
   obtain ⟨q', hq', _⟩ := rh.blk id' b' hb'
   obtain rfl : q = p := Option.some.inj ((hle _ _ hq).symm.trans hp)
   obtain rfl : q' = p' := Option.some.inj ((hle _ _ hq').symm.trans hp')
   exact rh.inj id id' b b' _ _ hb hb' hro hq hq' he
 ·rw [layH_globs] at hgg
  obtain ⟨s, hs⟩ := rh.glob g id hgg
  exact ⟨s, hle _ _ hs⟩
 ·rw [layH_lp]
  exact rh.lpStep hle hst.fr.oth
 ·rw [hE'] at hp
  split at hp
  ·exact .inl hp
  ·split at hp
   ·exact .inr ⟨by omega, .inl (hnew _ _ hp)⟩
   ·cases hp
theorem lift_new {P : Program} {f : FuncId} {args1 : List A} {v : A} {bs : List Blk} {globs : List (Nat × Nat)} {news : List Blk} (hc : CallAt P f args1 (hpL bs globs) v (hpN bs globs news)) (hmaps : ∀ b ∈ news, b.body.isMap = false)
  {E : Env} {h : Hp} {w : World} (rh : RH E h w) {ids : List Nat} (hlen : ids.length = bs.length) (hlim : bs.length + news.length ≤ lim) (hroom : h.next + news.length ≤ lim)
  (hbs : ∀ i id b1, nth ids i = some id → nth bs i = some b1 → ∃ b, h.blk id = some b ∧ SubV b b1) (hg : ∀ g i, lookupN globs g = some i → ∃ id, nth ids i = some id ∧ lookupN h.globs g = some id)
  {vals : List Value} (hargs : All2 (A.Is (subEnv E ids)) args1 vals) : Calls P f vals.toArray w fun e w' => ∃ x E', e = .returned x ∧ (mapA (upN ids h.next) v).Is E' x ∧ Stp E h w E' (layH (upN ids h.next) h news) w' := lift_newR hc hmaps rh hlen hlim hroom (rh_subV rh hlen (by omega) hbs hg) hargs
inductive CK where
 | i
 | b
 | s
 | t (dflt : List Col)
 | fb (f : FuncId) (k : Nat)
 | fn (f : FuncId)
structure TA where
 id : Option Nat
 n : Nat
 cols : List Col
structure Dec where
 l : List Int
 m : List Bool
 n : List ByteArray
 ts : List TA
 ok : Bool
def Dec.add (d d' : Dec) : Dec := ⟨d.l ++ d'.l, d.m ++ d'.m, d.n ++ d'.n, d.ts ++ d'.ts, d.ok && d'.ok⟩
def Dec.none : Dec := ⟨[], [], [], [], true⟩
def intsV : List Value → Option (List Int)
 | [] => some []
 | .int .i64 a :: vs => match intsV vs with | some l => some (a :: l) | none => none
 | _ => none
theorem intsV_eq : ∀ {vs : List Value} {l : List Int}, intsV vs = some l → vs = l.map (Value.int .i64)
 | [], l, h => by simp only [intsV, Option.some.injEq] at h; subst h; rfl
 | v :: vs, l, h => by
  unfold intsV at h
  split at h
  ·rename_i e; cases e
  ·rename_i a vs' e
   obtain ⟨rfl, rfl⟩ := List.cons.inj e
   split at h
   ·rename_i l' hl
    simp only [Option.some.injEq] at h; subst h
    rw [intsV_eq hl]; rfl
   ·cases h
  ·cases h
def decC (h : Hp) : CK → C → Option Dec
 | .i, .lit (.int .i64 a) => some ⟨[a], [], [], [], true⟩
 | .b, .lit (.bool a) => some ⟨[], [a], [], [], true⟩
 | .s, .lit (.string a) => some ⟨[], [], [a], [], true⟩
 | .t dflt, .lit (.slice none 0 0) => some ⟨[], [], [], [⟨none, 0, dflt⟩], true⟩
 | .t dflt, .sl _ id 0 m 0 n => match h.blk id with
  | some ⟨_, _, .rows n' cols⟩ => match Nat.beq m cols.length with
   | true => some ⟨[], [], [], [⟨some id, n, cols⟩], Nat.ble n n'⟩
   | false => none
  | some ⟨_, _, .flat cs⟩ => match Nat.beq m dflt.length, putRows n 0 dflt cs with
   | true, some cols => some ⟨[], [], [], [⟨some id, n, cols⟩], true⟩
   | _, _ => none
  | _ => none
 | .fb f k, .fb g [(true, vs)] => match Nat.beq g f, intsV vs with
  | true, some l => match Nat.beq l.length k with
   | true => some ⟨l, [], [], [], true⟩
   | false => none
  | _, _ => none
 | .fn f, .fn g [] => match Nat.beq g f with
  | true => some .none
  | false => none
 | _, _ => none
def decCs (h : Hp) : List CK → List C → Option Dec
 | [], [] => some .none
 | k :: ks, c :: cs => match decC h k c, decCs h ks cs with
  | some d, some d' => some (d.add d')
  | _, _ => none
 | _, _ => none
abbrev Shp := List (Bool × List CK)
def decA1 (h : Hp) : Bool × List CK → A → Option Dec
 | (true, ks), .agg cs => decCs h ks cs
 | (false, ks), .one c => decCs h ks [c]
 | _, _ => none
def decAs (h : Hp) : Shp → List A → Option Dec
 | [], [] => some .none
 | k :: sh, a :: az => match decA1 h k a, decAs h sh az with
  | some d, some d' => some (d.add d')
  | _, _ => none
 | _, _ => none
def idsT : List TA → List Nat
 | [] => []
 | ⟨some id, _, _⟩ :: ts => id :: idsT ts
 | ⟨none, _, _⟩ :: ts => idsT ts
def blksT : List TA → List Blk
 | [] => []
 | ⟨some _, n, cols⟩ :: ts => ⟨true, 0, .rows n cols⟩ :: blksT ts
 | ⟨none, _, _⟩ :: ts => blksT ts
theorem blksT_len : ∀ ts : List TA, (blksT ts).length = (idsT ts).length
 | [] => rfl
 | ⟨some _, _, _⟩ :: ts => by simp [blksT, idsT, blksT_len ts]
 | ⟨none, _, _⟩ :: ts => by simp [blksT, idsT, blksT_len ts]
theorem idsT_append : ∀ ts us : List TA, idsT (ts ++ us) = idsT ts ++ idsT us
 | [], _ => rfl
 | ⟨some _, _, _⟩ :: ts, us => by simp [idsT, idsT_append ts us]
 | ⟨none, _, _⟩ :: ts, us => by simp [idsT, idsT_append ts us]
theorem blksT_append : ∀ ts us : List TA, blksT (ts ++ us) = blksT ts ++ blksT us
 | [], _ => rfl
 | ⟨some _, _, _⟩ :: ts, us => by simp [blksT, blksT_append ts us]
 | ⟨none, _, _⟩ :: ts, us => by simp [blksT, blksT_append ts us]
structure Rst where
 j : Nat
 l : List Int
 m : List Bool
 n : List ByteArray
 ts : List TA
def encC (j : Nat) (t : TA) : C := match t.id with
 | none => .lit (.slice none 0 0)
 | some _ => .sl false j 0 t.cols.length 0 t.n
def nextJ (j : Nat) (t : TA) : Nat := match t.id with
 | none => j
 | some _ => j + 1
def enc1 : CK → Rst → C × Rst
 | .i, r => (.lit (.int .i64 (r.l.headD 0)), { r with l := r.l.tail })
 | .b, r => (.lit (.bool (r.m.headD false)), { r with m := r.m.tail })
 | .s, r => (.lit (.string (r.n.headD ⟨#[]⟩)), { r with n := r.n.tail })
 | .t d, r => (encC r.j (r.ts.headD ⟨none, 0, d⟩), { r with ts := r.ts.tail, j := nextJ r.j (r.ts.headD ⟨none, 0, d⟩) })
 | .fb f k, r => (.fb f [(true, (r.l.take k).map (Value.int .i64))], { r with l := r.l.drop k })
 | .fn f, r => (.fn f [], r)
def encCs : List CK → Rst → List C × Rst
 | [], r => ([], r)
 | k :: ks, r => ((enc1 k r).1 :: (encCs ks (enc1 k r).2).1, (encCs ks (enc1 k r).2).2)
def encA1 : Bool × List CK → Rst → A × Rst
 | (true, ks), r => (.agg (encCs ks r).1, (encCs ks r).2)
 | (false, ks), r => (match (encCs ks r).1 with | [c] => .one c | _ => undefA, (encCs ks r).2)
def encAs : Shp → Rst → List A
 | [], _ => []
 | k :: sh, r => (encA1 k r).1 :: encAs sh (encA1 k r).2
def cnt1 : CK → Nat × Nat × Nat × Nat
 | .i => (1, 0, 0, 0)
 | .b => (0, 1, 0, 0)
 | .s => (0, 0, 1, 0)
 | .t _ => (0, 0, 0, 1)
 | .fb _ k => (k, 0, 0, 0)
 | .fn _ => (0, 0, 0, 0)
def cntCs : List CK → Nat × Nat × Nat × Nat
 | [] => (0, 0, 0, 0)
 | k :: ks => ((cnt1 k).1 + (cntCs ks).1, (cnt1 k).2.1 + (cntCs ks).2.1, (cnt1 k).2.2.1 + (cntCs ks).2.2.1, (cnt1 k).2.2.2 + (cntCs ks).2.2.2)
def cntAs : Shp → Nat × Nat × Nat × Nat
 | [] => (0, 0, 0, 0)
 | k :: sh => ((cntCs k.2).1 + (cntAs sh).1, (cntCs k.2).2.1 + (cntAs sh).2.1, (cntCs k.2).2.2.1 + (cntAs sh).2.2.1, (cntCs k.2).2.2.2 + (cntAs sh).2.2.2)
theorem nth_app {α : Type} {l l' : List α} {i : Nat} : nth (l ++ l') i = if i < l.length then nth l i else nth l' (i - l.length) := by
 rw [nth_eq, nth_eq, nth_eq, List.getElem?_append]
structure DecIs (h : Hp) (d : Dec) (c : Nat × Nat × Nat × Nat) : Prop where
 blks : d.ok = true → ∀ i id b1, nth (idsT d.ts) i = some id → nth (blksT d.ts) i = some b1 → ∃ b, h.blk id = some b ∧ SubV b b1
 cl : d.l.length = c.1
 cm : d.m.length = c.2.1
 cn : d.n.length = c.2.2.1
 ct : d.ts.length = c.2.2.2
 nil : ∀ t ∈ d.ts, t.id = none → t.n = 0
theorem DecIs.add {h : Hp} {d d' : Dec} {c c' : Nat × Nat × Nat × Nat} (hd : DecIs h d c) (hd' : DecIs h d' c') : DecIs h (d.add d') (c.1 + c'.1, c.2.1 + c'.2.1, c.2.2.1 + c'.2.2.1, c.2.2.2 + c'.2.2.2) := by
 refine ⟨fun hok i id b1 hi hb => ?_, by simp [Dec.add, hd.cl, hd'.cl], by simp [Dec.add, hd.cm, hd'.cm], by simp [Dec.add, hd.cn, hd'.cn], by simp [Dec.add, hd.ct, hd'.ct], fun t ht => by
  rcases List.mem_append.1 (show t ∈ d.ts ++ d'.ts from ht) with h1 | h1
  ·exact hd.nil t h1
  ·exact hd'.nil t h1⟩
 have hok : (d.ok && d'.ok) = true := hok
 rw [Bool.and_eq_true] at hok
 have hi : nth (idsT (d.ts ++ d'.ts)) i = some id := hi
 have hb : nth (blksT (d.ts ++ d'.ts)) i = some b1 := hb
 rw [idsT_append, nth_app] at hi
 rw [blksT_append, nth_app, blksT_len] at hb
 split at hi
 ·rename_i hlt
  rw [if_pos hlt] at hb
  exact hd.blks hok.1 i id b1 hi hb
 ·rename_i hlt
  rw [if_neg hlt] at hb
  exact hd'.blks hok.2 _ id b1 hi hb
theorem decIs_none (h : Hp) : DecIs h .none (0, 0, 0, 0) := ⟨fun _ i id b1 hi _ => by simp [Dec.none, idsT, nth] at hi, rfl, rfl, rfl, rfl, fun t ht => by cases ht⟩
theorem decC_is {h : Hp} {k : CK} {c : C} {d : Dec} (e : decC h k c = some d) : DecIs h d (cnt1 k) := by
 unfold decC at e
 split at e
 ·injection e with e; subst e
  exact ⟨fun _ i id b1 hi _ => by simp [idsT, nth] at hi, rfl, rfl, rfl, rfl, fun t ht => by simp_all⟩
 ·injection e with e; subst e
  exact ⟨fun _ i id b1 hi _ => by simp [idsT, nth] at hi, rfl, rfl, rfl, rfl, fun t ht => by simp_all⟩
 ·injection e with e; subst e
  exact ⟨fun _ i id b1 hi _ => by simp [idsT, nth] at hi, rfl, rfl, rfl, rfl, fun t ht => by simp_all⟩
 ·injection e with e; subst e
  exact ⟨fun _ i id b1 hi _ => by simp [idsT, nth] at hi, rfl, rfl, rfl, rfl, fun t ht => by simp_all⟩
 ·split at e
  ·rename_i ro et n' cols hb
   split at e
   ·injection e with e; subst e
    refine ⟨fun hok i id b1 hi hb1 => ?_, rfl, rfl, rfl, rfl, fun t ht => by simp_all⟩
    cases i with
    | zero =>
     simp only [idsT, blksT, nth, Option.some.injEq] at hi hb1
     subst hi; subst hb1
     exact ⟨_, hb, subV_rows (Nat.le_of_ble_eq_true hok)⟩
    | succ i => simp [idsT, nth] at hi
   ·cases e
  ·rename_i ro et cs hb
   split at e
   ·rename_i cols hm hput
    injection e with e; subst e
    refine ⟨fun hok i id b1 hi hb1 => ?_, rfl, rfl, rfl, rfl, fun t ht => by simp_all⟩
    cases i with
    | zero =>
     simp only [idsT, blksT, nth, Option.some.injEq] at hi hb1
     subst hi; subst hb1
     exact ⟨_, hb, subV_flatRows hput⟩
    | succ i => simp [idsT, nth] at hi
   ·cases e
  ·cases e
 ·split at e
  ·split at e
   ·rename_i hk
    obtain rfl := Nat.eq_of_beq_eq_true hk
    injection e with e; subst e
    exact ⟨fun _ i id b1 hi _ => by simp [idsT, nth] at hi, rfl, rfl, rfl, rfl, fun t ht => by simp_all⟩
   ·cases e
  ·cases e
 ·split at e
  ·injection e with e; subst e
   exact decIs_none h
  ·cases e
 ·cases e
theorem decCs_is {h : Hp} : ∀ {ks : List CK} {cs : List C} {d : Dec}, decCs h ks cs = some d → DecIs h d (cntCs ks)
 | [], [], d, e => by
  simp only [decCs, Option.some.injEq] at e
  subst e
  exact decIs_none h
 | k :: ks, c :: cs, d, e => by
  simp only [decCs] at e
  split at e
  ·rename_i d1 d2 h1 h2
   injection e with e; subst e
   exact (decC_is h1).add (decCs_is h2)
  ·cases e
 | [], _ :: _, _, e => by cases e
 | _ :: _, [], _, e => by cases e
theorem decA1_is {h : Hp} {k : Bool × List CK} {a : A} {d : Dec} (e : decA1 h k a = some d) : DecIs h d (cntCs k.2) := by
 unfold decA1 at e
 split at e
 ·exact decCs_is e
 ·exact decCs_is e
 ·cases e
theorem decAs_is {h : Hp} : ∀ {sh : Shp} {az : List A} {d : Dec}, decAs h sh az = some d → DecIs h d (cntAs sh)
 | [], [], d, e => by
  simp only [decAs, Option.some.injEq] at e
  subst e
  exact decIs_none h
 | k :: sh, a :: az, d, e => by
  simp only [decAs] at e
  split at e
  ·rename_i d1 d2 h1 h2
   injection e with e; subst e
   exact (decA1_is h1).add (decAs_is h2)
  ·cases e
 | [], _ :: _, _, e => by cases e
 | _ :: _, [], _, e => by cases e
def Under (E E1 : Env) (ts : List TA) (j : Nat) : Prop := ∀ i id, nth (idsT ts) i = some id → E1 (j + i) = E id
theorem Under.left {E E1 : Env} {ts us : List TA} {j : Nat} (h : Under E E1 (ts ++ us) j) : Under E E1 ts j := fun i id hi => h i id (by rw [idsT_append, nth_app, if_pos (nth_lt hi)]; exact hi)
theorem Under.right {E E1 : Env} {ts us : List TA} {j : Nat} (h : Under E E1 (ts ++ us) j) : Under E E1 us (j + (idsT ts).length) := fun i id hi => by
 rw [Nat.add_assoc]
 exact h _ id (by rw [idsT_append, nth_app, if_neg (by omega), Nat.add_sub_cancel_left]; exact hi)
def Rst.of (j : Nat) (d : Dec) (r : Rst) : Rst := ⟨j, d.l ++ r.l, d.m ++ r.m, d.n ++ r.n, d.ts ++ r.ts⟩
def Rst.at (j : Nat) (r : Rst) : Rst := { r with j := j }
theorem Rst.of_add (j : Nat) (d d' : Dec) (r : Rst) : Rst.of j (d.add d') r = Rst.of j d (Rst.of j d' r) := by simp [Rst.of, Dec.add]
theorem enc1_dec {h : Hp} {k : CK} {c : C} {d : Dec} (e : decC h k c = some d) (j : Nat) (r : Rst) : (enc1 k (Rst.of j d r)).2 = r.at (j + (idsT d.ts).length) ∧
  ∀ (E E1 : Env) (x : Value), Under E E1 d.ts j → c.Is E x → ((enc1 k (Rst.of j d r)).1).Is E1 x := by
 unfold decC at e
 split at e
 ·injection e with e; subst e
  exact ⟨rfl, fun E E1 x _ hx => hx⟩
 ·injection e with e; subst e
  exact ⟨rfl, fun E E1 x _ hx => hx⟩
 ·injection e with e; subst e
  exact ⟨rfl, fun E E1 x _ hx => hx⟩
 ·injection e with e; subst e
  exact ⟨rfl, fun E E1 x _ hx => hx⟩
 ·split at e
  ·rename_i own id m n _ ro et n' cols hb
   split at e
   ·rename_i hm
    obtain rfl := Nat.eq_of_beq_eq_true hm
    injection e with e; subst e
    refine ⟨rfl, fun E E1 x hu hx => ?_⟩
    have he := hu 0 id rfl
    rcases hx with ⟨b, s, o, cap, hE, h1, h2, h3, h4, _⟩ | ⟨_, h1, h2⟩
    ·exact .inl ⟨b, s, o, cap, he.trans hE, h1, h2, h3, h4, fun e => by cases e⟩
    ·exact .inr ⟨rfl, h1, h2⟩
   ·cases e
  ·rename_i dflt own id m n _ ro et cs hb
   split at e
   ·rename_i cols hm hput
    obtain rfl := Nat.eq_of_beq_eq_true hm
    injection e with e; subst e
    refine ⟨rfl, fun E E1 x hu hx => ?_⟩
    have he := hu 0 id rfl
    have hl := (putRows_spec hput).1
    show (C.sl false j 0 cols.length 0 n).Is E1 x
    rw [hl]
    rcases hx with ⟨b, s, o, cap, hE, h1, h2, h3, h4, _⟩ | ⟨_, h1, h2⟩
    ·exact .inl ⟨b, s, o, cap, he.trans hE, h1, h2, h3, h4, fun e => by cases e⟩
    ·exact .inr ⟨rfl, h1, h2⟩
   ·cases e
  ·cases e
 ·split at e
  ·rename_i hg hl
   obtain rfl := Nat.eq_of_beq_eq_true hg
   split at e
   ·rename_i hk
    obtain rfl := Nat.eq_of_beq_eq_true hk
    injection e with e; subst e
    refine ⟨by simp [enc1, Rst.of, Rst.at, idsT], fun E E1 x hu hx => ?_⟩
    rw [intsV_eq hl] at hx
    have hx' : C.Is E1 (.fb _ [(true, _)]) x := hx
    simpa [enc1, Rst.of] using hx'
   ·cases e
  ·cases e
 ·split at e
  ·rename_i hg
   obtain rfl := Nat.eq_of_beq_eq_true hg
   injection e with e; subst e
   exact ⟨rfl, fun E E1 x hu hx => hx.noId rfl⟩
  ·cases e
 ·cases e
theorem encCs_dec {h : Hp} : ∀ {ks : List CK} {cs : List C} {d : Dec}, decCs h ks cs = some d → ∀ (j : Nat) (r : Rst), (encCs ks (Rst.of j d r)).2 = r.at (j + (idsT d.ts).length) ∧
  ∀ (E E1 : Env) (xs : List Value), Under E E1 d.ts j → All2 (C.Is E) cs xs → All2 (C.Is E1) (encCs ks (Rst.of j d r)).1 xs
 | [], [], d, e, j, r => by
  simp only [decCs, Option.some.injEq] at e
  subst e
  exact ⟨rfl, fun E E1 xs _ hx => by cases xs with | nil => trivial | cons => exact hx.elim⟩
 | k :: ks, c :: cs, d, e, j, r => by
  simp only [decCs] at e
  split at e
  ·rename_i d1 d2 h1 h2
   injection e with e; subst e
   rw [Rst.of_add]
   obtain ⟨a1, a2⟩ := enc1_dec h1 j (Rst.of j d2 r)
   have hat : (Rst.of j d2 r).at (j + (idsT d1.ts).length) = Rst.of (j + (idsT d1.ts).length) d2 r := rfl
   obtain ⟨b1, b2⟩ := encCs_dec h2 (j + (idsT d1.ts).length) r
   simp only [encCs]
   rw [a1, hat]
   refine ⟨by rw [b1]; simp [Rst.at, Dec.add, idsT_append, Nat.add_assoc], fun E E1 xs hu hx => ?_⟩
   cases xs with
   | nil => exact hx.elim
   | cons x xs => exact ⟨a2 E E1 x hu.left hx.1, b2 E E1 xs hu.right hx.2⟩
  ·cases e
 | [], _ :: _, _, e, _, _ => by cases e
 | _ :: _, [], _, e, _, _ => by cases e
theorem encA1_dec {h : Hp} {k : Bool × List CK} {a : A} {d : Dec} (e : decA1 h k a = some d) (j : Nat) (r : Rst) : (encA1 k (Rst.of j d r)).2 = r.at (j + (idsT d.ts).length) ∧
  ∀ (E E1 : Env) (x : Value), Under E E1 d.ts j → a.Is E x → ((encA1 k (Rst.of j d r)).1).Is E1 x := by
 unfold decA1 at e
 split at e
 ·obtain ⟨a1, a2⟩ := encCs_dec e j r
  exact ⟨a1, fun E E1 x hu hx => let ⟨l, e1, hl⟩ := hx; ⟨l, e1, a2 E E1 l hu hl⟩⟩
 ·obtain ⟨a1, a2⟩ := encCs_dec e j r
  refine ⟨a1, fun E E1 x hu hx => ?_⟩
  have := a2 E E1 [x] hu ⟨hx, trivial⟩
  simp only [encA1]
  split
  ·rename_i c hc
   rw [hc] at this
   exact this.1
  ·rename_i hc
   generalize (encCs _ _).1 = cs at this hc
   match cs, this with
   | [c], _ => exact absurd rfl (hc c)
   | _ :: _ :: _, ⟨_, h2⟩ => exact h2.elim
 ·cases e
theorem encAs_dec {h : Hp} : ∀ {sh : Shp} {az : List A} {d : Dec}, decAs h sh az = some d → ∀ (j : Nat) (r : Rst) (E E1 : Env) (xs : List Value), Under E E1 d.ts j → All2 (A.Is E) az xs → All2 (A.Is E1) (encAs sh (Rst.of j d r)) xs
 | [], [], d, e, j, r, E, E1, xs, _, hx => by cases xs with | nil => trivial | cons => exact hx.elim
 | k :: sh, a :: az, d, e, j, r, E, E1, xs, hu, hx => by
  simp only [decAs] at e
  split at e
  ·rename_i d1 d2 h1 h2
   injection e with e; subst e
   rw [Rst.of_add]
   obtain ⟨a1, a2⟩ := encA1_dec h1 j (Rst.of j d2 r)
   have hat : (Rst.of j d2 r).at (j + (idsT d1.ts).length) = Rst.of (j + (idsT d1.ts).length) d2 r := rfl
   simp only [encAs]
   rw [a1, hat]
   cases xs with
   | nil => exact hx.elim
   | cons x xs => exact ⟨a2 E E1 x hu.left hx.1, encAs_dec h2 (j + (idsT d1.ts).length) r E E1 xs hu.right hx.2⟩
  ·cases e
 | [], _ :: _, _, e, _, _, _, _, _, _, _ => by cases e
 | _ :: _, [], _, e, _, _, _, _, _, _, _ => by cases e
def idsG (h : Hp) : List (Nat × List C) → Option (List Nat)
 | [] => some []
 | (g, cs) :: gl => match lookupN h.globs g, idsG h gl with
  | some id, some ids => match h.blk id with
   | some ⟨true, _, .flat cs'⟩ => match eqDs cs' cs with
    | true => some (id :: ids)
    | false => none
   | _ => none
  | _, _ => none
def blksG (gl : List (Nat × List C)) : List Blk := gl.map fun x => ⟨true, 0, .flat x.2⟩
def globsG : Nat → List (Nat × List C) → List (Nat × Nat)
 | _, [] => []
 | j, (g, _) :: gl => (g, j) :: globsG (j + 1) gl
theorem idsG_spec {h : Hp} : ∀ {gl : List (Nat × List C)} {ids : List Nat}, idsG h gl = some ids → (gl.all fun x => noIds x.2) = true → ids.length = gl.length ∧ (∀ i id b1, nth ids i = some id → nth (blksG gl) i = some b1 → ∃ b, h.blk id = some b ∧ SubV b b1) ∧
  ∀ j g i, lookupN (globsG j gl) g = some i → j ≤ i ∧ ∃ id, nth ids (i - j) = some id ∧ lookupN h.globs g = some id
 | [], ids, e, _ => by
  simp only [idsG, Option.some.injEq] at e
  subst e
  exact ⟨rfl, fun i id b1 hi _ => by simp [nth] at hi, fun j g i hg => by cases hg⟩
 | (g0, cs) :: gl, ids, e, hn => by
  rw [List.all_cons, Bool.and_eq_true] at hn
  simp only [idsG] at e
  split at e
  ·rename_i id0 ids0 h1 h2
   split at e
   ·rename_i et cs' hb
    split at e
    ·rename_i heq
     injection e with e; subst e
     obtain rfl := eqDs_eq heq
     obtain ⟨a1, a2, a3⟩ := idsG_spec h2 hn.2
     refine ⟨by simp [a1], fun i id b1 hi hb1 => ?_, fun j g i hg => ?_⟩
     ·cases i with
      | zero =>
       simp only [nth, Option.some.injEq, blksG, List.map_cons] at hi hb1
       subst hi; subst hb1
       exact ⟨_, hb, subV_flat hn.1⟩
      | succ i => exact a2 i id b1 hi hb1
     ·simp only [globsG, lookupN] at hg
      split at hg
      ·rename_i he
       obtain rfl := Nat.eq_of_beq_eq_true he
       injection hg with hg; subst hg
       exact ⟨Nat.le_refl _, id0, by rw [Nat.sub_self]; rfl, h1⟩
      ·obtain ⟨b1, id, b2, b3⟩ := a3 (j + 1) g i hg
       refine ⟨by omega, id, ?_, b3⟩
       rw [show i - j = (i - (j + 1)) + 1 by omega]
       exact b2
    ·cases e
   ·cases e
  ·cases e
def bsS (ts : List TA) (gl : List (Nat × List C)) : List Blk := blksT ts ++ blksG gl
def hpT (ts : List TA) (gl : List (Nat × List C)) (news : List Blk) : Hp := hpN (bsS ts gl) (globsG (blksT ts).length gl) news
def argsS (sh : Shp) (l : List Int) (m : List Bool) (n : List ByteArray) (ts : List TA) : List A := encAs sh ⟨0, l, m, n, ts⟩
abbrev FT := List Int → List Bool → List ByteArray → List TA → Tree (A × List Blk)
def newsOk (h : Hp) (ts : List TA) (gl : List (Nat × List C)) (news : List Blk) : Bool := match news with
 | [] => true
 | b :: l => Nat.ble (h.next + (b :: l).length) lim && (Nat.ble ((bsS ts gl).length + (b :: l).length) lim && (b :: l).all fun b => !b.body.isMap)
def specT (sh : Shp) (gl : List (Nat × List C)) (F : FT) : Spec := fun args h => match decAs h sh args, idsG h gl with
 | some d, some gids => .need d.ok ((F d.l d.m d.n d.ts).bind fun r => match newsOk h d.ts gl r.2 with
  | true => .leaf (mapA (upN (idsT d.ts ++ gids) h.next) r.1, layH (upN (idsT d.ts ++ gids) h.next) h r.2)
  | false => .fail 351)
 | _, _ => .fail 350
theorem specT_ok {P : Program} {f : FuncId} {sh : Shp} {gl : List (Nat × List C)} {F : FT} (hgl : (gl.all fun x => noIds x.2) = true) (hlim : (cntAs sh).2.2.2 + gl.length ≤ lim)
  (hc : ∀ l m n ts v news, l.length = (cntAs sh).1 → m.length = (cntAs sh).2.1 → n.length = (cntAs sh).2.2.1 → ts.length = (cntAs sh).2.2.2 → (∀ t ∈ ts, t.id = none → t.n = 0) → (F l m n ts).run = some (v, news) → CallAt P f (argsS sh l m n ts) (hpT ts gl []) v (hpT ts gl news)) : SpecOk P f (specT sh gl F) := by
 intro args h v h' hr E w vals rh hargs
 unfold specT at hr
 split at hr
 ·rename_i d gids hd hgi
  obtain ⟨hok, hr⟩ := Tree.need_some hr
  obtain ⟨r, hF, hr⟩ := Tree.bind_some hr
  split at hr
  ·rename_i hnews
   obtain ⟨v0, news⟩ := r
   simp only [Tree.run, Option.some.injEq, Prod.mk.injEq] at hr
   obtain ⟨rfl, rfl⟩ := hr
   have di := decAs_is hd
   obtain ⟨g1, g2, g3⟩ := idsG_spec hgi hgl
   have hcall := hc d.l d.m d.n d.ts v0 news di.cl di.cm di.cn di.ct di.nil hF
   have hbl : (blksG gl).length = gl.length := by simp [blksG]
   have htl : (idsT d.ts).length ≤ d.ts.length := by
    have : ∀ ts : List TA, (idsT ts).length ≤ ts.length := fun ts => by
     induction ts with
     | nil => exact Nat.le_refl _
     | cons t ts ih => obtain ⟨id, n, cols⟩ := t; cases id <;> simp [idsT] <;> omega
    exact this d.ts
   have hct := di.ct
   have hsm : (bsS d.ts gl).length ≤ lim := by unfold bsS; rw [List.length_append, blksT_len, hbl]; omega
   have hrm : (bsS d.ts gl).length + news.length ≤ lim ∧ h.next + news.length ≤ lim ∧ ∀ b ∈ news, b.body.isMap = false := by
    cases news with
    | nil => exact ⟨hsm, rh.nlim, fun b hb => by cases hb⟩
    | cons b l =>
     simp only [newsOk, Bool.and_eq_true] at hnews
     refine ⟨Nat.le_of_ble_eq_true hnews.2.1, Nat.le_of_ble_eq_true hnews.1, fun b' hb' => ?_⟩
     have := List.all_eq_true.1 hnews.2.2 b' hb'
     simpa using this
   have hlen : (idsT d.ts ++ gids).length = (bsS d.ts gl).length := by unfold bsS; rw [List.length_append, List.length_append, blksT_len, hbl, g1]
   have hh := encAs_dec hd 0 ⟨0, [], [], [], []⟩ E (subEnv E (idsT d.ts ++ gids)) vals (fun i id hi => by
    unfold subEnv
    rw [Nat.zero_add, nth_app, if_pos (nth_lt hi), hi]) hargs
   have e0 : Rst.of 0 d ⟨0, [], [], [], []⟩ = ⟨0, d.l, d.m, d.n, d.ts⟩ := by simp [Rst.of]
   rw [e0] at hh
   refine lift_new (ids := idsT d.ts ++ gids) hcall hrm.2.2 rh hlen hrm.1 hrm.2.1 (fun i id b1 hi hb1 => ?_) (fun g i hg => ?_) hh
   ·unfold bsS at hb1
    rw [nth_app] at hi hb1
    rw [blksT_len] at hb1
    split at hi
    ·rename_i hlt
     rw [if_pos hlt] at hb1
     exact di.blks hok i id b1 hi hb1
    ·rename_i hlt
     rw [if_neg hlt] at hb1
     exact g2 _ id b1 hi hb1
   ·obtain ⟨a1, id, a2, a3⟩ := g3 _ g i hg
    rw [blksT_len] at a1 a2
    exact ⟨id, by rw [nth_app, if_neg (by omega)]; exact a2, a3⟩
  ·cases hr
 ·cases hr
def stN (size : Nat) (env : Tr A) (bs : List Blk) (globs : List (Nat × Nat)) (news : List Blk) (kp : Bool := false) : St := { size := size, env := env, hp := hpN bs globs news, keep := kp }
theorem hpN_at {bs : List Blk} {globs : List (Nat × Nat)} {news : List Blk} (hl : bs.length + news.length ≤ lim) (k : Nat) : (hpN bs globs news).heap.get D k = if bs.length ≤ k ∧ k < bs.length + news.length then news[k - bs.length]? else nth bs k := by
 have hb : ∀ k, (layL 0 bs .nil).get D k = nth bs k := fun k => hpL_get (globs := []) (bs := bs) (by omega) k
 cases news with
 | nil =>
  rw [if_neg (by simp)]
  exact hb k
 | cons b l =>
  show (layBlks (layL 0 bs .nil) bs.length ((b :: l).map some)).get D k = _
  rw [layBlks_get (by simpa using hl)]
  simp only [List.length_map, hb]
  split
  ·rename_i hc
   simp only [List.getElem?_map]
   have : (b :: l)[k - bs.length]? = some (b :: l)[k - bs.length] := List.getElem?_eq_getElem (by omega)
   rw [this]; rfl
  ·rfl
theorem le_news {size : Nat} {env : Tr A} {bs : List Blk} {globs : List (Nat × Nat)} {news news' : List Blk} {kp : Bool} (hl : bs.length + news.length ≤ lim) (h : All2 (fun b b' => b'.ro = b.ro ∧ ∀ E w p, blkIs E w p b → blkIs E w p b') news news') :
  (stN size env bs globs news kp).Le (stN size env bs globs news' kp) := by
 have hlen := h.length
 have key := le_heap (s := stN size env bs globs news kp) (hp := (hpN bs globs news').heap) (fun k => by
  show (hpN bs globs news').heap.get D k = (hpN bs globs news).heap.get D k ∨ _
  rw [hpN_at hl, hpN_at (by omega), ← hlen]
  split
  ·rename_i hc
   have hn : news[k - bs.length]? = some news[k - bs.length] := List.getElem?_eq_getElem (by omega)
   obtain ⟨b', hb', h1, h2⟩ := h.get (k - bs.length) news[k - bs.length] (by rw [nth_eq]; exact hn)
   refine .inr ⟨_, b', ?_, hb', h1, h2⟩
   rw [show (stN size env bs globs news kp).hp.heap.get D k = _ from hpN_at hl k, if_pos hc]
   exact hn
  ·exact .inl rfl)
 have e : ({ stN size env bs globs news kp with hp := { (stN size env bs globs news kp).hp with heap := (hpN bs globs news').heap } } : St) = stN size env bs globs news' kp := by
  cases news <;> cases news' <;> first | rfl | (simp at hlen; done) | skip
  simp only [List.length_cons, Nat.add_right_cancel_iff] at hlen
  simp [stN, hpN, hlen]
 rw [e] at key
 exact key
theorem putF_self {α : Type} (f : Nat → α) (i : Nat) : putF f i (f i) = f := by
 funext j
 by_cases h : j = i
 ·subst h; exact putF_same _ _ _
 ·exact putF_other _ _ h
theorem ble_self (n : Nat) : Nat.ble n n = true := by rw [Nat.ble_eq]; exact Nat.le_refl n
theorem wrap_succ {k : Nat} (h : k < 9223372036854775807) : IntKind.i64.wrap ((k : Int) + 1) = ((k + 1 : Nat) : Int) := by
 rw [IntKind.wrap_i64]; omega
theorem call_base {P : Program} {rec : Code → St → Tree (X × St)} (hrec : RecOk P rec) {f : FuncId} {fn : Func} {c : Code} (hfn : P.funcs[f]? = some fn) (hc : fn.body = some c) {args : List A} (hsz : (Nat.ble args.length fn.ntmps && Nat.ble args.length lim) = true) {h : Hp} (m : Bool × Bool) {v : A} {h' : Hp} (k : Nat) (slots slotsR : List Nat)
  {sB : St} (hsB : sB = st0 fn args h m) {t : Tree ((X × St) ⊕ (List Bool × St))} (hpre : evO rec c slots slotsR sB = t) (hall : t.All (CutF P rec c sB (Left2 P fn h v h') k)) : CallAt P f args h v h' := by
 subst hsB
 subst hpre
 exact call_comesF hrec hfn hc hsz m k slots slotsR hall
theorem cutF_stop {P : Program} {rec : Code → St → Tree (X × St)} {c : Code} {sB : St} {φ : X × St → Prop} {k : Nat} {p : List Bool} {S : St} (ψ : X × St → Prop) (cut : Bool) (slots slotsR : List Nat) (hl : ComesF P (.loop (nthLoop c p)) sB S ψ) (hr : ∀ q, ψ q → (evO2 rec cut c p slots slotsR sB q).All (CutF P rec c sB φ k)) : (Tree.leaf (.inr (p, S))).All (CutF P rec c sB φ (k + 1)) := ⟨ψ, cut, slots, slotsR, hl, hr⟩
theorem cutF_done {P : Program} {rec : Code → St → Tree (X × St)} {c : Code} {sB : St} {φ : X × St → Prop} {k : Nat} {q : X × St} (h : φ q) : (Tree.leaf (.inl q)).All (CutF P rec c sB φ k) := by
 cases k <;> exact h
theorem left_of {P : Program} {fn : Func} {h h' : Hp} {v : A} {p : X × St} {b : Bool} (e : exitS P fn.results.toList h p = .leaf (b, v, h')) : Left2 P fn h v h' p := by
 unfold Left2
 rw [e]
 rfl
theorem comesF_le {P : Program} {c : Code} {sB s t : St} {φ : X × St → Prop} (h : s.Le t) (hc : ComesF P c sB t φ) : ComesF P c sB s φ := by
 intro ro ds0 E0 w0 ds E a w Q rh0 r st hz hm hro hq
 exact hc ro ds0 E0 w0 ds E a w Q rh0 (h.r r) (h.stp r st) (h.size.trans hz) hm hro hq
theorem ble_lit {a b : Nat} (h : a ≤ b) : Nat.ble a b = true := by rw [Nat.ble_eq]; exact h
theorem blt_lit {a b : Nat} (h : a < b) : Nat.blt a b = true := by rw [Nat.blt_eq]; exact h
end Go.Ev
