/- Cycles of turns, in plain lists: a stack and the search for the first cycle come to the same. Conditions: none. Cycles of turns, in lists of a call's own: what the program and the reference come to is the same. Conditions: turns of at most 100000 either way. SaltStrain: cycles of a history: states of the program's and of the reference's loops. Conditions: none. SaltStrain: cycles of a history, by the program. Conditions: a valid history that is not empty. SaltStrain: cycles of a history, by the reference. Conditions: a short history that is not empty. -/
import Derived.Test.YtlpchgidkibbeaaGreatDoorBas2
import Derived.Test.YtlpchgidkibbeaaGreatDoorStrC
import Derived.Test.YtlpchgidkibbeaaGreatDoorStrB
namespace Go.Ev
open Go Go.Proofs

/-- the middle two of the four turns at an index are a cycle -/
def fourI (a b c d : Int) : Bool := decide ((b - c).natAbs ≤ (a - b).natAbs) && decide ((b - c).natAbs ≤ (c - d).natAbs)
def fourAt (l : List Int) (i : Nat) : Bool := fourI (l.getD i 0) (l.getD (i + 1) 0) (l.getD (i + 2) 0) (l.getD (i + 3) 0)
/-- a list without two of its turns -/
def cutAt (l : List Int) (i : Nat) : List Int := l.take (i + 1) ++ l.drop (i + 3)
abbrev Cyc := List (Int × Int)
/-- the stack's loop: fuel, the stack, the cycles -/
def rfIn : Nat → List Int → Cyc → List Int × Cyc
  | 0, s, o => (s, o)
  | f + 1, s, o => match decide (4 ≤ s.length) && fourAt s (s.length - 4) with
    | true => rfIn f (cutAt s (s.length - 4)) (o ++ [(s.getD (s.length - 3) 0, s.getD (s.length - 2) 0)])
    | false => (s, o)
def rfOut : List Int → List Int → Cyc → List Int × Cyc
  | [], s, o => (s, o)
  | n :: r, s, o => rfOut r (rfIn (s.length + 1) (s ++ [n]) o).1 (rfIn (s.length + 1) (s ++ [n]) o).2
/-- the first cycle from an index on -/
def firstF (l : List Int) : Nat → Nat → Option Nat
  | 0, _ => none
  | f + 1, i => match decide (i + 3 < l.length) with
    | true => match fourAt l i with
      | true => some i
      | false => firstF l f (i + 1)
    | false => none
def rfRef : Nat → List Int → Cyc → List Int × Cyc
  | 0, l, o => (l, o)
  | f + 1, l, o => match firstF l l.length 0 with
    | some i => rfRef f (cutAt l i) (o ++ [(l.getD (i + 1) 0, l.getD (i + 2) 0)])
    | none => (l, o)
/-- no four turns with a cycle up to a length -/
def Calm (l : List Int) (k : Nat) : Prop := ∀ j, j + 3 < k → fourAt l j = false
theorem getD_app {l r : List Int} {i : Nat} (h : i < l.length) : (l ++ r).getD i 0 = l.getD i 0 := by
  simp only [List.getD_eq_getElem?_getD, List.getElem?_append_left h]
theorem fourAt_app {l r : List Int} {i : Nat} (h : i + 3 < l.length) : fourAt (l ++ r) i = fourAt l i := by
  unfold fourAt
  rw [getD_app (by omega), getD_app (by omega), getD_app (by omega), getD_app (by omega)]
end Go.Ev

namespace Go.Ev
open Go Go.Proofs

/-! ### lists of pairs of numbers of a call's own -/
abbrev C2 := Nat × (Nat → Int) × (Nat → Int)
def pushC (o : C2) (x y : Int) : C2 := (o.1 + 1, putF o.2.1 o.1 x, putF o.2.2 o.1 y)
def noneC : C2 := (0, fun _ => 0, fun _ => 0)
/-! ### by the program -/
def minI (x y : Int) : Int := if y < x then y else x
/-- the middle two of four numbers are a cycle, as the program asks it -/
def fourP (a b c d : Int) : Bool := match minI (farW b c) (farW a b) == farW b c with
  | true => minI (farW b c) (farW c d) == farW b c
  | false => false
def canC (s : L2) : Bool := match decide ((s.1 : Int) ≥ 4) with
  | true => fourP (s.2 (s.1 - 4)) (s.2 (s.1 - 3)) (s.2 (s.1 - 2)) (s.2 (s.1 - 1))
  | false => false
def popL (s : L2) : L2 := (s.1 - 2, putF s.2 (s.1 - 3) (s.2 (s.1 - 1)))
def rfN : Nat → L2 → C2 → L2 × C2
  | 0, s, o => (s, o)
  | f + 1, s, o => match canC s with
    | true => rfN f (popL s) (pushC o (s.2 (s.1 - 3)) (s.2 (s.1 - 2)))
    | false => (s, o)
def rfP (z : Nat → Int) : Nat → L2 × C2
  | 0 => ((0, fun _ => 0), noneC)
  | k + 1 => rfN ((rfP z k).1.1 + 1) (pushL (rfP z k).1 (z k)) (rfP z k).2
/-! ### by the reference -/
def fourQ (a b c d : Int) : Bool := match decide (absQ (w64 (b - c)) ≤ absQ (w64 (a - b))) with
  | true => decide (absQ (w64 (b - c)) ≤ absQ (w64 (c - d)))
  | false => false
def atQ (s : L2) (i : Nat) : Bool := fourQ (s.2 i) (s.2 (i + 1)) (s.2 (i + 2)) (s.2 (i + 3))
def cutL (s : L2) (i : Nat) : L2 := (i + 1 + (s.1 - (i + 3)), catF (i + 1) s.2 fun j => s.2 (j + (i + 3)))
def fndL (s : L2) : Nat → Nat → Option Nat
  | 0, _ => none
  | f + 1, i => match decide (i + 3 < s.1) with
    | true => match atQ s i with
      | true => some i
      | false => fndL s f (i + 1)
    | false => none
def rfQ : Nat → L2 → C2 → L2 × C2
  | 0, s, o => (s, o)
  | f + 1, s, o => match fndL s s.1 0 with
    | some i => rfQ f (cutL s i) (pushC o (s.2 (i + 1)) (s.2 (i + 2)))
    | none => (s, o)

/-! ### as plain lists -/
def toL (s : L2) : List Int := (List.range s.1).map s.2
def toC (o : C2) : Cyc := (List.range o.1).map fun i => (o.2.1 i, o.2.2 i)
theorem toL_len (s : L2) : (toL s).length = s.1 := by simp [toL]
theorem toC_len (s : C2) : (toC s).length = s.1 := by simp [toC]
theorem toL_at (s : L2) {i : Nat} (h : i < s.1) : (toL s)[i]? = some (s.2 i) := by
  unfold toL
  rw [List.getElem?_map, List.getElem?_range h]; rfl
theorem toL_getD (s : L2) {i : Nat} (h : i < s.1) : (toL s).getD i 0 = s.2 i := by
  rw [List.getD_eq_getElem?_getD, toL_at s h]; rfl
theorem toL_push (s : L2) (x : Int) : toL (pushL s x) = toL s ++ [x] := by
  unfold toL pushL
  simp only [List.range_succ, List.map_append, List.map_cons, List.map_nil]
  congr 1
  · refine List.map_congr_left fun i hi => ?_
    exact putF_other _ _ (by have := List.mem_range.1 hi; omega)
  · rw [putF_same]
theorem toC_push (o : C2) (x y : Int) : toC (pushC o x y) = toC o ++ [(x, y)] := by
  unfold toC pushC
  simp only [List.range_succ, List.map_append, List.map_cons, List.map_nil]
  congr 1
  · refine List.map_congr_left fun i hi => ?_
    have := List.mem_range.1 hi
    rw [putF_other _ _ (show i ≠ o.1 by omega), putF_other _ _ (show i ≠ o.1 by omega)]
  · rw [putF_same, putF_same]
theorem toL_pop (s : L2) (h : 4 ≤ s.1) : toL (popL s) = cutAt (toL s) ((toL s).length - 4) := by
  apply List.ext_getElem?
  intro i
  have hl : (popL s).1 = s.1 - 2 := rfl
  unfold cutAt
  rw [toL_len]
  have h1 : ((toL s).take (s.1 - 4 + 1)).length = s.1 - 3 := by rw [List.length_take, toL_len]; omega
  rcases Nat.lt_or_ge i (s.1 - 3) with hi | hi
  · rw [toL_at (popL s) (by rw [hl]; omega), List.getElem?_append_left (by omega), List.getElem?_take, if_pos (by omega), toL_at s (by omega)]
    show some (putF s.2 (s.1 - 3) (s.2 (s.1 - 1)) i) = _
    rw [putF_other _ _ (by omega)]
  · rw [List.getElem?_append_right (by omega), h1, List.getElem?_drop]
    rcases Nat.lt_or_ge i (s.1 - 2) with hj | hj
    · have e : i = s.1 - 3 := by omega
      rw [toL_at (popL s) (by rw [hl]; omega), toL_at s (by omega)]
      show some (putF s.2 (s.1 - 3) (s.2 (s.1 - 1)) i) = _
      rw [e, putF_same]
      exact congrArg (fun i => some (s.2 i)) (by omega)
    · rw [List.getElem?_eq_none (by rw [toL_len, hl]; omega), List.getElem?_eq_none (by rw [toL_len]; omega)]
/-! ### numbers within bounds -/
def InB (l : List Int) : Prop := ∀ x ∈ l, -100000 ≤ x ∧ x ≤ 100000
def InF (s : L2) : Prop := ∀ i, i < s.1 → -100000 ≤ s.2 i ∧ s.2 i ≤ 100000
theorem farW_abs {a b : Int} (ha : -100000 ≤ a ∧ a ≤ 100000) (hb : -100000 ≤ b ∧ b ≤ 100000) : farW a b = ((a - b).natAbs : Int) := by
  unfold farW
  rw [show w64 (b - a) = b - a from wrap_id (by omega) (by omega), show w64 (a - b) = a - b from wrap_id (by omega) (by omega)]
  split <;> omega
theorem minI_eq (x y : Int) : (minI x y == x) = decide (x ≤ y) := by
  unfold minI
  rw [Bool.eq_iff_iff, beq_iff_eq, decide_eq_true_eq]
  split <;> omega
theorem fourP_eq {a b c d : Int} (ha : -100000 ≤ a ∧ a ≤ 100000) (hb : -100000 ≤ b ∧ b ≤ 100000) (hc : -100000 ≤ c ∧ c ≤ 100000) (hd : -100000 ≤ d ∧ d ≤ 100000) : fourP a b c d = fourI a b c d := by
  unfold fourP fourI
  rw [minI_eq, minI_eq, farW_abs hb hc, farW_abs ha hb, farW_abs hc hd]
  simp only [Int.ofNat_le]
  cases decide ((b - c).natAbs ≤ (a - b).natAbs) <;> rfl
theorem inF_push {s : L2} {x : Int} (hs : InF s) (hx : -100000 ≤ x ∧ x ≤ 100000) : InF (pushL s x) := fun i hi => by
  show -100000 ≤ putF s.2 s.1 x i ∧ putF s.2 s.1 x i ≤ 100000
  by_cases h : i = s.1
  · rw [h, putF_same]; exact hx
  · rw [putF_other _ _ h]
    have hi : i < s.1 + 1 := hi
    exact hs i (by omega)
theorem inF_pop {s : L2} (hs : InF s) (h : 4 ≤ s.1) : InF (popL s) := fun i hi => by
  have hi : i < s.1 - 2 := hi
  show -100000 ≤ putF s.2 (s.1 - 3) (s.2 (s.1 - 1)) i ∧ putF s.2 (s.1 - 3) (s.2 (s.1 - 1)) i ≤ 100000
  by_cases h : i = s.1 - 3
  · rw [h, putF_same]; exact hs _ (by omega)
  · rw [putF_other _ _ h]; exact hs _ (by omega)
theorem canC_eq {s : L2} (hs : InF s) : canC s = (decide (4 ≤ (toL s).length) && fourAt (toL s) ((toL s).length - 4)) := by
  rw [toL_len]
  unfold canC
  rw [show decide ((s.1 : Int) ≥ 4) = decide (4 ≤ s.1) by rw [Bool.eq_iff_iff, decide_eq_true_eq, decide_eq_true_eq]; omega]
  cases h : decide (4 ≤ s.1) with
  | false => rfl
  | true =>
    rw [decide_eq_true_eq] at h
    rw [Bool.true_and]
    unfold fourAt
    rw [toL_getD s (by omega), toL_getD s (by omega), toL_getD s (by omega), toL_getD s (by omega), show s.1 - 4 + 1 = s.1 - 3 by omega, show s.1 - 4 + 2 = s.1 - 2 by omega, show s.1 - 4 + 3 = s.1 - 1 by omega]
    exact fourP_eq (hs _ (by omega)) (hs _ (by omega)) (hs _ (by omega)) (hs _ (by omega))
theorem canC_four {s : L2} (h : canC s = true) : 4 ≤ s.1 := by
  unfold canC at h
  split at h
  · rename_i h1; simp only [decide_eq_true_eq] at h1; omega
  · cases h
theorem rfN_list : ∀ (f : Nat) (s : L2) (o : C2), InF s → toL (rfN f s o).1 = (rfIn f (toL s) (toC o)).1 ∧ toC (rfN f s o).2 = (rfIn f (toL s) (toC o)).2 ∧ InF (rfN f s o).1
  | 0, _, _, hs => ⟨rfl, rfl, hs⟩
  | f + 1, s, o, hs => by
    unfold rfN rfIn
    rw [← canC_eq hs]
    cases hc : canC s with
    | false => exact ⟨rfl, rfl, hs⟩
    | true =>
      have h4 := canC_four hc
      have ih := rfN_list f (popL s) (pushC o (s.2 (s.1 - 3)) (s.2 (s.1 - 2))) (inF_pop hs h4)
      rw [toL_pop s h4, toC_push] at ih
      simp only
      rw [toL_len, toL_getD s (show s.1 - 3 < s.1 by omega), toL_getD s (show s.1 - 2 < s.1 by omega)]
      rw [toL_len] at ih
      exact ih
theorem rfOut_snoc (x : Int) : ∀ (r s : List Int) (o : Cyc), rfOut (r ++ [x]) s o = rfIn ((rfOut r s o).1.length + 1) ((rfOut r s o).1 ++ [x]) (rfOut r s o).2
  | [], s, o => rfl
  | n :: r, s, o => rfOut_snoc x r _ _
theorem rfP_list (z : Nat → Int) (n : Nat) (hz : ∀ i, i < n → -100000 ≤ z i ∧ z i ≤ 100000) : ∀ k, k ≤ n → toL (rfP z k).1 = (rfOut ((List.range k).map z) [] []).1 ∧ toC (rfP z k).2 = (rfOut ((List.range k).map z) [] []).2 ∧ InF (rfP z k).1
  | 0, _ => ⟨rfl, rfl, fun i hi => by cases hi⟩
  | k + 1, hk => by
    obtain ⟨h1, h2, h3⟩ := rfP_list z n hz k (by omega)
    obtain ⟨a1, a2, a3⟩ := rfN_list ((rfP z k).1.1 + 1) (pushL (rfP z k).1 (z k)) (rfP z k).2 (inF_push h3 (hz k (by omega)))
    rw [toL_push, h1, h2] at a1 a2
    have e : (rfP z k).1.1 = (rfOut ((List.range k).map z) [] []).1.length := by rw [← h1, toL_len]
    rw [List.range_succ, List.map_append, List.map_cons, List.map_nil, rfOut_snoc, ← e]
    exact ⟨a1, a2, a3⟩
theorem fndL_lt {s : L2} : ∀ {f i j : Nat}, fndL s f i = some j → j + 3 < s.1 ∧ atQ s j = true ∧ i ≤ j
  | 0, _, _, h => by cases h
  | f + 1, i, j, h => by
    unfold fndL at h
    split at h
    · rename_i h1
      split at h
      · rename_i h2; injection h with h; subst h; exact ⟨by simpa using h1, h2, Nat.le_refl _⟩
      · obtain ⟨a, b, c⟩ := fndL_lt (f := f) h; exact ⟨a, b, by omega⟩
    · cases h
theorem toL_eq {s t : L2} (h : toL s = toL t) : s.1 = t.1 ∧ ∀ i, i < s.1 → s.2 i = t.2 i := by
  have h1 : s.1 = t.1 := by rw [← toL_len s, h, toL_len]
  refine ⟨h1, fun i hi => ?_⟩
  have e := toL_at s hi
  rw [h, toL_at t (by omega)] at e
  exact (Option.some.inj e).symm
theorem toC_eq {s t : C2} (h : toC s = toC t) : s.1 = t.1 ∧ ∀ i, i < s.1 → s.2.1 i = t.2.1 i ∧ s.2.2 i = t.2.2 i := by
  have h1 : s.1 = t.1 := by rw [← toC_len s, h, toC_len]
  refine ⟨h1, fun i hi => ?_⟩
  have e : ∀ (o : C2), i < o.1 → (toC o)[i]? = some (o.2.1 i, o.2.2 i) := fun o ho => by
    unfold toC
    rw [List.getElem?_map, List.getElem?_range ho]; rfl
  have a := e s hi
  rw [h, e t (by omega)] at a
  injection a with a
  injection a with a b
  exact ⟨a.symm, b.symm⟩
end Go.Ev

namespace Go.Ev
open Go Go.Proofs
set_option maxRecDepth 100000

def liC (j m : Nat) : A := match m with | 0 => nilA | m + 1 => slO j 2 (m + 1)
def liD (e : TypeId) (o : C2) : List Blk := match o with | (0, _, _) => [] | (m + 1, f, h) => [⟨false, e, .rows (m + 1) [.int .i64 f, .int .i64 h]⟩]
def liT (M : Nat) (t : Nat → Int) : Blk := ⟨false, 3, .rows M [.int .i64 t]⟩
/-! ### spillage/salt.Rainflow -/
def tbR (g : Nat → (Nat → Int) → L2) : List (FuncId × Spec) := (94, fun args h => specT [(false, [.t [.int .i64 fun _ => 0]])] [] (turpF g) args h) :: tbH3
theorem tbR_ok : TabOk Tryz.prog (tabOf (tbR turQ)) := tab_cons tbH3_ok turp_ok
noncomputable def rpRe (g : Nat → (Nat → Int) → L2) : Code → St → Tree (X × St) := recT Tryz.prog (tabOf (tbR g))
theorem rpRe_ok : RecOk Tryz.prog (rpRe turQ) := recT_ok tbR_ok
noncomputable def rpC : Code := loopF Tryz.f25
noncomputable def rpPI : List Bool := pathOf rpC 0
section
variable (g : Nat → (Nat → Int) → L2) (n : Nat) (z : Nat → Int)
def rpB : St := { baseB 82 [slT 0 1 n] (hisHp n z) with keep := true }
def rpN (env : List (Nat × A)) (news : List Blk) : St := stN 82 (envL env) (bsS [⟨some 0, n, [.int .i64 z]⟩] []) [] news true
def rpX (s : L2) (o : C2) : St := rpN n z [(7, liA 1 s.1), (6, liC 2 o.1)] (liB 3 s ++ liD 112 o)
noncomputable def rpO : Tree ((X × St) ⊕ (List Bool × St)) := evO (rpRe g) (bodyOf Tryz.f25) [18, 7, 6, 19, 20] [2, 3, 4] (rpB n z)
noncomputable def rpE (s : L2) (o : C2) : Tree ((X × St) ⊕ (List Bool × St)) := evO2 (rpRe g) true (bodyOf Tryz.f25) (pathF Tryz.f25) [] [2, 3, 4] (rpB n z) (.exit 0, rpX n z s o)
section
variable (M : Nat) (t : Nat → Int)
def rpD (a b : A) (i : Int) (bl : List Blk) : St := rpN n z [(18, slO 1 1 M), (7, a), (6, b), (19, int M), (20, int i)] (liT M t :: bl)
def rpS (s : L2) (o : C2) (i : Int) : St := rpD n z M t (liA 2 s.1) (liC 3 o.1) i (liB 3 s ++ liD 112 o)
noncomputable def rpIT (s : L2) (o : C2) (i : Int) : Tree (X × St) := (rpRe g (nthLoop rpC rpPI) (rpS n z M t s o i)).bind (canonT [18, 7, 6, 19, 20] [18, 7, 6, 19, 20] (rpB n z))
noncomputable def rpR1 (s : L2) (o : C2) (k : Nat) : Tree ((X × St) ⊕ (List Bool × St)) := (evB (rpRe g) rpC (rpS n z M t s o (k : Int))).bind (canO [18, 7, 6, 19, 20] [7, 6] (rpB n z))
noncomputable def rpR2 (s : L2) (o : C2) (k : Nat) : Tree ((X × St) ⊕ (List Bool × St)) := (evR (rpRe g) true rpC rpPI (.exit 2) (rpS n z M t s o (k : Int))).bind (canO [] [18, 7, 6, 19, 20] (rpB n z))
end
end
/-! ### spillage/spillageref08.Rainflow -/
def tbQ (g : Nat → (Nat → Int) → L2) : List (FuncId × Spec) := (33, fun args h => specT [(false, [.t [.int .i64 fun _ => 0]])] [] (turF g) args h) :: tbH3
theorem tbQ_ok : TabOk Tryz.prog (tabOf (tbQ turQ)) := tab_cons tbH3_ok turq_ok
noncomputable def rqRe (g : Nat → (Nat → Int) → L2) : Code → St → Tree (X × St) := recT Tryz.prog (tabOf (tbQ g))
theorem rqRe_ok : RecOk Tryz.prog (rqRe turQ) := recT_ok tbQ_ok
noncomputable def rqC : Code := loopF Tryz.f34
noncomputable def rqPI : List Bool := pathOf rqC 0
section
variable (g : Nat → (Nat → Int) → L2) (n : Nat) (z : Nat → Int)
def rqB : St := { baseB 84 [slT 0 1 n] (hisHp n z) with keep := true }
def rqN (env : List (Nat × A)) (news : List Blk) : St := stN 84 (envL env) (bsS [⟨some 0, n, [.int .i64 z]⟩] []) [] news true
noncomputable def rqO : Tree ((X × St) ⊕ (List Bool × St)) := evO (rqRe g) (bodyOf Tryz.f34) [4, 5, 6] [2, 3] (rqB n z)
section
variable (M : Nat) (t : Nat → Int) (o : C2)
def rqD (b : A) (fd : Bool) (bl : List Blk) : St := rqN n z [(4, slO 1 1 M), (5, b), (6, boo fd)] (liT M t :: bl)
def rqI' (b : A) (fd : Bool) (i : Int) (bl : List Blk) : St := rqN n z [(4, slO 1 1 M), (5, b), (6, boo fd), (7, int i)] (liT M t :: bl)
def rqS (fd : Bool) : St := rqD n z M t (liC 2 o.1) fd (liD 164 o)
def rqI (fd : Bool) (i : Int) : St := rqI' n z M t (liC 2 o.1) fd i (liD 164 o)
def rqX : St := rqN n z [(4, slO 1 1 M), (5, liC 2 o.1)] (liT M t :: liD 164 o)
noncomputable def rqIT (fd : Bool) (i : Int) : Tree (X × St) := (rqRe g (nthLoop rqC rqPI) (rqI n z M t o fd i)).bind (canonT [4, 5, 6, 7] [4, 5, 6] (rqB n z))
noncomputable def rqR1 (fd : Bool) : Tree ((X × St) ⊕ (List Bool × St)) := (evB (rqRe g) rqC (rqS n z M t o fd)).bind (canO [4, 5, 6, 7] [4, 5] (rqB n z))
noncomputable def rqR2 (fd : Bool) : Tree ((X × St) ⊕ (List Bool × St)) := (evR (rqRe g) true rqC rqPI (.exit 2) (rqS n z M t o fd)).bind (canO [] [4, 5, 6] (rqB n z))
noncomputable def rqE : Tree ((X × St) ⊕ (List Bool × St)) := evO2 (rqRe g) true (bodyOf Tryz.f34) (pathF Tryz.f34) [] [2, 3] (rqB n z) (.exit 0, rqX n z M t o)
end
end
end Go.Ev

namespace Go.Ev
open Go Go.Proofs
set_option maxRecDepth 100000

theorem comesF_leR {P : Program} {c : Code} {sB s t : St} {φ : X × St → Prop} (h : s.Le t) (hc : ComesF P c sB t φ) : ComesF P c sB s φ := by
  intro ro ds0 E0 w0 ds E a w Q rh0 r st hz hm hro hq
  exact hc ro ds0 E0 w0 ds E a w Q rh0 (h.r r) (h.stp r st) (h.size.trans hz) hm hro hq
theorem loop_countR {P : Program} {c : Code} {sB : St} (head : Nat → St) (fin : Nat → X × St) (n : Nat) (hstep : ∀ k, k < n → ComesF P c sB (head k) (Rnd head fin k)) (hend : ComesF P c sB (head n) (RndEnd (fin n))) : ComesF P (.loop c) sB (head 0) fun q => q = fin 0 := by
  refine comesF_loop head (fun k => n - k) (fun k => k ≤ n ∧ fin k = fin 0) _ (fun k hk => ?_) 0 ⟨Nat.zero_le n, rfl⟩
  rcases Nat.lt_or_eq_of_le hk.1 with h | h
  · refine (hstep k h).mono fun p hp => ?_
    obtain ⟨x1, st1⟩ := p
    cases x1 with
    | normal => exact ⟨k + 1, hp.1, ⟨h, hp.2.trans hk.2⟩, by omega⟩
    | exit i => exact Eq.trans hp hk.2
    | ret => exact Eq.trans hp hk.2
  · subst h
    refine hend.mono fun p hp => ?_
    obtain ⟨x1, st1⟩ := p
    cases x1 with
    | normal => exact hp.elim
    | exit i => exact Eq.trans hp hk.2
    | ret => exact Eq.trans hp hk.2
theorem two_rowsR {e : TypeId} {z1 z2 : Nat → Int} {w1 w2 : Int} (h1 : w1 = z1 0) (h2 : w2 = z2 0) : ∀ (E : Env) (w : World) (p : Nat × Nat × Nat), blkIs E w p ⟨false, e, .flat [ci w1, ci w2]⟩ → blkIs E w p ⟨false, e, .rows 1 [.int .i64 z1, .int .i64 z2]⟩ := by
  subst h1; subst h2
  exact blk_body rfl (fun cs e => by cases e) fun E arr hh => rows_one rfl (fun j c col h1 h2 => by match j, h1, h2 with | 0, h1, h2 => injection h1 with h1; injection h2 with h2; subst h1; subst h2; rfl | 1, h1, h2 => injection h1 with h1; injection h2 with h2; subst h1; subst h2; rfl) hh
theorem bleR {a b : Nat} (h : a ≤ b) : Nat.ble a b = true := by rw [Nat.ble_eq]; exact h
theorem bltR {a b : Nat} (h : a < b) : Nat.blt a b = true := by rw [Nat.blt_eq]; exact h
abbrev SkO := Sk ((X × St) ⊕ (List Bool × St))

section
variable (g : Nat → (Nat → Int) → L2) (n : Nat) (z : Nat → Int) (M : Nat) (t : Nat → Int)
/-! the inner loop -/
def rpQ (m : Nat) (d : Int) : Int := IntKind.i64.wrap (((m + 1 : Nat) : Int) - d)
def rpA (m : Nat) (f : Nat → Int) (j : Nat) : Int := match j with | 0 => f (0 + (rpQ m 4).toNat) | 1 => f (0 + (rpQ m 4).toNat + (0 + 1)) | 2 => f (0 + (rpQ m 4).toNat + (0 + 1 + 1)) | _ => f (0 + (rpQ m 4).toNat + (0 + 1 + 1 + 1))
def rpBrk (a b c d : Int) : Bool := !((minI (farW b c) (farW a b) == farW b c) && ((minI (farW b c) (farW c d) == farW b c) && true))
/-- the stack without its two middle turns -/
def rpNx (m : Nat) (f : Nat → Int) (i : Int) (a : A) (bl : List Blk) : St := rpD n z M t (slO 2 1 ((rpQ m 3).toNat - 0 + 1)) a i (⟨false, 3, .rows ((rpQ m 3).toNat - 0 + 1) [.int .i64 (putF f ((rpQ m 3).toNat - 0) (rpA m f 3))]⟩ :: bl)
noncomputable def rpT3 (m : Nat) (f : Nat → Int) (i : Int) (a : A) (bl : List Blk) : Sk (X × St) := .need (decide ((0 : Int) ≤ 0) && decide (0 ≤ rpQ m 3) && decide (rpQ m 3 ≤ ((m + 1 : Nat) : Int))) (.nn (.need (Nat.ble ((rpQ m 3).toNat - 0) (m + 1) && Nat.blt (((rpQ m 3).toNat - 0 + 1) * 8) 140737488355328 && Nat.ble ((rpQ m 3).toNat - 0 + 1) 9223372036854775807) (.leaf (.normal, rpNx n z M t m f i a bl))))
noncomputable def rpPs (m : Nat) (f : Nat → Int) (o : C2) (i : Int) : Sk (X × St) := match o with
  | (0, _, _) => .nn (.nn (.nn (rpT3 n z M t m f i (slO 3 2 1) [⟨false, 112, .flat [ci (rpA m f 1), ci (rpA m f 2)]⟩])))
  | (p + 1, c1, c2) => .nn (.nn (.need (Nat.ble (p + 1) (p + 1) && Nat.blt ((p + 1 + 1) * 16) 140737488355328 && Nat.ble (p + 1 + 1) 9223372036854775807) (rpT3 n z M t m f i (slO 3 2 (p + 1 + 1)) [⟨false, 112, .rows (p + 1 + 1) [.int .i64 (putF c1 (p + 1) (rpA m f 1)), .int .i64 (putF c2 (p + 1) (rpA m f 2))]⟩])))
noncomputable def rpSk (m : Nat) (f : Nat → Int) (o : C2) (i : Int) : Sk (X × St) := .node (decide (((m + 1 : Nat) : Int) ≥ 4)) (.need (decide (0 ≤ rpQ m 4) && decide (rpQ m 4 ≤ ((m + 1 : Nat) : Int)) && decide (((m + 1 : Nat) : Int) ≤ ((m + 1 : Nat) : Int)))
  (.need (Nat.ble 4 ((m + 1) - (rpQ m 4).toNat)) (.need (Nat.blt (0 + (rpQ m 4).toNat) (m + 1)) (.need (Nat.blt (0 + (rpQ m 4).toNat + (0 + 1)) (m + 1)) (.need (Nat.blt (0 + (rpQ m 4).toNat + (0 + 1 + 1)) (m + 1)) (.need (Nat.blt (0 + (rpQ m 4).toNat + (0 + 1 + 1 + 1)) (m + 1))
  (.node (rpBrk (rpA m f 0) (rpA m f 1) (rpA m f 2) (rpA m f 3)) (.leaf (.exit 2, rpS n z M t (m + 1, f) o i)) (rpPs n z M t m f o i))))))))
  (.leaf (.exit 2, rpS n z M t (m + 1, f) o i))
theorem rpI_into (m : Nat) (f : Nat → Int) (o : C2) (i : Int) : rpIT g n z M t (m + 1, f) o i = into (rpIT g n z M t (m + 1, f) o i) (rpSk n z M t m f o i) := by
  obtain ⟨p, c1, c2⟩ := o
  cases p with
  | zero => kernel_rfl
  | succ p => kernel_rfl
theorem rpI_fits (m : Nat) (f : Nat → Int) (o : C2) (i : Int) : fits (rpIT g n z M t (m + 1, f) o i) (rpSk n z M t m f o i) = true := by
  obtain ⟨p, c1, c2⟩ := o
  cases p with
  | zero => kernel_rfl
  | succ p => kernel_rfl
end
/-! ### plain facts -/
theorem canC4 (m : Nat) (f : Nat → Int) : canC (m + 3 + 1, f) = fourP (f m) (f (m + 1)) (f (m + 2)) (f (m + 3)) := by
  unfold canC
  rw [show decide ((((m + 3 + 1, f) : L2).1 : Int) ≥ 4) = true by simp only [decide_eq_true_eq]; omega]
  rfl
theorem canC_small {m : Nat} {f : Nat → Int} (h : decide (((m + 1 : Nat) : Int) ≥ 4) = false) : canC (m + 1, f) = false := by
  unfold canC
  rw [h]
theorem rpBrk_eq (a b c d : Int) : rpBrk a b c d = !(fourP a b c d) := by
  unfold rpBrk fourP
  rw [Bool.and_true]
  cases minI (farW b c) (farW a b) == farW b c <;> rfl
theorem rfN_step (f : Nat) (s : L2) (o : C2) : rfN (f + 1) s o = match canC s with | true => rfN f (popL s) (pushC o (s.2 (s.1 - 3)) (s.2 (s.1 - 2))) | false => (s, o) := rfl
theorem rfN_one : ∀ (f : Nat) (s : L2) (o : C2), s.1 ≤ f → rfN (f + 1) s o = rfN f s o
  | 0, s, o, h => by
    rw [rfN_step]
    cases hc : canC s with
    | false => rfl
    | true => have := canC_four hc; omega
  | f + 1, s, o, h => by
    rw [rfN_step (f + 1) s o, rfN_step f s o]
    cases hc : canC s with
    | false => rfl
    | true => exact rfN_one f _ _ (by have := canC_four hc; show s.1 - 2 ≤ f; omega)
theorem rfN_two (m : Nat) (f : Nat → Int) (o : C2) : rfN (m + 3) (popL (m + 3 + 1, f)) o = rfN (m + 2) (popL (m + 3 + 1, f)) o := rfN_one (m + 2) _ _ (Nat.le_refl _)
theorem rfN_bd : ∀ (f : Nat) (s : L2) (o : C2), (rfN f s o).1.1 + 2 * (rfN f s o).2.1 = s.1 + 2 * o.1 ∧ (1 ≤ s.1 → 1 ≤ (rfN f s o).1.1)
  | 0, _, _ => ⟨rfl, fun h => h⟩
  | f + 1, s, o => by
    rw [rfN_step]
    cases hc : canC s with
    | false => exact ⟨rfl, fun h => h⟩
    | true =>
      have h4 := canC_four hc
      obtain ⟨a, b⟩ := rfN_bd f (popL s) (pushC o (s.2 (s.1 - 3)) (s.2 (s.1 - 2)))
      have e1 : (popL s).1 = s.1 - 2 := rfl
      have e2 : (pushC o (s.2 (s.1 - 3)) (s.2 (s.1 - 2))).1 = o.1 + 1 := rfl
      rw [e1, e2] at a
      rw [e1] at b
      exact ⟨by simp only []; omega, fun _ => b (by omega)⟩
theorem rfP_bd (z : Nat → Int) : ∀ k, (rfP z k).1.1 + 2 * (rfP z k).2.1 = k ∧ (1 ≤ k → 1 ≤ (rfP z k).1.1)
  | 0 => ⟨rfl, fun h => by omega⟩
  | k + 1 => by
    obtain ⟨a, _⟩ := rfP_bd z k
    obtain ⟨c, d⟩ := rfN_bd ((rfP z k).1.1 + 1) (pushL (rfP z k).1 (z k)) (rfP z k).2
    have e1 : (pushL (rfP z k).1 (z k)).1 = (rfP z k).1.1 + 1 := rfl
    rw [e1] at c d
    exact ⟨by show (rfN _ _ _).1.1 + 2 * (rfN _ _ _).2.1 = _; omega, fun _ => d (by omega)⟩
section
variable (n : Nat) (z : Nat → Int) (M : Nat) (t : Nat → Int)
theorem rpQ_eq {m d : Nat} (h : d ≤ m + 1) (hm : m ≤ 1000000) : rpQ m (d : Int) = ((m + 1 - d : Nat) : Int) := by
  unfold rpQ
  rw [wrap_id (by omega) (by omega)]
  omega
theorem rpNx_le (m : Nat) (hm : m ≤ 900000) (f : Nat → Int) (o : C2) (i : Int) (x y : Int) : rpNx n z M t (m + 3) f i (liC 3 (pushC o x y).1) (liD 112 (pushC o x y)) = rpS n z M t (popL (m + 3 + 1, f)) (pushC o x y) i := by
  have e3 : (rpQ (m + 3) 3).toNat = m + 1 := by
    rw [show (3 : Int) = ((3 : Nat) : Int) from rfl, rpQ_eq (by omega) (by omega), Int.toNat_natCast]; omega
  have e4 : (rpQ (m + 3) 4).toNat = m := by
    rw [show (4 : Int) = ((4 : Nat) : Int) from rfl, rpQ_eq (by omega) (by omega), Int.toNat_natCast]; omega
  have ea : rpA (m + 3) f 3 = f (m + 3) := by
    show f (0 + (rpQ (m + 3) 4).toNat + (0 + 1 + 1 + 1)) = _
    rw [e4]; exact congrArg f (by omega)
  unfold rpNx
  rw [e3, ea, Nat.sub_zero]
  rfl
theorem rpT3_ok {p : X × St → Prop} {m : Nat} {f : Nat → Int} {i : Int} {a : A} {bl : List Blk} (hm : m ≤ 900000) (h : p (.normal, rpNx n z M t (m + 3) f i a bl)) : SkLeads p (rpT3 n z M t (m + 3) f i a bl) := by
  have e3 : rpQ (m + 3) 3 = ((m + 1 : Nat) : Int) := by
    rw [show (3 : Int) = ((3 : Nat) : Int) from rfl, rpQ_eq (by omega) (by omega), show m + 3 + 1 - 3 = m + 1 by omega]
  unfold rpT3
  refine sk_need ?_ (sk_nn (sk_need ?_ (sk_leaf h)))
  · rw [e3, show decide ((0 : Int) ≤ ((m + 1 : Nat) : Int)) = true by simp only [decide_eq_true_eq]; omega, show decide (((m + 1 : Nat) : Int) ≤ ((m + 3 + 1 : Nat) : Int)) = true by simp only [decide_eq_true_eq]; omega]; rfl
  · rw [e3, Int.toNat_natCast, Nat.sub_zero, bleR (by omega), bltR (by omega), bleR (by omega)]; rfl
theorem rpI_loop (i : Int) (s : L2) (o : C2) (h1 : 1 ≤ s.1) (hs : s.1 + 2 * o.1 ≤ 200000) : ComesF Tryz.prog (.loop (nthLoop rpC rpPI)) (rpB n z) (rpS n z M t s o i) fun q => q = (.exit 2, rpS n z M t (rfN s.1 s o).1 (rfN s.1 s o).2 i) := by
  refine loop_all (rec := rpRe turQ) rpRe_ok rfl [18, 7, 6, 19, 20] [18, 7, 6, 19, 20] (fun x : L2 × C2 => rpS n z M t x.1 x.2 i) (fun x => x.1.1) (fun x => 1 ≤ x.1.1 ∧ x.1.1 + 2 * x.2.1 ≤ 200000) (fun x => (.exit 2, rpS n z M t (rfN x.1.1 x.1 x.2).1 (rfN x.1.1 x.1 x.2).2 i)) (fun x hx => ?_) (s, o) ⟨h1, hs⟩
  obtain ⟨⟨m', f⟩, o⟩ := x
  obtain ⟨m, rfl⟩ : ∃ m, m' = m + 1 := ⟨m' - 1, by have := hx.1; simp only at this; omega⟩
  have hm : m + 1 + 2 * o.1 ≤ 200000 := hx.2
  refine all_into (rpI_into turQ n z M t m f o i) (rpI_fits turQ n z M t m f o i) (SkLeads.all ?_)
  have hfin : canC (m + 1, f) = false → rfN (m + 1) (m + 1, f) o = ((m + 1, f), o) := fun e => by rw [rfN_step, e]
  refine sk_either (fun g1 => ?_) fun g1 => sk_leaf ?_
  · obtain ⟨k, rfl⟩ : ∃ k, m = k + 3 := ⟨m - 3, by simp only [decide_eq_true_eq] at g1; omega⟩
    have e4 : rpQ (k + 3) 4 = ((k : Nat) : Int) := by
      rw [show (4 : Int) = ((4 : Nat) : Int) from rfl, rpQ_eq (by omega) (by omega), show k + 3 + 1 - 4 = k by omega]
    have a0 : rpA (k + 3) f 0 = f k := by show f (0 + (rpQ (k + 3) 4).toNat) = _; rw [e4, idx_nat]
    have a1 : rpA (k + 3) f 1 = f (k + 1) := by show f (0 + (rpQ (k + 3) 4).toNat + (0 + 1)) = _; rw [e4, idx_nat]
    have a2 : rpA (k + 3) f 2 = f (k + 2) := by show f (0 + (rpQ (k + 3) 4).toNat + (0 + 1 + 1)) = _; rw [e4, idx_nat]
    have a3 : rpA (k + 3) f 3 = f (k + 3) := by show f (0 + (rpQ (k + 3) 4).toNat + (0 + 1 + 1 + 1)) = _; rw [e4, idx_nat]
    refine sk_need ?_ (sk_need ?_ (sk_need ?_ (sk_need ?_ (sk_need ?_ (sk_need ?_ (sk_either (fun g2 => sk_leaf ?_) fun g2 => ?_))))))
    · rw [e4, show decide ((0 : Int) ≤ ((k : Nat) : Int)) = true by simp, show decide (((k : Nat) : Int) ≤ ((k + 3 + 1 : Nat) : Int)) = true by simp only [decide_eq_true_eq]; omega, show decide (((k + 3 + 1 : Nat) : Int) ≤ ((k + 3 + 1 : Nat) : Int)) = true by simp]; rfl
    · rw [e4, Int.toNat_natCast]; exact bleR (by omega)
    · rw [e4, idx_nat]; exact bltR (by omega)
    · rw [e4, idx_nat]; exact bltR (by omega)
    · rw [e4, idx_nat]; exact bltR (by omega)
    · rw [e4, idx_nat]; exact bltR (by omega)
    · show ((.exit 2, rpS n z M t (k + 3 + 1, f) o i) : X × St) = (.exit 2, rpS n z M t (rfN (k + 3 + 1) (k + 3 + 1, f) o).1 (rfN (k + 3 + 1) (k + 3 + 1, f) o).2 i)
      rw [hfin]
      rw [canC4]
      rw [rpBrk_eq, a0, a1, a2, a3] at g2
      simpa using g2
    · have hc : canC (k + 3 + 1, f) = true := by
        rw [canC4]
        rw [rpBrk_eq, a0, a1, a2, a3] at g2
        simpa using g2
      have hnext : ∀ st : St, st.Le (rpS n z M t (popL (k + 3 + 1, f)) (pushC o (f (k + 1)) (f (k + 2))) i) → (fun p : X × St => match p.1 with | .normal => ∃ y : L2 × C2, p.2.Le (rpS n z M t y.1 y.2 i) ∧ (1 ≤ y.1.1 ∧ y.1.1 + 2 * y.2.1 ≤ 200000) ∧ y.1.1 < k + 3 + 1 ∧ ((.exit 2, rpS n z M t (rfN y.1.1 y.1 y.2).1 (rfN y.1.1 y.1 y.2).2 i) : X × St) = (.exit 2, rpS n z M t (rfN (k + 3 + 1) (k + 3 + 1, f) o).1 (rfN (k + 3 + 1) (k + 3 + 1, f) o).2 i) | _ => p = (.exit 2, rpS n z M t (rfN (k + 3 + 1) (k + 3 + 1, f) o).1 (rfN (k + 3 + 1) (k + 3 + 1, f) o).2 i)) (.normal, st) := fun st hst => by
        refine ⟨(popL (k + 3 + 1, f), pushC o (f (k + 1)) (f (k + 2))), hst, ⟨?_, ?_⟩, ?_, ?_⟩
        · show 1 ≤ k + 3 + 1 - 2; omega
        · show k + 3 + 1 - 2 + 2 * (o.1 + 1) ≤ 200000; omega
        · show k + 3 + 1 - 2 < k + 3 + 1; omega
        · have e : rfN (k + 3 + 1) (k + 3 + 1, f) o = rfN (k + 2) (popL (k + 3 + 1, f)) (pushC o (f (k + 1)) (f (k + 2))) := by
            rw [rfN_step, hc]
            exact rfN_two k f _
          rw [e]; rfl
      obtain ⟨p, c1, c2⟩ := o
      unfold rpPs
      cases p with
      | zero =>
        rw [a1, a2]
        refine sk_nn (sk_nn (sk_nn (rpT3_ok n z M t (by omega) (hnext _ ?_))))
        have e := rpNx_le n z M t k (by omega) f (0, c1, c2) i (f (k + 1)) (f (k + 2))
        rw [← e]
        exact le_news (news := [liT M t, ⟨false, 3, .rows ((rpQ (k + 3) 3).toNat - 0 + 1) [.int .i64 (putF f ((rpQ (k + 3) 3).toNat - 0) (rpA (k + 3) f 3))]⟩, ⟨false, 112, .flat [ci (f (k + 1)), ci (f (k + 2))]⟩]) (show 1 + 3 ≤ lim by decide) ⟨⟨rfl, fun _ _ _ h => h⟩, ⟨rfl, fun _ _ _ h => h⟩, ⟨rfl, two_rowsR (putF_same _ _ _).symm (putF_same _ _ _).symm⟩, trivial⟩
      | succ p =>
        have hm : k + 3 + 1 + 2 * (p + 1) ≤ 200000 := hm
        rw [a1, a2]
        refine sk_nn (sk_nn (sk_need (by rw [bleR (Nat.le_refl _), bltR (by omega), bleR (by omega)]; rfl) (rpT3_ok n z M t (by omega) (hnext _ ?_))))
        rw [← rpNx_le n z M t k (by omega) f (p + 1, c1, c2) i (f (k + 1)) (f (k + 2))]
        exact St.Le.refl _
  · show ((.exit 2, rpS n z M t (m + 1, f) o i) : X × St) = (.exit 2, rpS n z M t (rfN (m + 1) (m + 1, f) o).1 (rfN (m + 1) (m + 1, f) o).2 i)
    rw [hfin (canC_small g1)]
end
/-! ### a round of the outer loop -/
section
variable (g : Nat → (Nat → Int) → L2) (n : Nat) (z : Nat → Int) (M : Nat) (t : Nat → Int)
def rpZ (x : Int) (i : Int) : St := rpD n z M t (slO 2 1 1) nilA i [⟨false, 3, .flat [ci x]⟩]
noncomputable def rpR1S (s : L2) (o : C2) (k : Nat) : SkO := .node (decide ((k : Int) < (M : Int))) (.need (decide (0 ≤ (k : Int)) && decide ((k : Int) < (M : Int))) (.need (Nat.blt (0 + Int.toNat (k : Int)) M) (match s with
  | (0, _) => .leaf (.inr (rpPI, rpZ n z M t (t (0 + Int.toNat (k : Int))) (k : Int)))
  | (m + 1, f) => .need (Nat.ble (m + 1) (m + 1) && Nat.blt ((m + 1 + 1) * 8) 140737488355328 && Nat.ble (m + 1 + 1) 9223372036854775807) (.leaf (.inr (rpPI, rpS n z M t (pushL (m + 1, f) (t (0 + Int.toNat (k : Int)))) o (k : Int)))))))
  (.leaf (.inl (.exit 0, rpX n z s o)))
theorem rpR1z_into (f c1 c2 : Nat → Int) (k : Nat) : rpR1 g n z M t (0, f) (0, c1, c2) k = into (rpR1 g n z M t (0, f) (0, c1, c2) k) (rpR1S n z M t (0, f) (0, c1, c2) k) := by kernel_rfl
theorem rpR1z_fits (f c1 c2 : Nat → Int) (k : Nat) : fits (rpR1 g n z M t (0, f) (0, c1, c2) k) (rpR1S n z M t (0, f) (0, c1, c2) k) = true := by kernel_rfl
theorem rpR1_into (m : Nat) (f : Nat → Int) (o : C2) (k : Nat) : rpR1 g n z M t (m + 1, f) o k = into (rpR1 g n z M t (m + 1, f) o k) (rpR1S n z M t (m + 1, f) o k) := by
  obtain ⟨p, c1, c2⟩ := o
  cases p with
  | zero => kernel_rfl
  | succ p => kernel_rfl
theorem rpR1_fits (m : Nat) (f : Nat → Int) (o : C2) (k : Nat) : fits (rpR1 g n z M t (m + 1, f) o k) (rpR1S n z M t (m + 1, f) o k) = true := by
  obtain ⟨p, c1, c2⟩ := o
  cases p with
  | zero => kernel_rfl
  | succ p => kernel_rfl
theorem rpR2_into (m : Nat) (f : Nat → Int) (o : C2) (k : Nat) : rpR2 g n z M t (m + 1, f) o k = into (rpR2 g n z M t (m + 1, f) o k) (.leaf (.inl (.normal, rpS n z M t (m + 1, f) o (IntKind.i64.wrap ((k : Int) + 1))))) := by
  obtain ⟨p, c1, c2⟩ := o
  cases p with
  | zero => kernel_rfl
  | succ p => kernel_rfl
theorem rpR2_fits (m : Nat) (f : Nat → Int) (o : C2) (k : Nat) : fits (rpR2 g n z M t (m + 1, f) o k) (.leaf (.inl (.normal, rpS n z M t (m + 1, f) o (IntKind.i64.wrap ((k : Int) + 1))))) = true := by
  obtain ⟨p, c1, c2⟩ := o
  cases p with
  | zero => kernel_rfl
  | succ p => kernel_rfl
theorem rpR1_eq (s : L2) (o : C2) (k : Nat) : (evB (rpRe g) rpC (rpS n z M t s o (k : Int))).bind (canO [18, 7, 6, 19, 20] [7, 6] (rpB n z)) = rpR1 g n z M t s o k := by delta rpR1; rfl
theorem rpR2_eq (s : L2) (o : C2) (k : Nat) : (evR (rpRe g) true rpC rpPI (.exit 2) (rpS n z M t s o (k : Int))).bind (canO [] [18, 7, 6, 19, 20] (rpB n z)) = rpR2 g n z M t s o k := by delta rpR2; rfl
theorem rpZ_le (f : Nat → Int) (x : Int) (i : Int) : (rpZ n z M t x i).Le (rpS n z M t (pushL (0, f) x) noneC i) :=
  le_news (news := [liT M t, ⟨false, 3, .flat [ci x]⟩]) (news' := [liT M t, ⟨false, 3, .rows 1 [.int .i64 (putF f 0 x)]⟩]) (show 1 + 2 ≤ lim by decide) ⟨⟨rfl, fun _ _ _ h => h⟩, ⟨rfl, one_row (putF_same _ _ _).symm⟩, trivial⟩
theorem rp_stop (s : L2) (o : C2) (k : Nat) (hs : s.1 + 2 * o.1 ≤ 100000) {S0 : St} (hle : S0.Le (rpS n z M t (pushL s (t k)) o (k : Int))) {φ : X × St → Prop} (hφ : φ (.normal, rpS n z M t (rfN (s.1 + 1) (pushL s (t k)) o).1 (rfN (s.1 + 1) (pushL s (t k)) o).2 (IntKind.i64.wrap ((k : Int) + 1)))) :
    CutF Tryz.prog (rpRe turQ) rpC (rpB n z) φ 1 (.inr (rpPI, S0)) := by
  refine ⟨_, true, [], [18, 7, 6, 19, 20], comesF_leR hle (rpI_loop n z M t (k : Int) (pushL s (t k)) o (Nat.succ_le_succ (Nat.zero_le _)) (show s.1 + 1 + 2 * o.1 ≤ 200000 by omega)), fun q hq => Leads.all ?_⟩
  subst hq
  have hp := (rfN_bd (s.1 + 1) (pushL s (t k)) o).2 (Nat.succ_le_succ (Nat.zero_le _))
  have e : (pushL s (t k)).1 = s.1 + 1 := rfl
  rw [e]
  revert hp hφ
  generalize rfN (s.1 + 1) (pushL s (t k)) o = x
  intro hφ hp
  obtain ⟨⟨m', f⟩, o'⟩ := x
  obtain ⟨m, rfl⟩ : ∃ m, m' = m + 1 := ⟨m' - 1, by simp only at hp; omega⟩
  exact leads_in (rpR2_eq turQ n z M t (m + 1, f) o' k) (rpR2_into turQ n z M t m f o' k) (rpR2_fits turQ n z M t m f o' k) (sk_leaf hφ)
theorem rp_loop (hM : M ≤ 100000) (hM1 : 1 ≤ M) : ComesF Tryz.prog (.loop rpC) (rpB n z) (rpS n z M t (rfP t 0).1 (rfP t 0).2 ((0 : Nat) : Int)) fun q => q = (.exit 0, rpX n z (rfP t M).1 (rfP t M).2) := by
  refine loop_countR (fun k => rpS n z M t (rfP t k).1 (rfP t k).2 (k : Int)) (fun _ => (.exit 0, rpX n z (rfP t M).1 (rfP t M).2)) M (fun k hk => ?_) ?_
  · refine comesF_cut (rec := rpRe turQ) rpRe_ok rfl 1 [18, 7, 6, 19, 20] [7, 6] (Leads.all ?_)
    obtain ⟨a1, a2, a3⟩ := rnd_lt hk
    have hφ : Rnd (fun k => rpS n z M t (rfP t k).1 (rfP t k).2 (k : Int)) (fun _ => (.exit 0, rpX n z (rfP t M).1 (rfP t M).2)) k (.normal, rpS n z M t (rfN ((rfP t k).1.1 + 1) (pushL (rfP t k).1 (t k)) (rfP t k).2).1 (rfN ((rfP t k).1.1 + 1) (pushL (rfP t k).1 (t k)) (rfP t k).2).2 (IntKind.i64.wrap ((k : Int) + 1))) :=
      rnd_next (by rw [wrap_succ (by omega)]; exact St.Le.refl _) rfl
    have hb := rfP_bd t k
    cases k with
    | zero =>
      refine leads_in (rpR1_eq turQ n z M t (rfP t 0).1 (rfP t 0).2 0) (rpR1z_into turQ n z M t (fun _ => 0) (fun _ => 0) (fun _ => 0) 0) (rpR1z_fits turQ n z M t (fun _ => 0) (fun _ => 0) (fun _ => 0) 0) (sk_yes a1 (sk_need a2 (sk_need a3 (sk_leaf ?_))))
      rw [idx_nat]
      exact rp_stop n z M t (0, fun _ => 0) noneC 0 (by show 0 + 2 * 0 ≤ 100000; omega) (rpZ_le n z M t (fun _ => 0) (t 0) ((0 : Nat) : Int)) hφ
    | succ k =>
      have h1 := hb.2 (by omega)
      have h2 := hb.1
      revert hφ h1 h2
      generalize rfP t (k + 1) = x
      intro hφ h1 h2
      obtain ⟨⟨m', f⟩, o⟩ := x
      obtain ⟨m, rfl⟩ : ∃ m, m' = m + 1 := ⟨m' - 1, by simp only at h1; omega⟩
      have h2 : m + 1 + 2 * o.1 = k + 1 := h2
      refine leads_in (rpR1_eq turQ n z M t (m + 1, f) o (k + 1)) (rpR1_into turQ n z M t m f o (k + 1)) (rpR1_fits turQ n z M t m f o (k + 1)) (sk_yes a1 (sk_need a2 (sk_need a3 (sk_need (by rw [bleR (Nat.le_refl _), bltR (by omega), bleR (by omega)]; rfl) (sk_leaf ?_)))))
      rw [idx_nat]
      exact rp_stop n z M t (m + 1, f) o (k + 1) (by show m + 1 + 2 * o.1 ≤ 100000; omega) (St.Le.refl _) hφ
  · refine comesF_cut (rec := rpRe turQ) rpRe_ok rfl 0 [18, 7, 6, 19, 20] [7, 6] (Leads.all ?_)
    have h1 := (rfP_bd t M).2 hM1
    revert h1
    generalize rfP t M = x
    intro h1
    obtain ⟨⟨m', f⟩, o⟩ := x
    obtain ⟨m, rfl⟩ : ∃ m, m' = m + 1 := ⟨m' - 1, by simp only at h1; omega⟩
    exact leads_in (rpR1_eq turQ n z M t (m + 1, f) o M) (rpR1_into turQ n z M t m f o M) (rpR1_fits turQ n z M t m f o M) (sk_no (rnd_end M) (sk_leaf rfl))
end
/-! ### the call -/
def jC (m : Nat) : Nat := match m with | 0 => 1 | _ + 1 => 2
def cycK (m : Nat) : C := match m with | 0 => nilZ | m + 1 => slZ true 1 2 (m + 1)
section
variable (g : Nat → (Nat → Int) → L2) (n : Nat) (z : Nat → Int)
def rpRt (s : L2) (o : C2) : St := rpN n z [(2, liC 1 o.1), (3, liA (jC o.1) s.1), (4, int 0)] (liD 112 o ++ liB 3 s)
def rpVal (s : L2) (o : C2) : A := .tup [(false, [cycK o.1]), (false, [slZ true (jC o.1) 1 s.1]), (false, [ci 0])]
def rpMem (s : L2) (o : C2) : Hp := hpT [⟨some 0, n, [.int .i64 z]⟩] [] (liD 112 o ++ liB 3 s)
theorem rpE_into (m : Nat) (f : Nat → Int) (o : C2) : rpE g n z (m + 1, f) o = into (rpE g n z (m + 1, f) o) (.leaf (.inl (.ret, rpRt n z (m + 1, f) o))) := by
  obtain ⟨p, c1, c2⟩ := o
  cases p with
  | zero => kernel_rfl
  | succ p => kernel_rfl
theorem rpE_fits (m : Nat) (f : Nat → Int) (o : C2) : fits (rpE g n z (m + 1, f) o) (.leaf (.inl (.ret, rpRt n z (m + 1, f) o))) = true := by
  obtain ⟨p, c1, c2⟩ := o
  cases p with
  | zero => kernel_rfl
  | succ p => kernel_rfl
theorem rp_left (m : Nat) (f : Nat → Int) (o : C2) : Left2 Tryz.prog Tryz.f25 (hisHp n z) (rpVal (m + 1, f) o) (rpMem n z (m + 1, f) o) (.ret, rpRt n z (m + 1, f) o) := by
  obtain ⟨p, c1, c2⟩ := o
  cases p with
  | zero => exact left_of (b := false) (by kernel_rfl)
  | succ p => exact left_of (b := false) (by kernel_rfl)
noncomputable def rpOS : SkO := .need (okN n) (.need (Nat.ble n 9223372036854775807) (.node (hisE n z != 0) (.leaf (.inl (.ret, rpN n z [(2, nilA), (3, nilA), (4, int (hisE n z))] []))) (.need (okN n) (.need (Nat.ble n 100000 && Nat.blt 0 n) (.leaf (.inr (pathF Tryz.f25, rpS n z (g n z).1 (g n z).2 (0, fun _ => 0) noneC ((0 : Nat) : Int))))))))
theorem rpO_into : rpO g n z = into (rpO g n z) (rpOS g n z) := by kernel_rfl
theorem rpO_fits : fits (rpO g n z) (rpOS g n z) = true := by kernel_rfl
theorem rpO_eq : evO (rpRe g) (bodyOf Tryz.f25) [18, 7, 6, 19, 20] [2, 3, 4] (rpB n z) = rpO g n z := by delta rpO; rfl
theorem rpE_eq (s : L2) (o : C2) : evO2 (rpRe g) true (bodyOf Tryz.f25) (pathF Tryz.f25) [] [2, 3, 4] (rpB n z) (.exit 0, rpX n z s o) = rpE g n z s o := by delta rpE; rfl
/-- what the program comes to -/
def rfX (n : Nat) (z : Nat → Int) : L2 × C2 := rfP (turQ n z).2 (turQ n z).1
theorem rfX_pos (h : 1 ≤ n) : 1 ≤ (rfX n z).1.1 := (rfP_bd _ _).2 (turQ_pos n z h)
theorem rp_call (h1 : 1 ≤ n) (he : hisE n z = 0) : CallAt Tryz.prog 25 [slT 0 1 n] (hisHp n z) (rpVal (rfX n z).1 (rfX n z).2) (rpMem n z (rfX n z).1 (rfX n z).2) := by
  have hn := his_len he
  have hp := rfX_pos n z h1
  refine call_baseS' (rec := rpRe turQ) rpRe_ok (c := bodyOf Tryz.f25) (fn := Tryz.f25) Tryz.func25 (by kernel_rfl) (by kernel_rfl) (false, true) 1 [18, 7, 6, 19, 20] [2, 3, 4] (sB := rpB n z) (by kernel_rfl) (t := rpO turQ n z) (rpO_eq turQ n z) (rpO_into turQ n z) (rpO_fits turQ n z) ?_
  refine sk_need (okN_ok n) (sk_need (bleR (by omega)) (sk_no (by rw [he]; rfl) (sk_need (okN_ok n) (sk_need (by rw [bleR (by omega), bltR (by omega)]; rfl) (sk_leaf ⟨_, true, [], [2, 3, 4], rp_loop n z (turQ n z).1 (turQ n z).2 (by have := turQ_le n z; omega) (turQ_pos n z h1), fun q hq => Leads.all ?_⟩)))))
  subst hq
  show Leads _ (evO2 (rpRe turQ) true (bodyOf Tryz.f25) (pathF Tryz.f25) [] [2, 3, 4] (rpB n z) (.exit 0, rpX n z (rfX n z).1 (rfX n z).2))
  revert hp
  generalize rfX n z = x
  intro hp
  obtain ⟨⟨m', f⟩, o⟩ := x
  obtain ⟨m, rfl⟩ : ∃ m, m' = m + 1 := ⟨m' - 1, by simp only at hp; omega⟩
  exact leads_in (rpE_eq turQ n z (m + 1, f) o) (rpE_into turQ n z m f o) (rpE_fits turQ n z m f o) (sk_leaf (cutF_dn (rp_left n z m f o)))
end
end Go.Ev

namespace Go.Ev
open Go Go.Proofs
set_option maxRecDepth 100000

theorem rfQ_step (f : Nat) (s : L2) (o : C2) : rfQ (f + 1) s o = match fndL s s.1 0 with | some i => rfQ f (cutL s i) (pushC o (s.2 (i + 1)) (s.2 (i + 2))) | none => (s, o) := rfl
theorem rfQ_one : ∀ (f : Nat) (s : L2) (o : C2), s.1 ≤ f → rfQ (f + 1) s o = rfQ f s o
  | 0, s, o, h => by
    rw [rfQ_step]
    cases hc : fndL s s.1 0 with
    | none => rfl
    | some i => have := (fndL_lt hc).1; omega
  | f + 1, s, o, h => by
    rw [rfQ_step (f + 1) s o, rfQ_step f s o]
    cases hc : fndL s s.1 0 with
    | none => rfl
    | some i => exact rfQ_one f _ _ (by have := (fndL_lt hc).1; show i + 1 + (s.1 - (i + 3)) ≤ f; omega)
section
variable (g : Nat → (Nat → Int) → L2) (n : Nat) (z : Nat → Int) (M : Nat) (t : Nat → Int)
/-! the inner loop -/
def rqW (k : Nat) (d : Int) : Int := IntKind.i64.wrap ((k : Int) + d)
def rqIx (i : Int) (S : Sk (X × St)) : Sk (X × St) := .need (decide (0 ≤ i) && decide (i < (M : Int))) (.need (Nat.blt (0 + i.toNat) M) S)
def rqAt (i : Int) : Int := t (0 + i.toNat)
def rqCM (w1 w3 : Int) : Nat := w1.toNat - 0 + 0 + (M - w3.toNat)
def rqCT (w1 w3 : Int) : Nat → Int := catF (w1.toNat - 0 + 0) (fun i => t (i - 0 + (0 + 0))) fun i => t (i + (0 + w3.toNat))
noncomputable def rqT3 (w1 w3 i : Int) (a : A) (bl : List Blk) : Sk (X × St) := .need (decide ((0 : Int) ≤ 0) && decide (0 ≤ w1) && decide (w1 ≤ (M : Int))) (.need (decide (0 ≤ w3) && decide (w3 ≤ (M : Int)) && decide ((M : Int) ≤ (M : Int)))
  (.need (Nat.ble (0 + 0 + (w1.toNat - 0)) M && Nat.ble ((w1.toNat - 0 + 0) * 8) 140737488355328 && Nat.ble (w1.toNat - 0 + 0) 9223372036854775807)
  (.need (Nat.ble (w1.toNat - 0 + 0) (w1.toNat - 0 + 0) && Nat.ble (0 + w3.toNat + (M - w3.toNat)) M && Nat.ble ((w1.toNat - 0 + 0 + (M - w3.toNat)) * 8) 140737488355328 && Nat.ble (w1.toNat - 0 + 0 + (M - w3.toNat)) 9223372036854775807)
  (.leaf (.normal, rqI' n z (rqCM M w1 w3) (rqCT t w1 w3) a true i bl)))))
noncomputable def rqPs (k : Nat) (o : C2) : Sk (X × St) := match o with
  | (0, _, _) => .nn (rqT3 n z M t (rqW k 1) (rqW k 3) (rqW k 1) (slO 2 2 1) [⟨false, 164, .flat [ci (rqAt t (rqW k 1)), ci (rqAt t (rqW k 2))]⟩])
  | (p + 1, c1, c2) => .need (Nat.ble (p + 1) (p + 1) && Nat.blt ((p + 1 + 1) * 16) 140737488355328 && Nat.ble (p + 1 + 1) 9223372036854775807) (rqT3 n z M t (rqW k 1) (rqW k 3) (rqW k 1) (slO 2 2 (p + 1 + 1)) [⟨false, 164, .rows (p + 1 + 1) [.int .i64 (putF c1 (p + 1) (rqAt t (rqW k 1))), .int .i64 (putF c2 (p + 1) (rqAt t (rqW k 2)))]⟩])
def rqC1 (a b c : Int) : Bool := decide (absQ (w64 (b - c)) ≤ absQ (w64 (a - b)))
noncomputable def rqSk (o : C2) (k : Nat) : Sk (X × St) := .node (decide (rqW k 3 < (M : Int))) (.tt (rqIx M (k : Int) (rqIx M (rqW k 1) (rqIx M (rqW k 2) (rqIx M (rqW k 3)
  (.node (rqC1 (rqAt t (k : Int)) (rqAt t (rqW k 1)) (rqAt t (rqW k 2))) (.node (decide (absQ (w64 (rqAt t (rqW k 1) - rqAt t (rqW k 2))) ≤ absQ (w64 (rqAt t (rqW k 2) - rqAt t (rqW k 3))))) (rqPs n z M t k o) (.leaf (.normal, rqI n z M t o false (rqW k 1)))) (.ff (.leaf (.normal, rqI n z M t o false (rqW k 1))))))))))
  (.ff (.leaf (.exit 2, rqS n z M t o false)))
noncomputable def rqSt (o : C2) (k : Nat) : Sk (X × St) := .node (decide (rqW k 3 < (M : Int))) (.ff (.leaf (.exit 2, rqS n z M t o true))) (.ff (.leaf (.exit 2, rqS n z M t o true)))
theorem rqI_into (o : C2) (k : Nat) : rqIT g n z M t o false (k : Int) = into (rqIT g n z M t o false (k : Int)) (rqSk n z M t o k) := by
  obtain ⟨p, c1, c2⟩ := o
  cases p with
  | zero => kernel_rfl
  | succ p => kernel_rfl
theorem rqI_fits (o : C2) (k : Nat) : fits (rqIT g n z M t o false (k : Int)) (rqSk n z M t o k) = true := by
  obtain ⟨p, c1, c2⟩ := o
  cases p with
  | zero => kernel_rfl
  | succ p => kernel_rfl
theorem rqT_into (o : C2) (k : Nat) : rqIT g n z M t o true (k : Int) = into (rqIT g n z M t o true (k : Int)) (rqSt n z M t o k) := by
  obtain ⟨p, c1, c2⟩ := o
  cases p with
  | zero => kernel_rfl
  | succ p => kernel_rfl
theorem rqT_fits (o : C2) (k : Nat) : fits (rqIT g n z M t o true (k : Int)) (rqSt n z M t o k) = true := by
  obtain ⟨p, c1, c2⟩ := o
  cases p with
  | zero => kernel_rfl
  | succ p => kernel_rfl
theorem rqW_eq {k d : Nat} (h : k + d ≤ 1000000) : rqW k (d : Int) = ((k + d : Nat) : Int) := by
  unfold rqW
  rw [wrap_id (by omega) (by omega)]
  omega
theorem rqIx_ok {p : X × St → Prop} {i : Nat} {S : Sk (X × St)} (hi : i < M) (h : SkLeads p S) : SkLeads p (rqIx M (i : Int) S) := by
  obtain ⟨_, a2, a3⟩ := rnd_lt hi
  exact sk_need a2 (sk_need a3 h)
theorem rqT3_ok {p : X × St → Prop} {k : Nat} {i : Int} {a : A} {bl : List Blk} (hM : M ≤ 100000) (hk : k + 3 < M) (h : p (.normal, rqI' n z (cutL (M, t) k).1 (cutL (M, t) k).2 a true i bl)) : SkLeads p (rqT3 n z M t ((k + 1 : Nat) : Int) ((k + 3 : Nat) : Int) i a bl) := by
  unfold rqT3
  refine sk_need ?_ (sk_need ?_ (sk_need ?_ (sk_need ?_ (sk_leaf ?_))))
  · rw [show decide ((0 : Int) ≤ ((k + 1 : Nat) : Int)) = true by simp only [decide_eq_true_eq]; omega, show decide (((k + 1 : Nat) : Int) ≤ (M : Int)) = true by simp only [decide_eq_true_eq]; omega]; rfl
  · rw [show decide ((0 : Int) ≤ ((k + 3 : Nat) : Int)) = true by simp only [decide_eq_true_eq]; omega, show decide (((k + 3 : Nat) : Int) ≤ (M : Int)) = true by simp only [decide_eq_true_eq]; omega, show decide ((M : Int) ≤ (M : Int)) = true by simp]; rfl
  · rw [Int.toNat_natCast, bleR (by omega), bleR (by omega), bleR (by omega)]; rfl
  · rw [Int.toNat_natCast, Int.toNat_natCast, bleR (by omega), bleR (by omega), bleR (by omega), bleR (by omega)]; rfl
  · have e1 : rqCM M ((k + 1 : Nat) : Int) ((k + 3 : Nat) : Int) = (cutL (M, t) k).1 := by unfold rqCM; rw [Int.toNat_natCast, Int.toNat_natCast]; rfl
    have e2 : rqCT t ((k + 1 : Nat) : Int) ((k + 3 : Nat) : Int) = (cutL (M, t) k).2 := by unfold rqCT; rw [Int.toNat_natCast, Int.toNat_natCast, Nat.zero_add (k + 3)]; rfl
    rw [e1, e2]
    exact h
end
/-- where the inner loop ends -/
def rqEnd (n : Nat) (z : Nat → Int) (s : L2) (o : C2) (r : Option Nat) : X × St := match r with
  | some i => (.exit 2, rqS n z (cutL s i).1 (cutL s i).2 (pushC o (s.2 (i + 1)) (s.2 (i + 2))) true)
  | none => (.exit 2, rqS n z s.1 s.2 o false)
def rqFin (n : Nat) (z : Nat → Int) (x : Bool × Nat × L2 × C2) : X × St := match x with
  | (false, i, s, o) => rqEnd n z s o (fndL s (s.1 - i) i)
  | (true, _, s, o) => (.exit 2, rqS n z s.1 s.2 o true)
def rqHd (n : Nat) (z : Nat → Int) (x : Bool × Nat × L2 × C2) : St := rqI n z x.2.2.1.1 x.2.2.1.2 x.2.2.2 x.1 (x.2.1 : Int)
def rqMu (x : Bool × Nat × L2 × C2) : Nat := match x with
  | (false, i, s, _) => s.1 - i + 1
  | (true, _, _, _) => 0
section
variable (n : Nat) (z : Nat → Int)
theorem rqI_loop (s : L2) (o : C2) (hs : s.1 + 2 * o.1 ≤ 100000) : ComesF Tryz.prog (.loop (nthLoop rqC rqPI)) (rqB n z) (rqI n z s.1 s.2 o false ((0 : Nat) : Int)) fun q => q = rqEnd n z s o (fndL s s.1 0) := by
  refine loop_all (rec := rqRe turQ) rqRe_ok rfl [4, 5, 6, 7] [4, 5, 6] (rqHd n z) rqMu (fun x => x.2.1 ≤ x.2.2.1.1 + 3 ∧ x.2.2.1.1 + 2 * x.2.2.2.1 ≤ 100000) (rqFin n z) (fun x hx => ?_) (false, 0, s, o) ⟨Nat.zero_le _, hs⟩
  obtain ⟨fd, k, ⟨M, t⟩, o⟩ := x
  have hk0 : k ≤ M + 3 := hx.1
  have hb : M + 2 * o.1 ≤ 100000 := hx.2
  have w3 : rqW k 3 = ((k + 3 : Nat) : Int) := rqW_eq (d := 3) (by omega)
  have w1 : rqW k 1 = ((k + 1 : Nat) : Int) := rqW_eq (d := 1) (by omega)
  have w2 : rqW k 2 = ((k + 2 : Nat) : Int) := rqW_eq (d := 2) (by omega)
  cases fd with
  | true =>
    refine all_into (rqT_into turQ n z M t o k) (rqT_fits turQ n z M t o k) (SkLeads.all ?_)
    exact sk_either (fun _ => sk_ff (sk_leaf rfl)) fun _ => sk_ff (sk_leaf rfl)
  | false =>
    refine all_into (rqI_into turQ n z M t o k) (rqI_fits turQ n z M t o k) (SkLeads.all ?_)
    have at' : ∀ i : Nat, rqAt t (i : Int) = t i := fun i => by unfold rqAt; rw [idx_nat]
    refine sk_either (fun g1 => sk_tt ?_) fun g1 => sk_ff (sk_leaf ?_)
    · rw [w3] at g1
      have hk : k + 3 < M := by simp only [decide_eq_true_eq] at g1; omega
      have hst : fndL (M, t) (M - k) k = match atQ (M, t) k with | true => some k | false => fndL (M, t) (M - (k + 1)) (k + 1) := by
        rw [show M - k = (M - (k + 1)) + 1 by omega]
        show (match decide (k + 3 < M) with | true => _ | false => _) = _
        rw [show decide (k + 3 < M) = true by simpa using hk]
        try (cases atQ (M, t) k <;> rfl)
      have hno : atQ (M, t) k = false → (fun p : X × St => match p.1 with | .normal => ∃ y, p.2.Le (rqHd n z y) ∧ (y.2.1 ≤ y.2.2.1.1 + 3 ∧ y.2.2.1.1 + 2 * y.2.2.2.1 ≤ 100000) ∧ rqMu y < rqMu (false, k, (M, t), o) ∧ rqFin n z y = rqFin n z (false, k, (M, t), o) | _ => p = rqFin n z (false, k, (M, t), o)) (.normal, rqI n z M t o false (rqW k 1)) := fun e => by
        refine ⟨(false, k + 1, (M, t), o), ?_, ⟨by show k + 1 ≤ M + 3; omega, hb⟩, by show M - (k + 1) + 1 < M - k + 1; omega, ?_⟩
        · rw [w1]; exact St.Le.refl _
        · show rqEnd n z (M, t) o (fndL (M, t) (M - (k + 1)) (k + 1)) = rqEnd n z (M, t) o (fndL (M, t) (M - k) k)
          rw [hst, e]
      have hyes : atQ (M, t) k = true → ∀ st : St, st.Le (rqI n z (cutL (M, t) k).1 (cutL (M, t) k).2 (pushC o (t (k + 1)) (t (k + 2))) true ((k + 1 : Nat) : Int)) → (fun p : X × St => match p.1 with | .normal => ∃ y, p.2.Le (rqHd n z y) ∧ (y.2.1 ≤ y.2.2.1.1 + 3 ∧ y.2.2.1.1 + 2 * y.2.2.2.1 ≤ 100000) ∧ rqMu y < rqMu (false, k, (M, t), o) ∧ rqFin n z y = rqFin n z (false, k, (M, t), o) | _ => p = rqFin n z (false, k, (M, t), o)) (.normal, st) := fun e st hst' => by
        refine ⟨(true, k + 1, cutL (M, t) k, pushC o (t (k + 1)) (t (k + 2))), hst', ⟨?_, ?_⟩, by show 0 < M - k + 1; omega, ?_⟩
        · show k + 1 ≤ k + 1 + (M - (k + 3)) + 3; omega
        · show k + 1 + (M - (k + 3)) + 2 * (o.1 + 1) ≤ 100000; omega
        · show ((.exit 2, rqS n z (cutL (M, t) k).1 (cutL (M, t) k).2 (pushC o (t (k + 1)) (t (k + 2))) true) : X × St) = rqEnd n z (M, t) o (fndL (M, t) (M - k) k)
          rw [hst, e]
          rfl
      have hat : atQ (M, t) k = match rqC1 (t k) (t (k + 1)) (t (k + 2)) with | true => decide (absQ (w64 (t (k + 1) - t (k + 2))) ≤ absQ (w64 (t (k + 2) - t (k + 3)))) | false => false := rfl
      rw [w1, w2, w3, at', at', at', at']
      rw [w1] at hno
      refine rqIx_ok M (by omega) (rqIx_ok M (by omega) (rqIx_ok M (by omega) (rqIx_ok M hk (sk_either (fun g2 => sk_either (fun g3 => ?_) fun g3 => sk_leaf (hno ?_)) fun g2 => sk_ff (sk_leaf (hno ?_))))))
      · have hy := hyes (by rw [hat, g2]; exact g3)
        obtain ⟨p, c1, c2⟩ := o
        unfold rqPs
        cases p with
        | zero =>
          simp only []
          rw [w1, w2, w3, at', at']
          refine sk_nn (rqT3_ok n z M t (by omega) hk (hy _ ?_))
          exact le_news (news := [liT (cutL (M, t) k).1 (cutL (M, t) k).2, ⟨false, 164, .flat [ci (t (k + 1)), ci (t (k + 2))]⟩]) (show 1 + 2 ≤ lim by decide) ⟨⟨rfl, fun _ _ _ h => h⟩, ⟨rfl, two_rowsR (putF_same _ _ _).symm (putF_same _ _ _).symm⟩, trivial⟩
        | succ p =>
          have hb : M + 2 * (p + 1) ≤ 100000 := hb
          simp only []
          rw [w1, w2, w3, at', at']
          exact sk_need (by rw [bleR (Nat.le_refl _), bltR (by omega), bleR (by omega)]; rfl) (rqT3_ok n z M t (by omega) hk (hy _ (St.Le.refl _)))
      · rw [hat, g2]; exact g3
      · rw [hat, g2]
    · rw [w3] at g1
      have hk : ¬ (k + 3 < M) := by simp only [decide_eq_false_iff_not] at g1; omega
      show ((.exit 2, rqS n z M t o false) : X × St) = rqEnd n z (M, t) o (fndL (M, t) (M - k) k)
      have : fndL (M, t) (M - k) k = none := by
        cases hM : M - k with
        | zero => rfl
        | succ f =>
          show (match decide (k + 3 < M) with | true => _ | false => _) = _
          rw [show decide (k + 3 < M) = false by simpa using hk]
      rw [this]
      rfl
end
/-! ### a round of the outer loop -/
section
variable (g : Nat → (Nat → Int) → L2) (n : Nat) (z : Nat → Int) (M : Nat) (t : Nat → Int) (o : C2)
theorem rqR1t_into : rqR1 g n z M t o true = into (rqR1 g n z M t o true) (.tt (.leaf (.inr (rqPI, rqI n z M t o false ((0 : Nat) : Int))))) := by
  obtain ⟨p, c1, c2⟩ := o
  cases p with
  | zero => kernel_rfl
  | succ p => kernel_rfl
theorem rqR1t_fits : fits (rqR1 g n z M t o true) (.tt (.leaf (.inr (rqPI, rqI n z M t o false ((0 : Nat) : Int))))) = true := by
  obtain ⟨p, c1, c2⟩ := o
  cases p with
  | zero => kernel_rfl
  | succ p => kernel_rfl
theorem rqR1f_into : rqR1 g n z M t o false = into (rqR1 g n z M t o false) (.ff (.leaf (.inl (.exit 0, rqX n z M t o)))) := by
  obtain ⟨p, c1, c2⟩ := o
  cases p with
  | zero => kernel_rfl
  | succ p => kernel_rfl
theorem rqR1f_fits : fits (rqR1 g n z M t o false) (.ff (.leaf (.inl (.exit 0, rqX n z M t o)))) = true := by
  obtain ⟨p, c1, c2⟩ := o
  cases p with
  | zero => kernel_rfl
  | succ p => kernel_rfl
theorem rqR2_into (fd : Bool) : rqR2 g n z M t o fd = into (rqR2 g n z M t o fd) (.leaf (.inl (.normal, rqS n z M t o fd))) := by
  obtain ⟨p, c1, c2⟩ := o
  cases p with
  | zero => kernel_rfl
  | succ p => kernel_rfl
theorem rqR2_fits (fd : Bool) : fits (rqR2 g n z M t o fd) (.leaf (.inl (.normal, rqS n z M t o fd))) = true := by
  obtain ⟨p, c1, c2⟩ := o
  cases p with
  | zero => kernel_rfl
  | succ p => kernel_rfl
theorem rqR1_eq (fd : Bool) : (evB (rqRe g) rqC (rqS n z M t o fd)).bind (canO [4, 5, 6, 7] [4, 5] (rqB n z)) = rqR1 g n z M t o fd := by delta rqR1; rfl
theorem rqR2_eq (fd : Bool) : (evR (rqRe g) true rqC rqPI (.exit 2) (rqS n z M t o fd)).bind (canO [] [4, 5, 6] (rqB n z)) = rqR2 g n z M t o fd := by delta rqR2; rfl
end
def rqFn (n : Nat) (z : Nat → Int) (x : Bool × L2 × C2) : X × St := match x with
  | (true, s, o) => (.exit 0, rqX n z (rfQ (s.1 + 1) s o).1.1 (rfQ (s.1 + 1) s o).1.2 (rfQ (s.1 + 1) s o).2)
  | (false, s, o) => (.exit 0, rqX n z s.1 s.2 o)
theorem rfQ_cut {s : L2} {o : C2} {i : Nat} (h : fndL s s.1 0 = some i) : rfQ (s.1 + 1) s o = rfQ ((cutL s i).1 + 1) (cutL s i) (pushC o (s.2 (i + 1)) (s.2 (i + 2))) := by
  have h3 := (fndL_lt h).1
  rw [rfQ_step, h]
  have e : (cutL s i).1 + 2 = s.1 := by show i + 1 + (s.1 - (i + 3)) + 2 = s.1; omega
  rw [← e]
  exact rfQ_one _ _ _ (Nat.le_succ _)
section
variable (n : Nat) (z : Nat → Int)
theorem rq_loop (s : L2) (o : C2) (hs : s.1 + 2 * o.1 ≤ 100000) : ComesF Tryz.prog (.loop rqC) (rqB n z) (rqS n z s.1 s.2 o true) fun q => q = (.exit 0, rqX n z (rfQ (s.1 + 1) s o).1.1 (rfQ (s.1 + 1) s o).1.2 (rfQ (s.1 + 1) s o).2) := by
  refine comesF_loop (fun x : Bool × L2 × C2 => rqS n z x.2.1.1 x.2.1.2 x.2.2 x.1) (fun x => 2 * x.2.1.1 + (match x.1 with | true => 1 | false => 0)) (fun x => x.2.1.1 + 2 * x.2.2.1 ≤ 100000 ∧ rqFn n z x = (.exit 0, rqX n z (rfQ (s.1 + 1) s o).1.1 (rfQ (s.1 + 1) s o).1.2 (rfQ (s.1 + 1) s o).2)) _ (fun x hx => ?_) (true, s, o) ⟨hs, rfl⟩
  obtain ⟨fd, ⟨M, t⟩, o'⟩ := x
  have hb : M + 2 * o'.1 ≤ 100000 := hx.1
  cases fd with
  | false =>
    refine comesF_cut (rec := rqRe turQ) rqRe_ok rfl 0 [4, 5, 6, 7] [4, 5] (Leads.all ?_)
    exact leads_in (rqR1_eq turQ n z M t o' false) (rqR1f_into turQ n z M t o') (rqR1f_fits turQ n z M t o') (sk_ff (sk_leaf hx.2))
  | true =>
    refine comesF_cut (rec := rqRe turQ) rqRe_ok rfl 1 [4, 5, 6, 7] [4, 5] (Leads.all ?_)
    refine leads_in (rqR1_eq turQ n z M t o' true) (rqR1t_into turQ n z M t o') (rqR1t_fits turQ n z M t o') (sk_tt (sk_leaf ⟨_, true, [], [4, 5, 6], rqI_loop n z (M, t) o' hb, fun q hq => Leads.all ?_⟩))
    subst hq
    cases hf : fndL (M, t) (M, t).1 0 with
    | none =>
      refine leads_in (rqR2_eq turQ n z M t o' false) (rqR2_into turQ n z M t o' false) (rqR2_fits turQ n z M t o' false) (sk_leaf ?_)
      refine ⟨(false, (M, t), o'), St.Le.refl _, ⟨hb, ?_⟩, by show 2 * M + 0 < 2 * M + 1; omega⟩
      rw [← hx.2]
      show ((.exit 0, rqX n z M t o') : X × St) = (.exit 0, rqX n z (rfQ (M + 1) (M, t) o').1.1 (rfQ (M + 1) (M, t) o').1.2 (rfQ (M + 1) (M, t) o').2)
      rw [rfQ_step, hf]
    | some i =>
      have h3 : i + 3 < M := (fndL_lt hf).1
      refine leads_in (rqR2_eq turQ n z (cutL (M, t) i).1 (cutL (M, t) i).2 (pushC o' (t (i + 1)) (t (i + 2))) true) (rqR2_into turQ n z _ _ _ true) (rqR2_fits turQ n z _ _ _ true) (sk_leaf ?_)
      refine ⟨(true, cutL (M, t) i, pushC o' (t (i + 1)) (t (i + 2))), St.Le.refl _, ⟨?_, ?_⟩, ?_⟩
      · show i + 1 + (M - (i + 3)) + 2 * (o'.1 + 1) ≤ 100000; omega
      · rw [← hx.2]
        show ((.exit 0, rqX n z (rfQ ((cutL (M, t) i).1 + 1) (cutL (M, t) i) (pushC o' (t (i + 1)) (t (i + 2)))).1.1 (rfQ ((cutL (M, t) i).1 + 1) (cutL (M, t) i) (pushC o' (t (i + 1)) (t (i + 2)))).1.2 (rfQ ((cutL (M, t) i).1 + 1) (cutL (M, t) i) (pushC o' (t (i + 1)) (t (i + 2)))).2) : X × St) = (.exit 0, rqX n z (rfQ (M + 1) (M, t) o').1.1 (rfQ (M + 1) (M, t) o').1.2 (rfQ (M + 1) (M, t) o').2)
        rw [show rfQ (M + 1) (M, t) o' = rfQ ((cutL (M, t) i).1 + 1) (cutL (M, t) i) (pushC o' (t (i + 1)) (t (i + 2))) from rfQ_cut hf]
      · show 2 * (i + 1 + (M - (i + 3))) + 1 < 2 * M + 1; omega
end
/-! ### the call -/
section
variable (g : Nat → (Nat → Int) → L2) (n : Nat) (z : Nat → Int)
def rqRt (s : L2) (o : C2) : St := rqN n z [(2, liC 1 o.1), (3, slO (jC o.1) 1 s.1)] (liD 164 o ++ [liT s.1 s.2])
def rqVal (s : L2) (o : C2) : A := .tup [(false, [cycK o.1]), (false, [slZ true (jC o.1) 1 s.1])]
def rqMem (s : L2) (o : C2) : Hp := hpT [⟨some 0, n, [.int .i64 z]⟩] [] (liD 164 o ++ [liT s.1 s.2])
theorem rqE_into (s : L2) (o : C2) : rqE g n z s.1 s.2 o = into (rqE g n z s.1 s.2 o) (.leaf (.inl (.ret, rqRt n z s o))) := by
  obtain ⟨p, c1, c2⟩ := o
  cases p with
  | zero => kernel_rfl
  | succ p => kernel_rfl
theorem rqE_fits (s : L2) (o : C2) : fits (rqE g n z s.1 s.2 o) (.leaf (.inl (.ret, rqRt n z s o))) = true := by
  obtain ⟨p, c1, c2⟩ := o
  cases p with
  | zero => kernel_rfl
  | succ p => kernel_rfl
theorem rq_left (s : L2) (o : C2) : Left2 Tryz.prog Tryz.f34 (hisHp n z) (rqVal s o) (rqMem n z s o) (.ret, rqRt n z s o) := by
  obtain ⟨p, c1, c2⟩ := o
  cases p with
  | zero => exact left_of (b := false) (by kernel_rfl)
  | succ p => exact left_of (b := false) (by kernel_rfl)
noncomputable def rqOS : SkO := .need (okN n) (.need (Nat.ble n 100000) (.node (Nat.beq n 0) (.leaf (.inr (pathF Tryz.f34, rqN n z [(4, nilA), (5, nilA), (6, boo true)] []))) (.leaf (.inr (pathF Tryz.f34, rqS n z (g n z).1 (g n z).2 noneC true)))))
theorem rqO_into : rqO g n z = into (rqO g n z) (rqOS g n z) := by kernel_rfl
theorem rqO_fits : fits (rqO g n z) (rqOS g n z) = true := by kernel_rfl
theorem rqO_eq : evO (rqRe g) (bodyOf Tryz.f34) [4, 5, 6] [2, 3] (rqB n z) = rqO g n z := by delta rqO; rfl
theorem rqE_eq (s : L2) (o : C2) : evO2 (rqRe g) true (bodyOf Tryz.f34) (pathF Tryz.f34) [] [2, 3] (rqB n z) (.exit 0, rqX n z s.1 s.2 o) = rqE g n z s.1 s.2 o := by delta rqE; rfl
/-- what the reference comes to -/
def rqY (n : Nat) (z : Nat → Int) : L2 × C2 := rfQ ((turQ n z).1 + 1) (turQ n z) noneC
theorem rq_call (h1 : 1 ≤ n) (hn : n ≤ 100000) : CallAt Tryz.prog 34 [slT 0 1 n] (hisHp n z) (rqVal (rqY n z).1 (rqY n z).2) (rqMem n z (rqY n z).1 (rqY n z).2) := by
  refine call_baseS' (rec := rqRe turQ) rqRe_ok (c := bodyOf Tryz.f34) (fn := Tryz.f34) Tryz.func34 (by kernel_rfl) (by kernel_rfl) (false, true) 1 [4, 5, 6] [2, 3] (sB := rqB n z) (by kernel_rfl) (t := rqO turQ n z) (rqO_eq turQ n z) (rqO_into turQ n z) (rqO_fits turQ n z) ?_
  refine sk_need (okN_ok n) (sk_need (bleR hn) (sk_no ?_ (sk_leaf ⟨_, true, [], [2, 3], rq_loop n z (turQ n z) noneC (by have := turQ_le n z; show (turQ n z).1 + 2 * 0 ≤ 100000; omega), fun q hq => Leads.all ?_⟩)))
  · cases n with
    | zero => omega
    | succ k => rfl
  · subst hq
    exact leads_in (rqE_eq turQ n z (rqY n z).1 (rqY n z).2) (rqE_into turQ n z (rqY n z).1 (rqY n z).2) (rqE_fits turQ n z (rqY n z).1 (rqY n z).2) (sk_leaf (cutF_dn (rq_left n z (rqY n z).1 (rqY n z).2)))
end
/-! ### both come to the same -/
theorem dedS_in {z : Nat → Int} {B : Nat} (h : ∀ i, i < B → -100000 ≤ z i ∧ z i ≤ 100000) : ∀ k, k ≤ B → InF (dedS z k)
  | 0, _ => fun i hi => by
    have hi : i < 0 := hi
    omega
  | k + 1, hk => by
    unfold dedS
    split
    · exact inF_push (dedS_in h k (by omega)) (h k (by omega))
    · exact dedS_in h k (by omega)
theorem selS_in {M : Nat} {f : Nat → Int} (h : ∀ i, i < M → -100000 ≤ f i ∧ f i ≤ 100000) : ∀ k, k ≤ M → InF (selS M f k)
  | 0, _ => fun i hi => by
    have hi : i < 0 := hi
    omega
  | k + 1, hk => by
    unfold selS
    split
    · exact selS_in h k (by omega)
    · exact inF_push (selS_in h k (by omega)) (h k (by omega))
theorem turQ_in {n : Nat} {z : Nat → Int} (h : ∀ i, i < n → -100000 ≤ z i ∧ z i ≤ 100000) : InF (turQ n z) := selS_in (dedS_in h n (Nat.le_refl _)) _ (Nat.le_refl _)
end Go.Ev
