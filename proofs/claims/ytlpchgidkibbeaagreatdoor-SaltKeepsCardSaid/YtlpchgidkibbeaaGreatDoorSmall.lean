/- Entries of tables for functions on numbers and vectors of numbers. Conditions: as the entries say. (Turned from the sun's.) -/
import Derived.Test.YtlpchgidkibbeaaGreatDoorFirst
namespace Go.Ev
open Go Go.Proofs
inductive Sh where
 | i
 | b
 | s
 | v (k : Nat)
 | sv (k : Nat)
def str (s : ByteArray) : A := .one (.lit (.string s))
def cs (s : ByteArray) : C := .lit (.string s)
def decA : List Sh → List A → Option (List Int × List Bool × List ByteArray)
 | [], [] => some ([], [], [])
 | .i :: sh, .one (.lit (.int .i64 a)) :: xs => match decA sh xs with | some (l, m, n) => some (a :: l, m, n) | none => none
 | .b :: sh, .one (.lit (.bool a)) :: xs => match decA sh xs with | some (l, m, n) => some (l, a :: m, n) | none => none
 | .s :: sh, .one (.lit (.string a)) :: xs => match decA sh xs with | some (l, m, n) => some (l, m, a :: n) | none => none
 | .v k :: sh, .agg cs :: xs => match intsC cs, decA sh xs with
  | some l', some (l, m, n) => match Nat.beq l'.length k with
   | true => some (l' ++ l, m, n)
   | false => none
  | _, _ => none
 | .sv k :: sh, .agg (.lit (.string a) :: cs) :: xs => match intsC cs, decA sh xs with
  | some l', some (l, m, n) => match Nat.beq l'.length k with
   | true => some (l' ++ l, m, a :: n)
   | false => none
  | _, _ => none
 | _, _ => none
def emptyB : ByteArray := ⟨#[]⟩
def encA : List Sh → List Int → List Bool → List ByteArray → List A
 | [], _, _, _ => []
 | .i :: sh, l, m, n => int (l.headD 0) :: encA sh l.tail m n
 | .b :: sh, l, m, n => boo (m.headD false) :: encA sh l m.tail n
 | .s :: sh, l, m, n => str (n.headD emptyB) :: encA sh l m n.tail
 | .v k :: sh, l, m, n => .agg ((l.take k).map ci) :: encA sh (l.drop k) m n
 | .sv k :: sh, l, m, n => .agg (cs (n.headD emptyB) :: (l.take k).map ci) :: encA sh (l.drop k) m n.tail
def lenI : List Sh → Nat
 | [] => 0
 | .i :: sh => lenI sh + 1
 | .b :: sh => lenI sh
 | .s :: sh => lenI sh
 | .v k :: sh => k + lenI sh
 | .sv k :: sh => k + lenI sh
def lenB : List Sh → Nat
 | [] => 0
 | .b :: sh => lenB sh + 1
 | _ :: sh => lenB sh
def lenS : List Sh → Nat
 | [] => 0
 | .s :: sh => lenS sh + 1
 | .sv _ :: sh => lenS sh + 1
 | _ :: sh => lenS sh
theorem dec_enc : ∀ {sh : List Sh} {xs : List A} {l : List Int} {m : List Bool} {n : List ByteArray}, decA sh xs = some (l, m, n) → xs = encA sh l m n ∧ l.length = lenI sh ∧ m.length = lenB sh ∧ n.length = lenS sh
 | [], [], l, m, n, h => by
  simp only [decA, Option.some.injEq, Prod.mk.injEq] at h
  obtain ⟨rfl, rfl, rfl⟩ := h
  exact ⟨rfl, rfl, rfl, rfl⟩
 | [], _ :: _, _, _, _, h => by cases h
 | x0 :: sh, xs, l, m, n, h => by
  unfold decA at h
  split at h
  ·rename_i e; cases e
  ·rename_i sh' a xs' e
   obtain ⟨rfl, rfl⟩ := List.cons.inj e
   split at h
   ·rename_i l' m' n' hd
    simp only [Option.some.injEq, Prod.mk.injEq] at h
    obtain ⟨rfl, rfl, rfl⟩ := h
    obtain ⟨h1, h2, h3, h4⟩ := dec_enc hd
    exact ⟨by simp [encA, ← h1, int], by simp [lenI, h2], by simp [lenB, h3], by simp [lenS, h4]⟩
   ·cases h
  ·rename_i sh' a xs' e
   obtain ⟨rfl, rfl⟩ := List.cons.inj e
   split at h
   ·rename_i l' m' n' hd
    simp only [Option.some.injEq, Prod.mk.injEq] at h
    obtain ⟨rfl, rfl, rfl⟩ := h
    obtain ⟨h1, h2, h3, h4⟩ := dec_enc hd
    exact ⟨by simp [encA, ← h1, boo], by simp [lenI, h2], by simp [lenB, h3], by simp [lenS, h4]⟩
   ·cases h
  ·rename_i sh' a xs' e
   obtain ⟨rfl, rfl⟩ := List.cons.inj e
   split at h
   ·rename_i l' m' n' hd
    simp only [Option.some.injEq, Prod.mk.injEq] at h
    obtain ⟨rfl, rfl, rfl⟩ := h
    obtain ⟨h1, h2, h3, h4⟩ := dec_enc hd
    exact ⟨by simp [encA, ← h1, str], by simp [lenI, h2], by simp [lenB, h3], by simp [lenS, h4]⟩
   ·cases h
  ·rename_i k sh' cs' xs' e
   obtain ⟨rfl, rfl⟩ := List.cons.inj e
   split at h
   ·rename_i l' l2 m' n' hi hd
    split at h
    ·rename_i hk
     simp only [Option.some.injEq, Prod.mk.injEq] at h
     obtain ⟨rfl, rfl, rfl⟩ := h
     obtain ⟨h1, h2, h3, h4⟩ := dec_enc hd
     have hk := Nat.eq_of_beq_eq_true hk
     subst hk
     refine ⟨?_, by simp [lenI, h2], by simp [lenB, h3], by simp [lenS, h4]⟩
     rw [intsC_eq hi]
     simp [encA, ← h1]
    ·cases h
   ·cases h
  ·rename_i k sh' a cs' xs' e
   obtain ⟨rfl, rfl⟩ := List.cons.inj e
   split at h
   ·rename_i l' l2 m' n' hi hd
    split at h
    ·rename_i hk
     simp only [Option.some.injEq, Prod.mk.injEq] at h
     obtain ⟨rfl, rfl, rfl⟩ := h
     obtain ⟨h1, h2, h3, h4⟩ := dec_enc hd
     have hk := Nat.eq_of_beq_eq_true hk
     subst hk
     refine ⟨?_, by simp [lenI, h2], by simp [lenB, h3], by simp [lenS, h4]⟩
     rw [intsC_eq hi]
     simp [encA, ← h1, cs]
    ·cases h
   ·cases h
  ·cases h
def specI (sh : List Sh) (ok : List Int → List Bool → List ByteArray → Bool) (F : List Int → List Bool → List ByteArray → A) : Spec := fun args h => match decA sh args with
 | some (l, m, n) => .need (ok l m n) (.leaf (F l m n, h))
 | none => .fail 330
theorem specI_ok {P : Program} {f : FuncId} {sh : List Sh} {ok : List Int → List Bool → List ByteArray → Bool} {F : List Int → List Bool → List ByteArray → A} (hv : ∀ l m n, (F l m n).noId = true)
  (hc : ∀ l m n, l.length = lenI sh → m.length = lenB sh → n.length = lenS sh → ok l m n = true → CallAt P f (encA sh l m n) hp0 (F l m n) hp0) : SpecOk P f (specI sh ok F) := by
 intro args h v h' hr E w vals rh hargs
 unfold specI at hr
 split at hr
 ·rename_i l m n hd
  obtain ⟨hok, hr⟩ := Tree.need_some hr
  simp only [Tree.run, Option.some.injEq, Prod.mk.injEq] at hr
  obtain ⟨rfl, rfl⟩ := hr
  obtain ⟨rfl, h2, h3, h4⟩ := dec_enc hd
  refine lift0 (hc l m n h2 h3 h4 hok) (hv l m n) ?_ rh hargs
  clear h2 h3 h4 hok hd hargs hr hc
  have nl : ∀ l : List Int, noIds (l.map ci) = true := fun l => by
   induction l with
   | nil => rfl
   | cons a l ih => exact ih
  induction sh generalizing l m n with
  | nil => rfl
  | cons x0 sh ih =>
   cases x0 with
   | i => simp only [encA, List.all_cons, Bool.and_eq_true]; exact ⟨rfl, ih _ _ _⟩
   | b => simp only [encA, List.all_cons, Bool.and_eq_true]; exact ⟨rfl, ih _ _ _⟩
   | s => simp only [encA, List.all_cons, Bool.and_eq_true]; exact ⟨rfl, ih _ _ _⟩
   | v k => simp only [encA, List.all_cons, Bool.and_eq_true]; exact ⟨nl _, ih _ _ _⟩
   | sv k => simp only [encA, List.all_cons, Bool.and_eq_true]; exact ⟨nl _, ih _ _ _⟩
 ·cases hr
theorem tab_cons {P : Program} {l : List (FuncId × Spec)} {f : FuncId} {s : Spec} (hl : TabOk P (tabOf l)) (hs : SpecOk P f s) : TabOk P (tabOf ((f, s) :: l)) := by
 intro g s' h
 unfold tabOf at h
 split at h
 ·rename_i e
  obtain rfl := Nat.eq_of_beq_eq_true e
  simp only [Option.some.injEq] at h
  subst h
  exact hs
 ·exact hl g s' h
def w64 (n : Int) : Int := IntKind.i64.wrap n
def errIf (b : Bool) (e : Int) : Int := match b with | true => e | false => 0
def wW (n lo hi : Int) : Int := errIf (decide (n < lo) || decide (hi < n)) 3
def sB (l : List UInt8) : ByteArray := ⟨l.toArray⟩
def sEmpty : ByteArray := sB [101, 109, 112, 116, 121]
def sFilled : ByteArray := sB [102, 105, 108, 108, 101, 100]
def sRunning : ByteArray := sB [114, 117, 110, 110, 105, 110, 103]
def known (s : ByteArray) : Bool := s == sEmpty || (s == sFilled || s == sRunning)
def rangesW (c l f r h k : Int) : Int := firstZ [wW c 1 1000, wW l 0 100000, wW f 0 1000, wW r 0 1000, wW h 0 1000, wW k 0 1000]
def ordersW (f r h k : Int) : Int := firstZ [errIf (decide (r ≤ f) || decide (h ≤ r)) 11, errIf (decide (k < f) || decide (h < k)) 34]
def rulesErr (c l f r h k : Int) : Int := match rangesW c l f r h k != 0 with | true => rangesW c l f r h k | false => ordersW f r h k
def recvErr (s : ByteArray) (n : Int) : Int := firstZ [errIf (!known s) 13, wW n 0 1000000000]
end Go.Ev
