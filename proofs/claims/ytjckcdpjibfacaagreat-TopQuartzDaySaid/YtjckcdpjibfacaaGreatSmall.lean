/- Entries of tables for functions on numbers and vectors of numbers. Conditions: as the entries say. (Printed by gen_vec.py.) -/
import Derived.Test.YtjckcdpjibfacaaGreatFirst
namespace Go.Ev
open Go Go.Proofs
inductive Sh where
 | i
 | b
 | v (k : Nat)
def decA : List Sh → List A → Option (List Int × List Bool)
 | [], [] => some ([], [])
 | .i :: sh, .one (.lit (.int .i64 a)) :: xs => match decA sh xs with | some (l, m) => some (a :: l, m) | none => none
 | .b :: sh, .one (.lit (.bool a)) :: xs => match decA sh xs with | some (l, m) => some (l, a :: m) | none => none
 | .v k :: sh, .agg cs :: xs => match intsC cs, decA sh xs with
  | some l', some (l, m) => match Nat.beq l'.length k with
   | true => some (l' ++ l, m)
   | false => none
  | _, _ => none
 | _, _ => none
def encA : List Sh → List Int → List Bool → List A
 | [], _, _ => []
 | .i :: sh, l, m => int (l.headD 0) :: encA sh l.tail m
 | .b :: sh, l, m => boo (m.headD false) :: encA sh l m.tail
 | .v k :: sh, l, m => .agg ((l.take k).map ci) :: encA sh (l.drop k) m
def lenI : List Sh → Nat
 | [] => 0
 | .i :: sh => lenI sh + 1
 | .b :: sh => lenI sh
 | .v k :: sh => k + lenI sh
def lenB : List Sh → Nat
 | [] => 0
 | .b :: sh => lenB sh + 1
 | _ :: sh => lenB sh
theorem dec_enc : ∀ {sh : List Sh} {xs : List A} {l : List Int} {m : List Bool}, decA sh xs = some (l, m) → xs = encA sh l m ∧ l.length = lenI sh ∧ m.length = lenB sh
 | [], [], l, m, h => by
  simp only [decA, Option.some.injEq, Prod.mk.injEq] at h
  obtain ⟨rfl, rfl⟩ := h
  exact ⟨rfl, rfl, rfl⟩
 | [], _ :: _, _, _, h => by cases h
 | s :: sh, xs, l, m, h => by
  unfold decA at h
  split at h
  ·rename_i e; cases e
  ·rename_i sh' a xs' e
   obtain ⟨rfl, rfl⟩ := List.cons.inj e
   split at h
   ·rename_i l' m' hd
    simp only [Option.some.injEq, Prod.mk.injEq] at h
    obtain ⟨rfl, rfl⟩ := h
    obtain ⟨h1, h2, h3⟩ := dec_enc hd
    exact ⟨by simp [encA, ← h1, int], by simp [lenI, h2], by simp [lenB, h3]⟩
   ·cases h
  ·rename_i sh' a xs' e
   obtain ⟨rfl, rfl⟩ := List.cons.inj e
   split at h
   ·rename_i l' m' hd
    simp only [Option.some.injEq, Prod.mk.injEq] at h
    obtain ⟨rfl, rfl⟩ := h
    obtain ⟨h1, h2, h3⟩ := dec_enc hd
    exact ⟨by simp [encA, ← h1, boo], by simp [lenI, h2], by simp [lenB, h3]⟩
   ·cases h
  ·rename_i k sh' cs xs' e
   obtain ⟨rfl, rfl⟩ := List.cons.inj e
   split at h
   ·rename_i l' l2 m' hi hd
    split at h
    ·rename_i hk
     simp only [Option.some.injEq, Prod.mk.injEq] at h
     obtain ⟨rfl, rfl⟩ := h
     obtain ⟨h1, h2, h3⟩ := dec_enc hd
     have hk := Nat.eq_of_beq_eq_true hk
     subst hk
     refine ⟨?_, by simp [lenI, h2], by simp [lenB, h3]⟩
     rw [intsC_eq hi]
     simp [encA, ← h1]
    ·cases h
   ·cases h
  ·cases h
def specI (sh : List Sh) (ok : List Int → List Bool → Bool) (F : List Int → List Bool → A) : Spec := fun args h => match decA sh args with
 | some (l, m) => .need (ok l m) (.leaf (F l m, h))
 | none => .fail 330
theorem specI_ok {P : Program} {f : FuncId} {sh : List Sh} {ok : List Int → List Bool → Bool} {F : List Int → List Bool → A} (hv : ∀ l m, (F l m).noId = true)
  (hc : ∀ l m, l.length = lenI sh → m.length = lenB sh → ok l m = true → CallAt P f (encA sh l m) hp0 (F l m) hp0) : SpecOk P f (specI sh ok F) := by
 intro args h v h' hr E w vals rh hargs
 unfold specI at hr
 split at hr
 ·rename_i l m hd
  obtain ⟨hok, hr⟩ := Tree.need_some hr
  simp only [Tree.run, Option.some.injEq, Prod.mk.injEq] at hr
  obtain ⟨rfl, rfl⟩ := hr
  obtain ⟨rfl, h2, h3⟩ := dec_enc hd
  refine lift0 (hc l m h2 h3 hok) (hv l m) ?_ rh hargs
  clear h2 h3 hok hd hargs hr hc
  have nl : ∀ l : List Int, noIds (l.map ci) = true := fun l => by
   induction l with
   | nil => rfl
   | cons a l ih => exact ih
  induction sh generalizing l m with
  | nil => rfl
  | cons s sh ih =>
   cases s with
   | i => simp only [encA, List.all_cons, Bool.and_eq_true]; exact ⟨rfl, ih _ _⟩
   | b => simp only [encA, List.all_cons, Bool.and_eq_true]; exact ⟨rfl, ih _ _⟩
   | v k => simp only [encA, List.all_cons, Bool.and_eq_true]; exact ⟨nl _, ih _ _⟩
 ·cases hr
theorem tab_cons {P : Program} {l : List (FuncId × Spec)} {f : FuncId} {s : Spec} (hl : TabOk P (tabOf l)) (hs : SpecOk P f s) : TabOk P (tabOf ((f, s) :: l)) := by
 intro g s' h
 unfold tabOf at h
 split at h
 ·rename_i e
  obtain rfl := Nat.eq_of_beq_eq_true e
  simp only [Option.some.injEq] at h
  subst h
  exact hs
 ·exact hl g s' h
theorem tab_nil {P : Program} : TabOk P (tabOf []) := fun f s h => by cases h
def w64 (n : Int) : Int := IntKind.i64.wrap n
def errIf (b : Bool) (e : Int) : Int := match b with | true => e | false => 0
def wW (n lo hi : Int) : Int := errIf (decide (n < lo) || decide (hi < n)) 3
def dotW (ax ay az bx by' bz : Int) : Int := w64 (w64 (w64 (ax * bx) + w64 (ay * by')) + w64 (az * bz))
def crX (_ ay az _ by' bz : Int) : Int := w64 (w64 (ay * bz) - w64 (az * by'))
def crY (ax _ az bx _ bz : Int) : Int := w64 (w64 (az * bx) - w64 (ax * bz))
def crZ (ax ay _ bx by' _ : Int) : Int := w64 (w64 (ax * by') - w64 (ay * bx))
def suW (x a y b : Int) : Int := w64 (w64 (x * a) + w64 (y * b))
def farW (x y z : Int) : Int := max2 (max2 (max2 (max2 (max2 (max2 0 x) (w64 (0 - x))) y) (w64 (0 - y))) z) (w64 (0 - z))
def z3 (x y z : Int) : Bool := (x == 0) && ((y == 0) && ((z == 0) && true))
def e3 (x y z x' y' z' : Int) : Bool := (x == x') && ((y == y') && ((z == z') && true))
def vecErr (x y z : Int) : Int := firstZ [wW x (-1048576) 1048576, wW y (-1048576) 1048576, wW z (-1048576) 1048576]
def dirErr (x y z : Int) : Int := firstZ [vecErr x y z, errIf (z3 x y z) 6]
def rayErr (x y z : Int) : Int := firstZ [dirErr x y z, errIf (decide (4096 < farW x y z)) 3]
def farErr (x y z m : Int) : Int := firstZ [wW x (w64 (0 - m)) m, wW y (w64 (0 - m)) m, wW z (w64 (0 - m)) m]
def qdirErr (x y z : Int) : Int := match vecErr x y z != 0 with | true => vecErr x y z | false => errIf (z3 x y z) 6
def qrayErr (x y z : Int) : Int := firstZ [qdirErr x y z, farErr x y z 4096]
def coneErr (x y z num den : Int) : Int := firstZ [rayErr x y z, wW den 1 100, wW num 0 den]
def qconeErr (x y z num den : Int) : Int := firstZ [qrayErr x y z, wW den 1 100, wW num 0 den]
def samW (ax ay az bx by' bz : Int) : Bool := z3 (crX ax ay az bx by' bz) (crY ax ay az bx by' bz) (crZ ax ay az bx by' bz) && decide (0 < dotW ax ay az bx by' bz)
def oppW (ax ay az bx by' bz : Int) : Bool := z3 (crX ax ay az bx by' bz) (crY ax ay az bx by' bz) (crZ ax ay az bx by' bz) && decide (dotW ax ay az bx by' bz < 0)
def insW (x y z num den a b c : Int) : Bool := decide (0 < dotW x y z a b c) && decide (w64 (w64 (num * dotW x y z x y z) * dotW a b c a b c) ≤ w64 (w64 (dotW x y z a b c * dotW x y z a b c) * den))
def gcd3 (x y z : Int) : Int := Int.gcd (Int.gcd (Int.gcd 0 x) y) z
def redW (n x : Int) : Int := match n == 0 with | true => x | false => w64 (x.tdiv n)
def qd (x y z : Int) : Int := match (x != 0) || (y != 0) with | true => gcd1 (gcd1 x y) z | false => gcd1 z 0
def qred (x y z a : Int) : Int := w64 (a.tdiv (qd x y z))
def qsame (x y z a b c : Int) : Bool := e3 (qred x y z x) (qred x y z y) (qred x y z z) (qred a b c a) (qred a b c b) (qred a b c c)
def qopp (x y z a b c : Int) : Bool := e3 (qred x y z x) (qred x y z y) (qred x y z z) (w64 (qred a b c a * -1)) (w64 (qred a b c b * -1)) (w64 (qred a b c c * -1))
def in3 (x y z : Int) : Bool := in63 x && (in63 y && in63 z)
def btwA (ax ay az bx by' bz : Int) : Int := w64 (w64 (dotW ax ay az ax ay az * dotW bx by' bz bx by' bz) - w64 (dotW ax ay az bx by' bz * dotW ax ay az bx by' bz))
def btwX (x y z ax ay az bx by' bz : Int) : Int := w64 (w64 (dotW x y z ax ay az * dotW bx by' bz bx by' bz) - w64 (dotW x y z bx by' bz * dotW ax ay az bx by' bz))
def btwY (x y z ax ay az bx by' bz : Int) : Int := w64 (w64 (dotW x y z bx by' bz * dotW ax ay az ax ay az) - w64 (dotW x y z ax ay az * dotW ax ay az bx by' bz))
def btwS (x y z ax ay az bx by' bz : Int) : Int := w64 (w64 (btwX x y z ax ay az bx by' bz * dotW x y z ax ay az) + w64 (btwY x y z ax ay az bx by' bz * dotW x y z bx by' bz))
def btwW (x y z num den ax ay az bx by' bz : Int) : Bool := !(btwA ax ay az bx by' bz == 0) && (!(decide (btwX x y z ax ay az bx by' bz ≤ 0)) && (!(decide (btwY x y z ax ay az bx by' bz ≤ 0)) &&
 decide (w64 (w64 (num * btwA ax ay az bx by' bz) * dotW x y z x y z) ≤ w64 (den * btwS x y z ax ay az bx by' bz))))
def qmeet (x y z num den ax ay az bx by' bz : Int) : Bool := insW x y z num den ax ay az || (insW x y z num den bx by' bz || (!(qsame ax ay az bx by' bz) && (decide (0 < btwX x y z ax ay az bx by' bz) && (decide (0 < btwY x y z ax ay az bx by' bz) &&
 decide (w64 (w64 (num * btwA ax ay az bx by' bz) * dotW x y z x y z) ≤ w64 (btwS x y z ax ay az bx by' bz * den))))))
def turnErr (x y z ax ay az bx by' bz : Int) : Int := firstZ [errIf ((decide (256 < farW x y z) || (decide (256 < farW ax ay az) || decide (256 < farW bx by' bz)))) 3, errIf (oppW ax ay az bx by' bz) 1]
def qturnErr (x y z ax ay az bx by' bz : Int) : Int := firstZ [farErr x y z 256, farErr ax ay az 256, farErr bx by' bz 256, errIf (qopp ax ay az bx by' bz) 1]
def meetErr (x y z num den ax ay az bx by' bz : Int) : Int := firstZ [coneErr x y z num den, rayErr ax ay az, rayErr bx by' bz]
theorem run_or {p q : Bool} {h : Hp} : (Tree.node p (.leaf (boo true, h)) (.leaf (boo q, h))).run = some (boo (p || q), h) := by cases p <;> rfl
theorem run_and {p q : Bool} {h : Hp} : (Tree.node p (.leaf (boo q, h)) (.leaf (boo false, h))).run = some (boo (p && q), h) := by cases p <;> rfl
end Go.Ev
