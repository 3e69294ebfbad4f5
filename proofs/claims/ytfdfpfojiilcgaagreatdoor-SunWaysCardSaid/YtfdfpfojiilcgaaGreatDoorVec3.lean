/- Contracts over short lists of vectors, and of the meeting of a way and a cone. Conditions: the lists lie by themselves in memory. (Printed by gen_vec3.py.) -/
import Derived.Test.YtfdfpfojiilcgaaGreatDoorVec2
namespace Go.Ev
open Go Go.Proofs

theorem sub_flat {et : TypeId} {l : List Int} : Sub ⟨false, et, .flat (l.map ci)⟩ ⟨false, et, .flat (l.map ci)⟩ := by
  refine ⟨rfl, rfl, fun E E' arr h k c hc => ?_, fun h => by cases h⟩
  obtain ⟨x, hx, hi⟩ := h k c hc
  refine ⟨x, hx, hi.noId ?_⟩
  rw [nth_eq, List.getElem?_map] at hc
  cases hl : l[k]? with
  | none => rw [hl] at hc; cases hc
  | some z => rw [hl] at hc; injection hc with hc; subst hc; rfl
/-- a list of n rows of m numbers, that lies by itself -/
def rowsOf (h : Hp) (m n : Nat) : A → Option (List Int)
  | .one (.sl true id 0 m' 0 n') => match Nat.beq m m' && Nat.beq n n', h.blk id with
    | true, some ⟨false, _, .flat cs⟩ => match intsC cs with
      | some l => match Nat.beq l.length (n * m) with
        | true => some l
        | false => none
      | none => none
    | _, _ => none
  | _ => none
theorem rowsOf_spec {h : Hp} {m n : Nat} {a : A} {l : List Int} (hl : rowsOf h m n a = some l) : ∃ id et, a = .one (.sl true id 0 m 0 n) ∧ h.blk id = some ⟨false, et, .flat (l.map ci)⟩ ∧ l.length = n * m := by
  unfold rowsOf at hl
  split at hl
  · rename_i id m' n'
    split at hl
    · rename_i et cs hc hb
      split at hl
      · rename_i l' hi
        split at hl
        · rename_i hn
          injection hl with hl; subst hl
          rw [Bool.and_eq_true] at hc
          obtain rfl := Nat.eq_of_beq_eq_true hc.1
          obtain rfl := Nat.eq_of_beq_eq_true hc.2
          rw [intsC_eq hi] at hb
          exact ⟨id, et, rfl, hb, Nat.eq_of_beq_eq_true hn⟩
        · cases hl
      · cases hl
    · cases hl
  · cases hl
/-- at a list of rows of numbers and other arguments that bear no names: this value, memory as it was -/
def specR (m n : Nat) (more : List A) (F : List Int → A) : Spec := fun args h => match args with
  | a :: rest => match rowsOf h m n a, eqFs2 rest more with
    | some l, true => .leaf (F l, h)
    | _, _ => .fail 333
  | _ => .fail 333
where
  eqFs2 : List A → List A → Bool
    | [], [] => true
    | .one (.fn f []) :: xs, .one (.fn g []) :: ys => Nat.beq f g && eqFs2 xs ys
    | _, _ => false
theorem eqFs2_eq : ∀ {xs ys : List A}, specR.eqFs2 xs ys = true → xs = ys ∧ xs.all A.noId = true
  | [], [], _ => ⟨rfl, rfl⟩
  | x :: xs, ys, h => by
    unfold specR.eqFs2 at h
    split at h
    · rename_i e; cases e
    · rename_i f xs' g ys' e
      obtain ⟨rfl, rfl⟩ := List.cons.inj e
      rw [Bool.and_eq_true] at h
      obtain ⟨h1, h2⟩ := eqFs2_eq h.2
      subst h1
      obtain rfl := Nat.eq_of_beq_eq_true h.1
      exact ⟨rfl, by simpa [A.noId, C.noId] using h2⟩
    · cases h
  | [], _ :: _, h => by cases h
theorem specR_ok {P : Program} {f : FuncId} {m n : Nat} {more : List A} {F : List Int → A} (hv : ∀ l, (F l).noId = true)
    (hc : ∀ (l : List Int) (et : TypeId), l.length = n * m → CallAt P f (.one (.sl true 0 0 m 0 n) :: more) (hpL [⟨false, et, .flat (l.map ci)⟩] []) (F l) (hpL [⟨false, et, .flat (l.map ci)⟩] [])) : SpecOk P f (specR m n more F) := by
  intro args h v h' hr E w vals rh hargs
  unfold specR at hr
  split at hr
  · rename_i a rest
    split at hr
    · rename_i l hl hq
      simp only [Tree.run, Option.some.injEq, Prod.mk.injEq] at hr
      obtain ⟨rfl, rfl⟩ := hr
      obtain ⟨id, et, rfl, hb, hlen⟩ := rowsOf_spec hl
      obtain ⟨rfl, hno⟩ := eqFs2_eq hq
      match vals, hargs with
      | y :: ys, ⟨hy, hys⟩ =>
        refine lift_sub (ids := [id]) (hc l et hlen) (hv l) rh rfl (by simp [lim]) (by simp) (fun i id' b1 hi hb1 => ?_) (fun g i hg => by cases hg) ⟨?_, all_noId hys hno⟩
        · cases i with
          | zero =>
            injection hi with hi; subst hi
            injection hb1 with hb1; subst hb1
            exact ⟨_, hb, sub_flat⟩
          | succ i => cases hi
        · obtain ⟨bn, s, o, cap, hE, r⟩ := hy
          exact ⟨bn, s, o, cap, hE, r⟩
    · cases hr
  · cases hr

/-! ### CheckRays of two rays -/
def raysQV : List Int → A
  | [ax, ay, az, bx, by', bz] => int (firstZ [qrayErr ax ay az, qrayErr bx by' bz])
  | _ => int 0
theorem raysQ_run (ax ay az bx by' bz : Int) (et : TypeId) : (evFun Tryz.prog (tabOf tb_meetQ) modes 100 15 [.one (.sl true 0 0 3 0 2)] (hpL [⟨false, et, .flat ([ax, ay, az, bx, by', bz].map ci)⟩] [])).run =
    some (raysQV [ax, ay, az, bx, by', bz], hpL [⟨false, et, .flat ([ax, ay, az, bx, by', bz].map ci)⟩] []) := by
  have h : (evFun Tryz.prog (tabOf tb_meetQ) modes 100 15 [.one (.sl true 0 0 3 0 2)] (hpL [⟨false, et, .flat ([ax, ay, az, bx, by', bz].map ci)⟩] [])).run =
    (Tree.node (qrayErr ax ay az != 0) (.leaf (int (qrayErr ax ay az), hpL [⟨false, et, .flat ([ax, ay, az, bx, by', bz].map ci)⟩] [])) (.node (qrayErr bx by' bz != 0) (.leaf (int (qrayErr bx by' bz), hpL [⟨false, et, .flat ([ax, ay, az, bx, by', bz].map ci)⟩] [])) (.leaf (int 0, hpL [⟨false, et, .flat ([ax, ay, az, bx, by', bz].map ci)⟩] [])))).run := by kernel_rfl
  rw [h]
  simp only [raysQV, firstZ]
  cases (qrayErr ax ay az != 0) <;> cases (qrayErr bx by' bz != 0) <;> rfl
theorem raysQ_ok : SpecOk Tryz.prog 15 (specR 3 2 [] raysQV) := specR_ok (fun l => by unfold raysQV; split <;> rfl) fun l et hl => match l, hl with
  | [ax, ay, az, bx, by', bz], _ => call_ev tb_meetQ_ok (raysQ_run ax ay az bx by' bz et)

/-! ### is one of three vectors too long for a turn -/
def wideV : List Int → A
  | [x, y, z, ax, ay, az, bx, by', bz] => boo (decide (256 < farW x y z) || (decide (256 < farW ax ay az) || decide (256 < farW bx by' bz)))
  | _ => boo false
theorem wide_run (x y z ax ay az bx by' bz : Int) (et : TypeId) : (evFun Tryz.prog (tabOf tb_meetQ) modes 100 62 [.one (.sl true 0 0 3 0 3), .one (.fn 63 [])] (hpL [⟨false, et, .flat ([x, y, z, ax, ay, az, bx, by', bz].map ci)⟩] [])).run =
    some (wideV [x, y, z, ax, ay, az, bx, by', bz], hpL [⟨false, et, .flat ([x, y, z, ax, ay, az, bx, by', bz].map ci)⟩] []) := by
  have h : (evFun Tryz.prog (tabOf tb_meetQ) modes 100 62 [.one (.sl true 0 0 3 0 3), .one (.fn 63 [])] (hpL [⟨false, et, .flat ([x, y, z, ax, ay, az, bx, by', bz].map ci)⟩] [])).run =
    (Tree.node (decide (256 < farW x y z)) (.leaf (boo true, hpL [⟨false, et, .flat ([x, y, z, ax, ay, az, bx, by', bz].map ci)⟩] [])) (.node (decide (256 < farW ax ay az)) (.leaf (boo true, hpL [⟨false, et, .flat ([x, y, z, ax, ay, az, bx, by', bz].map ci)⟩] [])) (.node (decide (256 < farW bx by' bz)) (.leaf (boo true, hpL [⟨false, et, .flat ([x, y, z, ax, ay, az, bx, by', bz].map ci)⟩] [])) (.leaf (boo false, hpL [⟨false, et, .flat ([x, y, z, ax, ay, az, bx, by', bz].map ci)⟩] []))))).run := by kernel_rfl
  rw [h]
  simp only [wideV]
  cases decide (256 < farW x y z) <;> cases decide (256 < farW ax ay az) <;> cases decide (256 < farW bx by' bz) <;> rfl
theorem wide_ok : SpecOk Tryz.prog 62 (specR 3 3 [.one (.fn 63 [])] wideV) := specR_ok (fun l => by unfold wideV; split <;> rfl) fun l et hl => match l, hl with
  | [x, y, z, ax, ay, az, bx, by', bz], _ => call_ev tb_meetQ_ok (wide_run x y z ax ay az bx by' bz et)

def tb_rays : List (FuncId × Spec) := (15, specR 3 2 [] raysQV) :: tb_meetQ
theorem tb_rays_ok : TabOk Tryz.prog (tabOf tb_rays) := tab_cons tb_meetQ_ok raysQ_ok
def tb_wide : List (FuncId × Spec) := (62, specR 3 3 [.one (.fn 63 [])] wideV) :: tb_rays
theorem tb_wide_ok : TabOk Tryz.prog (tabOf tb_wide) := tab_cons tb_rays_ok wide_ok

/-! ### spillage/sun.Meets -/
def meetsV : List Int → List Bool → A
  | [x, y, z, num, den, ax, ay, az, bx, by', bz], [] => .tup [(false, [.lit (.bool (!(meetErr x y z num den ax ay az bx by' bz != 0) && (!(turnErr x y z ax ay az bx by' bz != 0) && (insW x y z num den ax ay az || (insW x y z num den bx by' bz || btwW x y z num den ax ay az bx by' bz)))))]), (false, [ci (match meetErr x y z num den ax ay az bx by' bz != 0 with | true => meetErr x y z num den ax ay az bx by' bz | false => turnErr x y z ax ay az bx by' bz)])]
  | _, _ => int 0
theorem meets_run (x y z num den ax ay az bx by' bz : Int) : (evFun Tryz.prog (tabOf tb_wide) modes 100 11 (encA [.v 5, .v 3, .v 3] [x, y, z, num, den, ax, ay, az, bx, by', bz] []) hp0).run = some (.tup [(false, [.lit (.bool (!(meetErr x y z num den ax ay az bx by' bz != 0) && (!(turnErr x y z ax ay az bx by' bz != 0) && (insW x y z num den ax ay az || (insW x y z num den bx by' bz || btwW x y z num den ax ay az bx by' bz)))))]), (false, [ci (match meetErr x y z num den ax ay az bx by' bz != 0 with | true => meetErr x y z num den ax ay az bx by' bz | false => turnErr x y z ax ay az bx by' bz)])], hp0) := by
  have h : (evFun Tryz.prog (tabOf tb_wide) modes 100 11 (encA [.v 5, .v 3, .v 3] [x, y, z, num, den, ax, ay, az, bx, by', bz] []) hp0).run = (Tree.node (meetErr x y z num den ax ay az bx by' bz != 0) (.leaf (.tup [(false, [.lit (.bool false)]), (false, [ci (meetErr x y z num den ax ay az bx by' bz)])], hp0)) (.node (turnErr x y z ax ay az bx by' bz != 0) (.leaf (.tup [(false, [.lit (.bool false)]), (false, [ci (turnErr x y z ax ay az bx by' bz)])], hp0))
      (.node (insW x y z num den ax ay az) (.leaf (.tup [(false, [.lit (.bool true)]), (false, [ci 0])], hp0)) (.node (insW x y z num den bx by' bz) (.leaf (.tup [(false, [.lit (.bool true)]), (false, [ci 0])], hp0)) (.leaf (.tup [(false, [.lit (.bool (btwW x y z num den ax ay az bx by' bz))]), (false, [ci 0])], hp0)))))).run := by kernel_rfl
  rw [h]
  cases h1 : (meetErr x y z num den ax ay az bx by' bz != 0) with
  | true => rfl
  | false =>
    cases h2 : (turnErr x y z ax ay az bx by' bz != 0) with
    | true => rfl
    | false =>
      have h2' : turnErr x y z ax ay az bx by' bz = 0 := by simpa using h2
      rw [h2']
      cases insW x y z num den ax ay az <;> cases insW x y z num den bx by' bz <;> rfl
theorem meets_ok : SpecOk Tryz.prog 11 (specI [.v 5, .v 3, .v 3] (fun _ _ => true) meetsV) := specI_ok (fun l m => by unfold meetsV; split <;> rfl) fun l m hl hm _ => match l, m, hl, hm with
  | [x, y, z, num, den, ax, ay, az, bx, by', bz], [], _, _ => call_ev tb_wide_ok (meets_run x y z num den ax ay az bx by' bz)
def tb_meets : List (FuncId × Spec) := (11, specI [.v 5, .v 3, .v 3] (fun _ _ => true) meetsV) :: tb_wide
theorem tb_meets_ok : TabOk Tryz.prog (tabOf tb_meets) := tab_cons tb_wide_ok meets_ok
end Go.Ev
