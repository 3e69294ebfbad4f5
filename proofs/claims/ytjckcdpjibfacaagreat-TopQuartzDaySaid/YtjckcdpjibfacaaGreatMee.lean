/- Entries: opposite directions, the meeting of a way and a cone, cosines. Conditions: as the entries say. (Turned by mkmee.py from the texts of the sun laws.) -/
import Derived.Test.YtjckcdpjibfacaaGreatVec4
namespace Go.Ev
open Go Go.Proofs
def redQV : List Int → List Bool → A
 | [x, y, z], [] => vec (qred x y z x) (qred x y z y) (qred x y z z)
 | _, _ => int 0
def redQK : List Int → List Bool → Bool
 | [x, y, z], [] => in3 x y z
 | _, _ => false
theorem redQ_run (x y z : Int) (hok : (in3 x y z) = true) : (evFun Tryz.prog (tabOf tb_tiny) modes 100 35 (encA [.v 3] [x, y, z] []) hp0).run = some (vec (qred x y z x) (qred x y z y) (qred x y z z), hp0) := by
 obtain ⟨hx, hy, hz⟩ := in3_iff hok
 have h : (evFun Tryz.prog (tabOf tb_tiny) modes 100 35 (encA [.v 3] [x, y, z] []) hp0).run = (Tree.need (in63 z && in63 0) (.node (x != 0) (.need (in63 x && in63 y) (.need (in63 (gcd1 x y) && in63 z) (.need (!(gcd1 (gcd1 x y) z == 0)) (.need (!(gcd1 (gcd1 x y) z == 0)) (.need (!(gcd1 (gcd1 x y) z == 0)) (.leaf (vec (w64 (x.tdiv (gcd1 (gcd1 x y) z))) (w64 (y.tdiv (gcd1 (gcd1 x y) z))) (w64 (z.tdiv (gcd1 (gcd1 x y) z))), hp0))))))) (.node (y != 0) (.need (in63 x && in63 y) (.need (in63 (gcd1 x y) && in63 z) (.need (!(gcd1 (gcd1 x y) z == 0)) (.need (!(gcd1 (gcd1 x y) z == 0)) (.need (!(gcd1 (gcd1 x y) z == 0)) (.leaf (vec (w64 (x.tdiv (gcd1 (gcd1 x y) z))) (w64 (y.tdiv (gcd1 (gcd1 x y) z))) (w64 (z.tdiv (gcd1 (gcd1 x y) z))), hp0))))))) (.need (!(gcd1 z 0 == 0)) (.need (!(gcd1 z 0 == 0)) (.need (!(gcd1 z 0 == 0)) (.leaf (vec (w64 (x.tdiv (gcd1 z 0))) (w64 (y.tdiv (gcd1 z 0))) (w64 (z.tdiv (gcd1 z 0))), hp0)))))))).run := by kernel_rfl
 rw [h]
 unfold qred qd
 simp only [Tree.run, hx, hy, hz, in63_0, gcd1_in hx hy, gcd1_ne, Bool.and_self]
 cases (x != 0) <;> cases (y != 0) <;> rfl
theorem redQ_ok : SpecOk Tryz.prog 35 (specI [.v 3] (redQK) redQV) := specI_ok (fun l m => by unfold redQV; split <;> rfl) fun l m hl hm hok => match l, m, hl, hm, hok with
 | [x, y, z], [], _, _, hok => call_ev tb_tiny_ok (redQ_run x y z hok)
def tb_redQ : List (FuncId × Spec) := (35, specI [.v 3] (redQK) redQV) :: tb_tiny
theorem tb_redQ_ok : TabOk Tryz.prog (tabOf tb_redQ) := tab_cons tb_tiny_ok redQ_ok
def timesQV : List Int → List Bool → A
 | [x, y, z, m], [] => vec (w64 (x * m)) (w64 (y * m)) (w64 (z * m))
 | _, _ => int 0
theorem timesQ_run (x y z m : Int) : (evFun Tryz.prog (tabOf tb_redQ) modes 100 36 (encA [.v 3, .i] [x, y, z, m] []) hp0).run = some (vec (w64 (x * m)) (w64 (y * m)) (w64 (z * m)), hp0) := by kernel_rfl
theorem timesQ_ok : SpecOk Tryz.prog 36 (specI [.v 3, .i] (fun _ _ => true) timesQV) := specI_ok (fun l m => by unfold timesQV; split <;> rfl) fun l m hl hm _ => match l, m, hl, hm with
 | [x, y, z, m], [], _, _ => call_ev tb_redQ_ok (timesQ_run x y z m)
def tb_timesQ : List (FuncId × Spec) := (36, specI [.v 3, .i] (fun _ _ => true) timesQV) :: tb_redQ
theorem tb_timesQ_ok : TabOk Tryz.prog (tabOf tb_timesQ) := tab_cons tb_redQ_ok timesQ_ok
def oppQV : List Int → List Bool → A
 | [ax, ay, az, bx, by', bz], [] => boo (qopp ax ay az bx by' bz)
 | _, _ => int 0
def oppQK : List Int → List Bool → Bool
 | [ax, ay, az, bx, by', bz], [] => in3 ax ay az && in3 bx by' bz
 | _, _ => false
theorem oppQ_run (ax ay az bx by' bz : Int) (hok : (in3 ax ay az && in3 bx by' bz) = true) : (evFun Tryz.prog (tabOf tb_timesQ) modes 100 11 (encA [.v 3, .v 3] [ax, ay, az, bx, by', bz] []) hp0).run = some (boo (qopp ax ay az bx by' bz), hp0) := by
 have h : (evFun Tryz.prog (tabOf tb_timesQ) modes 100 11 (encA [.v 3, .v 3] [ax, ay, az, bx, by', bz] []) hp0).run = (Tree.need (in3 ax ay az) (.need (in3 bx by' bz) (.leaf (boo (qopp ax ay az bx by' bz), hp0)))).run := by kernel_rfl
 rw [Bool.and_eq_true] at hok
 rw [h]; simp only [Tree.run, hok.1, hok.2]
theorem oppQ_ok : SpecOk Tryz.prog 11 (specI [.v 3, .v 3] (oppQK) oppQV) := specI_ok (fun l m => by unfold oppQV; split <;> rfl) fun l m hl hm hok => match l, m, hl, hm, hok with
 | [ax, ay, az, bx, by', bz], [], _, _, hok => call_ev tb_timesQ_ok (oppQ_run ax ay az bx by' bz hok)
def tb_oppQ : List (FuncId × Spec) := (11, specI [.v 3, .v 3] (oppQK) oppQV) :: tb_timesQ
theorem tb_oppQ_ok : TabOk Tryz.prog (tabOf tb_oppQ) := tab_cons tb_timesQ_ok oppQ_ok
theorem sub_flat {et : TypeId} {l : List Int} : Sub ⟨false, et, .flat (l.map ci)⟩ ⟨false, et, .flat (l.map ci)⟩ := by
 refine ⟨rfl, fun _ => rfl, fun E E' arr h k c hc => ?_, fun h => (by cases h), rfl⟩
 obtain ⟨x, hx, hi⟩ := h k c hc
 refine ⟨x, hx, hi.noId ?_⟩
 rw [nth_eq, List.getElem?_map] at hc
 cases hl : l[k]? with
 | none => rw [hl] at hc; cases hc
 | some z => rw [hl] at hc; injection hc with hc; subst hc; rfl
def rowsOf (h : Hp) (m n : Nat) : A → Option (List Int)
 | .one (.sl true id 0 m' 0 n') => match Nat.beq m m' && Nat.beq n n', h.blk id with
  | true, some ⟨false, _, .flat cs⟩ => match intsC cs with
   | some l => match Nat.beq l.length (n * m) with
    | true => some l
    | false => none
   | none => none
  | _, _ => none
 | _ => none
theorem rowsOf_spec {h : Hp} {m n : Nat} {a : A} {l : List Int} (hl : rowsOf h m n a = some l) : ∃ id et, a = .one (.sl true id 0 m 0 n) ∧ h.blk id = some ⟨false, et, .flat (l.map ci)⟩ ∧ l.length = n * m := by
 unfold rowsOf at hl
 split at hl
 ·rename_i id m' n'
  split at hl
  ·rename_i et cs hc hb
   split at hl
   ·rename_i l' hi
    split at hl
    ·rename_i hn
     injection hl with hl; subst hl
     rw [Bool.and_eq_true] at hc
     obtain rfl := Nat.eq_of_beq_eq_true hc.1
     obtain rfl := Nat.eq_of_beq_eq_true hc.2
     rw [intsC_eq hi] at hb
     exact ⟨id, et, rfl, hb, Nat.eq_of_beq_eq_true hn⟩
    ·cases hl
   ·cases hl
  ·cases hl
 ·cases hl
def specR (m n : Nat) (more : List A) (F : List Int → A) : Spec := fun args h => match args with
 | a :: rest => match rowsOf h m n a, eqFs2 rest more with
  | some l, true => .leaf (F l, h)
  | _, _ => .fail 333
 | _ => .fail 333
where
 eqFs2 : List A → List A → Bool
  | [], [] => true
  | .one (.fn f []) :: xs, .one (.fn g []) :: ys => Nat.beq f g && eqFs2 xs ys
  | _, _ => false
theorem eqFs2_eq : ∀ {xs ys : List A}, specR.eqFs2 xs ys = true → xs = ys ∧ xs.all A.noId = true
 | [], [], _ => ⟨rfl, rfl⟩
 | x :: xs, ys, h => by
  unfold specR.eqFs2 at h
  split at h
  ·rename_i e; cases e
  ·rename_i f xs' g ys' e
   obtain ⟨rfl, rfl⟩ := List.cons.inj e
   rw [Bool.and_eq_true] at h
   obtain ⟨h1, h2⟩ := eqFs2_eq h.2
   subst h1
   obtain rfl := Nat.eq_of_beq_eq_true h.1
   exact ⟨rfl, by simpa [A.noId, C.noId] using h2⟩
  ·cases h
 | [], _ :: _, h => by cases h
theorem specR_ok {P : Program} {f : FuncId} {m n : Nat} {more : List A} {F : List Int → A} (hv : ∀ l, (F l).noId = true)
  (hc : ∀ (l : List Int) (et : TypeId), l.length = n * m → CallAt P f (.one (.sl true 0 0 m 0 n) :: more) (hpL [⟨false, et, .flat (l.map ci)⟩] []) (F l) (hpL [⟨false, et, .flat (l.map ci)⟩] [])) : SpecOk P f (specR m n more F) := by
 intro args h v h' hr E w vals rh hargs
 unfold specR at hr
 split at hr
 ·rename_i a rest
  split at hr
  ·rename_i l hl hq
   simp only [Tree.run, Option.some.injEq, Prod.mk.injEq] at hr
   obtain ⟨rfl, rfl⟩ := hr
   obtain ⟨id, et, rfl, hb, hlen⟩ := rowsOf_spec hl
   obtain ⟨rfl, hno⟩ := eqFs2_eq hq
   match vals, hargs with
   | y :: ys, ⟨hy, hys⟩ =>
    refine lift_sub (ids := [id]) (hc l et hlen) (hv l) rh rfl (by simp [lim]) (by simp) (fun i id' b1 hi hb1 => ?_) (fun g i hg => by cases hg) ⟨?_, all_noId hys hno⟩
    ·cases i with
     | zero =>
      injection hi with hi; subst hi
      injection hb1 with hb1; subst hb1
      exact ⟨_, hb, sub_flat⟩
     | succ i => cases hi
    ·rcases hy with ⟨bn, s, o, cap, hE, r⟩ | ⟨e, _⟩
     ·exact .inl ⟨bn, s, o, cap, hE, r⟩
     ·cases e
  ·cases hr
 ·cases hr
def wideV : List Int → A
 | [x, y, z, ax, ay, az, bx, by', bz] => boo (decide (256 < farW x y z) || (decide (256 < farW ax ay az) || decide (256 < farW bx by' bz)))
 | _ => boo false
theorem wide_run (x y z ax ay az bx by' bz : Int) (et : TypeId) : (evFun Tryz.prog (tabOf tb_oppQ) modes 100 41 [.one (.sl true 0 0 3 0 3), .one (.fn 42 [])] (hpL [⟨false, et, .flat ([x, y, z, ax, ay, az, bx, by', bz].map ci)⟩] [])).run =
  some (wideV [x, y, z, ax, ay, az, bx, by', bz], hpL [⟨false, et, .flat ([x, y, z, ax, ay, az, bx, by', bz].map ci)⟩] []) := by
 have h : (evFun Tryz.prog (tabOf tb_oppQ) modes 100 41 [.one (.sl true 0 0 3 0 3), .one (.fn 42 [])] (hpL [⟨false, et, .flat ([x, y, z, ax, ay, az, bx, by', bz].map ci)⟩] [])).run =
  (Tree.node (decide (256 < farW x y z)) (.leaf (boo true, hpL [⟨false, et, .flat ([x, y, z, ax, ay, az, bx, by', bz].map ci)⟩] [])) (.node (decide (256 < farW ax ay az)) (.leaf (boo true, hpL [⟨false, et, .flat ([x, y, z, ax, ay, az, bx, by', bz].map ci)⟩] [])) (.node (decide (256 < farW bx by' bz)) (.leaf (boo true, hpL [⟨false, et, .flat ([x, y, z, ax, ay, az, bx, by', bz].map ci)⟩] [])) (.leaf (boo false, hpL [⟨false, et, .flat ([x, y, z, ax, ay, az, bx, by', bz].map ci)⟩] []))))).run := by kernel_rfl
 rw [h]
 simp only [wideV]
 cases decide (256 < farW x y z) <;> cases decide (256 < farW ax ay az) <;> cases decide (256 < farW bx by' bz) <;> rfl
theorem wide_ok : SpecOk Tryz.prog 41 (specR 3 3 [.one (.fn 42 [])] wideV) := specR_ok (fun l => by unfold wideV; split <;> rfl) fun l et hl => match l, hl with
 | [x, y, z, ax, ay, az, bx, by', bz], _ => call_ev tb_oppQ_ok (wide_run x y z ax ay az bx by' bz et)
def tb_wide : List (FuncId × Spec) := (41, specR 3 3 [.one (.fn 42 [])] wideV) :: tb_oppQ
theorem tb_wide_ok : TabOk Tryz.prog (tabOf tb_wide) := tab_cons tb_oppQ_ok wide_ok
def meetsV : List Int → List Bool → A
 | [x, y, z, num, den, ax, ay, az, bx, by', bz], [] => .tup [(false, [.lit (.bool (!(meetErr x y z num den ax ay az bx by' bz != 0) && (!(turnErr x y z ax ay az bx by' bz != 0) && (insW x y z num den ax ay az || (insW x y z num den bx by' bz || btwW x y z num den ax ay az bx by' bz)))))]), (false, [ci (match meetErr x y z num den ax ay az bx by' bz != 0 with | true => meetErr x y z num den ax ay az bx by' bz | false => turnErr x y z ax ay az bx by' bz)])]
 | _, _ => int 0
theorem meets_run (x y z num den ax ay az bx by' bz : Int) : (evFun Tryz.prog (tabOf tb_wide) modes 100 13 (encA [.v 5, .v 3, .v 3] [x, y, z, num, den, ax, ay, az, bx, by', bz] []) hp0).run = some (.tup [(false, [.lit (.bool (!(meetErr x y z num den ax ay az bx by' bz != 0) && (!(turnErr x y z ax ay az bx by' bz != 0) && (insW x y z num den ax ay az || (insW x y z num den bx by' bz || btwW x y z num den ax ay az bx by' bz)))))]), (false, [ci (match meetErr x y z num den ax ay az bx by' bz != 0 with | true => meetErr x y z num den ax ay az bx by' bz | false => turnErr x y z ax ay az bx by' bz)])], hp0) := by
 have h : (evFun Tryz.prog (tabOf tb_wide) modes 100 13 (encA [.v 5, .v 3, .v 3] [x, y, z, num, den, ax, ay, az, bx, by', bz] []) hp0).run = (Tree.node (meetErr x y z num den ax ay az bx by' bz != 0) (.leaf (.tup [(false, [.lit (.bool false)]), (false, [ci (meetErr x y z num den ax ay az bx by' bz)])], hp0)) (.node (turnErr x y z ax ay az bx by' bz != 0) (.leaf (.tup [(false, [.lit (.bool false)]), (false, [ci (turnErr x y z ax ay az bx by' bz)])], hp0))
   (.node (insW x y z num den ax ay az) (.leaf (.tup [(false, [.lit (.bool true)]), (false, [ci 0])], hp0)) (.node (insW x y z num den bx by' bz) (.leaf (.tup [(false, [.lit (.bool true)]), (false, [ci 0])], hp0)) (.leaf (.tup [(false, [.lit (.bool (btwW x y z num den ax ay az bx by' bz))]), (false, [ci 0])], hp0)))))).run := by kernel_rfl
 rw [h]
 cases h1 : (meetErr x y z num den ax ay az bx by' bz != 0) with
 | true => rfl
 | false =>
  cases h2 : (turnErr x y z ax ay az bx by' bz != 0) with
  | true => rfl
  | false =>
   have h2' : turnErr x y z ax ay az bx by' bz = 0 := by simpa using h2
   rw [h2']
   cases insW x y z num den ax ay az <;> cases insW x y z num den bx by' bz <;> rfl
theorem meets_ok : SpecOk Tryz.prog 13 (specI [.v 5, .v 3, .v 3] (fun _ _ => true) meetsV) := specI_ok (fun l m => by unfold meetsV; split <;> rfl) fun l m hl hm _ => match l, m, hl, hm with
 | [x, y, z, num, den, ax, ay, az, bx, by', bz], [], _, _ => call_ev tb_wide_ok (meets_run x y z num den ax ay az bx by' bz)
def tb_meets : List (FuncId × Spec) := (13, specI [.v 5, .v 3, .v 3] (fun _ _ => true) meetsV) :: tb_wide
theorem tb_meets_ok : TabOk Tryz.prog (tabOf tb_meets) := tab_cons tb_wide_ok meets_ok
def only0 (e a : Int) : Int := match e != 0 with | true => 0 | false => a
def raysErr (ax ay az bx by' bz : Int) : Int := firstZ [rayErr ax ay az, rayErr bx by' bz]
def signW (n : Int) : Int := match decide (0 < n) with | true => 1 | false => match decide (n < 0) with | true => -1 | false => 0
def rtW (num den a : Int) : Int := w64 (a.tdiv (Int.gcd num den))
def rtK (num den : Int) : Bool := decide (0 < den) && (in63 num && in63 den)
def coN (ax ay az bx by' bz : Int) : Int := w64 (dotW ax ay az bx by' bz * dotW ax ay az bx by' bz)
def coD (ax ay az bx by' bz : Int) : Int := w64 (dotW ax ay az ax ay az * dotW bx by' bz bx by' bz)
theorem raysErr_zero {ax ay az bx b2 bz : Int} : raysErr ax ay az bx b2 bz = 0 ↔ Ray ax ay az ∧ Ray bx b2 bz := by
 unfold raysErr
 rw [firstZ_zero]
 simp only [List.mem_cons, List.not_mem_nil, or_false, forall_eq_or_imp, forall_eq, ray_zero]
theorem gcd_ne {num den : Int} (h : 0 < den) : (!(((Int.gcd num den : Nat) : Int) == 0)) = true := by
 have : Int.gcd num den ≠ 0 := fun e => by rw [Int.gcd_eq_zero_iff] at e; omega
 simpa using this
theorem co_K {ax ay az bx b2 bz : Int} (h : raysErr ax ay az bx b2 bz = 0) : coN ax ay az bx b2 bz = (ax * bx + ay * b2 + az * bz) * (ax * bx + ay * b2 + az * bz) ∧ coD ax ay az bx b2 bz = (ax * ax + ay * ay + az * az) * (bx * bx + b2 * b2 + bz * bz) ∧ rtK (coN ax ay az bx b2 bz) (coD ax ay az bx b2 bz) = true := by
 obtain ⟨⟨ha, ha0⟩, hb, hb0⟩ := raysErr_zero.1 h
 obtain ⟨d1, d2⟩ := dot_eq ha hb (by decide)
 obtain ⟨a1, a2⟩ := dot_eq ha ha (by decide)
 obtain ⟨b1, b2'⟩ := dot_eq hb hb (by decide)
 have pa := ray_sq ha ha0
 have pb := ray_sq hb hb0
 unfold rtK coN coD
 rw [d1, a1, b1]
 generalize ax * bx + ay * b2 + az * bz = p at d2 ⊢
 generalize ax * ax + ay * ay + az * az = q at a2 pa ⊢
 generalize bx * bx + b2 * b2 + bz * bz = r at b2' pb ⊢
 have m1 := mul_bd d2 d2
 have m2 := mul_bd a2 b2'
 have m3 := Int.mul_pos pa.1 pb.1
 rw [w64_id (n := p * p) (by omega), w64_id (n := q * r) (by omega)]
 refine ⟨rfl, rfl, ?_⟩
 rw [Bool.and_eq_true, Bool.and_eq_true, in63_iff, in63_iff, decide_eq_true_eq]
 omega
def signV : List Int → List Bool → A
 | [n], [] => int (signW n)
 | _, _ => int 0
theorem sign_run (n : Int) : (evFun Tryz.prog (tabOf tb_meets) modes 100 51 (encA [.i] [n] []) hp0).run = some (int (signW n), hp0) := by
 have h : (evFun Tryz.prog (tabOf tb_meets) modes 100 51 (encA [.i] [n] []) hp0).run = (Tree.node (decide (0 < n)) (.leaf (int 1, hp0)) (.node (decide (n < 0)) (.leaf (int (-1), hp0)) (.leaf (int 0, hp0)))).run := by kernel_rfl
 rw [h]
 unfold signW
 cases decide (0 < n) <;> cases decide (n < 0) <;> rfl
theorem sign_ok : SpecOk Tryz.prog 51 (specI [.i] (fun _ _ => true) signV) := specI_ok (fun l m => by unfold signV; split <;> rfl) fun l m hl hm _ => match l, m, hl, hm with
 | [n], [], _, _ => call_ev tb_meets_ok (sign_run n)
def tb_sign : List (FuncId × Spec) := (51, specI [.i] (fun _ _ => true) signV) :: tb_meets
theorem tb_sign_ok : TabOk Tryz.prog (tabOf tb_sign) := tab_cons tb_meets_ok sign_ok
def ratioV : List Int → List Bool → A
 | [num, den], [] => .agg [ci (rtW num den num), ci (rtW num den den)]
 | _, _ => int 0
def ratioK : List Int → List Bool → Bool
 | [num, den], [] => rtK num den
 | _, _ => false
theorem ratio_run (num den : Int) (hok : (rtK num den) = true) : (evFun Tryz.prog (tabOf tb_sign) modes 100 52 (encA [.i, .i] [num, den] []) hp0).run = some (.agg [ci (rtW num den num), ci (rtW num den den)], hp0) := by
 have hk := hok
 unfold rtK at hk
 rw [Bool.and_eq_true, Bool.and_eq_true, decide_eq_true_eq] at hk
 obtain ⟨hd, hn1, hd1⟩ := hk
 have h : (evFun Tryz.prog (tabOf tb_sign) modes 100 52 (encA [.i, .i] [num, den] []) hp0).run = (Tree.node (decide (den < 0)) (.need (Nat.blt (Int.gcd (w64 (0 - num)) (w64 (0 - den))) 9223372036854775808) (.need (!(((Int.gcd (w64 (0 - num)) (w64 (0 - den)) : Nat) : Int) == 0)) (.need (!(((Int.gcd (w64 (0 - num)) (w64 (0 - den)) : Nat) : Int) == 0))
   (.leaf (.agg [ci (rtW (w64 (0 - num)) (w64 (0 - den)) (w64 (0 - num))), ci (rtW (w64 (0 - num)) (w64 (0 - den)) (w64 (0 - den)))], hp0)))))
  (.need (Nat.blt (Int.gcd num den) 9223372036854775808) (.need (!(((Int.gcd num den : Nat) : Int) == 0)) (.need (!(((Int.gcd num den : Nat) : Int) == 0)) (.leaf (.agg [ci (rtW num den num), ci (rtW num den den)], hp0)))))).run := by kernel_rfl
 rw [h]
 have hd2 : decide (den < 0) = false := decide_eq_false (by omega)
 simp only [Tree.run, hd2, gcd_blt hn1 hd1, gcd_ne (num := num) hd]
theorem ratio_ok : SpecOk Tryz.prog 52 (specI [.i, .i] (ratioK) ratioV) := specI_ok (fun l m => by unfold ratioV; split <;> rfl) fun l m hl hm hok => match l, m, hl, hm, hok with
 | [num, den], [], _, _, hok => call_ev tb_sign_ok (ratio_run num den hok)
def tb_ratio : List (FuncId × Spec) := (52, specI [.i, .i] (ratioK) ratioV) :: tb_sign
theorem tb_ratio_ok : TabOk Tryz.prog (tabOf tb_ratio) := tab_cons tb_sign_ok ratio_ok
def CosV : List Int → List Bool → A
 | [ax, ay, az, bx, by', bz], [] => .tup [(false, [ci (only0 (raysErr ax ay az bx by' bz) (signW (dotW ax ay az bx by' bz)))]), (true, [ci (only0 (raysErr ax ay az bx by' bz) (rtW (coN ax ay az bx by' bz) (coD ax ay az bx by' bz) (coN ax ay az bx by' bz))), ci (only0 (raysErr ax ay az bx by' bz) (rtW (coN ax ay az bx by' bz) (coD ax ay az bx by' bz) (coD ax ay az bx by' bz)))]), (false, [ci (raysErr ax ay az bx by' bz)])]
 | _, _ => int 0
theorem Cos_run (ax ay az bx by' bz : Int) : (evFun Tryz.prog (tabOf tb_ratio) modes 100 18 (encA [.v 3, .v 3] [ax, ay, az, bx, by', bz] []) hp0).run = some (.tup [(false, [ci (only0 (raysErr ax ay az bx by' bz) (signW (dotW ax ay az bx by' bz)))]), (true, [ci (only0 (raysErr ax ay az bx by' bz) (rtW (coN ax ay az bx by' bz) (coD ax ay az bx by' bz) (coN ax ay az bx by' bz))), ci (only0 (raysErr ax ay az bx by' bz) (rtW (coN ax ay az bx by' bz) (coD ax ay az bx by' bz) (coD ax ay az bx by' bz)))]), (false, [ci (raysErr ax ay az bx by' bz)])], hp0) := by
 have h : (evFun Tryz.prog (tabOf tb_ratio) modes 100 18 (encA [.v 3, .v 3] [ax, ay, az, bx, by', bz] []) hp0).run = (Tree.node (raysErr ax ay az bx by' bz != 0) (.leaf (.tup [(false, [ci (0)]), (true, [ci (0), ci (0)]), (false, [ci (raysErr ax ay az bx by' bz)])], hp0)) (.need (rtK (coN ax ay az bx by' bz) (coD ax ay az bx by' bz)) (.leaf (.tup [(false, [ci (signW (dotW ax ay az bx by' bz))]), (true, [ci (rtW (coN ax ay az bx by' bz) (coD ax ay az bx by' bz) (coN ax ay az bx by' bz)), ci (rtW (coN ax ay az bx by' bz) (coD ax ay az bx by' bz) (coD ax ay az bx by' bz))]), (false, [ci (0)])], hp0)))).run := by kernel_rfl
 rw [h]
 unfold only0
 cases he : (raysErr ax ay az bx by' bz != 0) with
 | true => rfl
 | false =>
  have he : raysErr ax ay az bx by' bz = 0 := by simpa using he
  simp only [Tree.run, (co_K he).2.2]
  rw [he]
theorem Cos_ok : SpecOk Tryz.prog 18 (specI [.v 3, .v 3] (fun _ _ => true) CosV) := specI_ok (fun l m => by unfold CosV; split <;> rfl) fun l m hl hm _ => match l, m, hl, hm with
 | [ax, ay, az, bx, by', bz], [], _, _ => call_ev tb_ratio_ok (Cos_run ax ay az bx by' bz)
def tb_Cos : List (FuncId × Spec) := (18, specI [.v 3, .v 3] (fun _ _ => true) CosV) :: tb_ratio
theorem tb_Cos_ok : TabOk Tryz.prog (tabOf tb_Cos) := tab_cons tb_ratio_ok Cos_ok
end Go.Ev
