/- Unbending: sketches. Conditions: none. -/
import Derived.Test.YtkalcencblhlgaaGreatDoorAir4
import Derived.Test.YtkalcencblhlgaaGreatDoorLn
namespace Go.Ev
open Go Go.RowKit Go.Proofs
set_option maxRecDepth 100000
section
variable (E : FA) (a b c : FO) (I : FI) (n : Nat) (f l : Nat → Int) (x y z : Int)
def uZ (k : Nat) : Int := w64 (w64 (64 * z) - w64 (zg0 l (ixN k) * flW x y))
def uW (p : Int → Int → Int → Int) (k : Nat) : Int := redA (w64 (64 * x)) (w64 (64 * y)) (uZ l x y z k) (p (w64 (64 * x)) (w64 (64 * y)) (uZ l x y z k))
def uC1 (k : Nat) : Bool := ((a n f l (uW l x y z p1 k) (uW l x y z p2 k) (uW l x y z p3 k) == zg0 f (ixN k)) && ((b n f l (uW l x y z p1 k) (uW l x y z p2 k) (uW l x y z p3 k) == zg0 l (ixN k)) && true)) && ((c n f l (uW l x y z p1 k) (uW l x y z p2 k) (uW l x y z p3 k) == zg2 (ixN k)) && true)
def uC2 (m : Nat) (u0 u1 u2 : Nat → Int) (k : Nat) : Bool := !decide (I m u0 u1 u2 (uW l x y z p1 k) (uW l x y z p2 k) (uW l x y z p3 k) ≥ 0)
def unG (u0 u1 u2 : Nat → Int) (k : Nat) : Nat → St
 | 0 => unN n f l [(0, slT 0 2 n), (3, pt 1), (7, .one (.sl true 2 0 3 0 1)), (27, .one (.sl true 3 0 3 0 (n + 1))), (28, int ((n + 1 : Nat) : Int)), (29, int (IntKind.i64.wrap ((k : Int) + 1)))] [vec3 29 x y z, vec3 29 (uW l x y z p1 k) (uW l x y z p2 k) (uW l x y z p3 k), zgT f l n]
 | q + 1 => unN n f l [(0, slT 0 2 n), (3, pt 1), (7, .one (.sl true 2 0 3 0 (q + 1 + 1))), (27, .one (.sl true 3 0 3 0 (n + 1))), (28, int ((n + 1 : Nat) : Int)), (29, int (IntKind.i64.wrap ((k : Int) + 1)))] [vec3 29 x y z, ⟨false, 29, .rows (q + 1 + 1) (vcC (putF u0 (q + 1) (uW l x y z p1 k)) (putF u1 (q + 1) (uW l x y z p2 k)) (putF u2 (q + 1) (uW l x y z p3 k)))⟩, zgT f l n]
noncomputable def unY (u0 u1 u2 : Nat → Int) (k : Nat) : Nat → SkX
 | 0 => .node (uC2 I l x y z 0 (fun _ => 0) (fun _ => 0) (fun _ => 0) k) (.leaf (.normal, unG n f l x y z u0 u1 u2 k 0)) (.leaf (.normal, unH n f l x y z u0 u1 u2 0 (IntKind.i64.wrap ((k : Int) + 1))))
 | q + 1 => .need (okV (q + 1)) (.need (Nat.ble (q + 1) 1000000) (.node (uC2 I l x y z (q + 1) u0 u1 u2 k) (.need (apN 29 q) (.leaf (.normal, unG n f l x y z u0 u1 u2 k (q + 1)))) (.leaf (.normal, unH n f l x y z u0 u1 u2 (q + 1) (IntKind.i64.wrap ((k : Int) + 1))))))
noncomputable def unS (u0 u1 u2 : Nat → Int) (m k : Nat) : SkX := .node (decide ((k : Int) < ((n + 1 : Nat) : Int))) (.need (kB (n + 1) k) (need3 (Nat.blt (ixN k) (n + 1)) (.nn (.need (redK [w64 (64 * x), w64 (64 * y), uZ l x y z k] []) (.need (okV n) (.need (Nat.ble n 1000000) (.node (uC1 a b c n f l x y z k)
 (unY I n f l x y z u0 u1 u2 k m) (.ff (.leaf (.normal, unH n f l x y z u0 u1 u2 m (IntKind.i64.wrap ((k : Int) + 1)))))))))))) (.leaf (.exit 0, unX n f l u0 u1 u2 m))
theorem un_i0 (u0 u1 u2 : Nat → Int) (k : Nat) : unT E a b c I n f l x y z u0 u1 u2 0 k = into (unT E a b c I n f l x y z u0 u1 u2 0 k) (unS a b c I n f l x y z u0 u1 u2 0 k) := by kernel_rfl
theorem un_f0 (u0 u1 u2 : Nat → Int) (k : Nat) : fits (unT E a b c I n f l x y z u0 u1 u2 0 k) (unS a b c I n f l x y z u0 u1 u2 0 k) = true := by kernel_rfl
theorem un_i1 (u0 u1 u2 : Nat → Int) (q k : Nat) : unT E a b c I n f l x y z u0 u1 u2 (q + 1) k = into (unT E a b c I n f l x y z u0 u1 u2 (q + 1) k) (unS a b c I n f l x y z u0 u1 u2 (q + 1) k) := by kernel_rfl
theorem un_f1 (u0 u1 u2 : Nat → Int) (q k : Nat) : fits (unT E a b c I n f l x y z u0 u1 u2 (q + 1) k) (unS a b c I n f l x y z u0 u1 u2 (q + 1) k) = true := by kernel_rfl
def unR (u : A) (e : Int) (W : List Blk) : St := unN n f l [(4, u), (5, int e)] W
noncomputable def unOS : SkO := .need (okN n) (.node (firstZ [E n f l, rayErr x y z] != 0) (.leaf (.inl (.ret, unR n f l (.one nilC) (firstZ [E n f l, rayErr x y z]) []))) (.node (flW x y == 0) (.need (redK [x, y, z] []) (.leaf (.inl (.ret, unR n f l (.one (.sl true 1 0 3 0 1)) 0 [vec3 29 (redA x y z x) (redA x y z y) (redA x y z z)]))))
 (.need (okN n) (.need (Nat.ble n 1000000) (.leaf (.inr (pathF Tryz.f32, unH n f l x y z (fun _ => 0) (fun _ => 0) (fun _ => 0) 0 ((0 : Nat) : Int))))))))
theorem unO_into : unO E a b c I n f l x y z = into (unO E a b c I n f l x y z) (unOS E n f l x y z) := by kernel_rfl
theorem unO_fits : fits (unO E a b c I n f l x y z) (unOS E n f l x y z) = true := by kernel_rfl
theorem unP_is (u0 u1 u2 : Nat → Int) : ∀ m, unP E a b c I n f l x y z (.exit 0, unX n f l u0 u1 u2 m) = .leaf (.inl (.ret, unR n f l (unA 1 m) 0 (unW u0 u1 u2 m)))
 | 0 => by kernel_rfl
 | q + 1 => by kernel_rfl
end
end Go.Ev
namespace Go.Ev
open Go Go.RowKit Go.Proofs
set_option maxRecDepth 100000
structure Ul where
 m : Nat
 u0 : Nat → Int
 u1 : Nat → Int
 u2 : Nat → Int
section
variable (n : Nat) (f l : Nat → Int) (x y z : Int)
def uAdd (s : Ul) (k : Nat) : Ul := ⟨s.m + 1, putF s.u0 s.m (uW l x y z p1 k), putF s.u1 s.m (uW l x y z p2 k), putF s.u2 s.m (uW l x y z p3 k)⟩
def uStep (s : Ul) (k : Nat) : Ul := match uC1 oA oB oC n f l x y z k && uC2 iV l x y z s.m s.u0 s.u1 s.u2 k with
 | true => uAdd l x y z s k
 | false => s
def uRec : Nat → Ul
 | 0 => ⟨0, fun _ => 0, fun _ => 0, fun _ => 0⟩
 | k + 1 => uStep n f l x y z (uRec k) k
theorem uRec_le : ∀ k, (uRec n f l x y z k).m ≤ k
 | 0 => Nat.le_refl _
 | k + 1 => by
  have := uRec_le k
  show (uStep n f l x y z (uRec n f l x y z k) k).m ≤ k + 1
  unfold uStep
  split
  ·show (uRec n f l x y z k).m + 1 ≤ k + 1; omega
  ·omega
def unHk (s : Ul) (k : Nat) : St := unH n f l x y z s.u0 s.u1 s.u2 s.m (k : Int)
def unXk (s : Ul) : St := unX n f l s.u0 s.u1 s.u2 s.m
theorem un_into : ∀ (m : Nat) (u0 u1 u2 : Nat → Int) (k : Nat), unT airE oA oB oC iV n f l x y z u0 u1 u2 m k = into (unT airE oA oB oC iV n f l x y z u0 u1 u2 m k) (unS oA oB oC iV n f l x y z u0 u1 u2 m k)
 | 0, u0, u1, u2, k => un_i0 airE oA oB oC iV n f l x y z u0 u1 u2 k
 | q + 1, u0, u1, u2, k => un_i1 airE oA oB oC iV n f l x y z u0 u1 u2 q k
theorem un_fits : ∀ (m : Nat) (u0 u1 u2 : Nat → Int) (k : Nat), fits (unT airE oA oB oC iV n f l x y z u0 u1 u2 m k) (unS oA oB oC iV n f l x y z u0 u1 u2 m k) = true
 | 0, u0, u1, u2, k => un_f0 airE oA oB oC iV n f l x y z u0 u1 u2 k
 | q + 1, u0, u1, u2, k => un_f1 airE oA oB oC iV n f l x y z u0 u1 u2 q k
theorem bytes_vec : ((Tryz.prog.info? 29).map (·.bytes)).getD 0 ≤ 64 := by
 rw [show ((Tryz.prog.info? 29).map (·.bytes)).getD 0 = 24 by kernel_rfl]; decide
theorem unG_le (s : Ul) (k : Nat) (hk : k ≤ 1000000) : (unG n f l x y z s.u0 s.u1 s.u2 k s.m).Le (unHk n f l x y z (uAdd l x y z s k) (k + 1)) := by
 obtain ⟨m, u0, u1, u2⟩ := s
 cases m with
 | zero =>
  unfold unHk unG
  rw [wrap_succ (by omega)]
  exact le_news (show 1 + 3 ≤ lim by decide) ⟨⟨rfl, fun _ _ _ h => h⟩, ⟨rfl, three_rows (g0 := putF u0 0 (uW l x y z p1 k)) (g1 := putF u1 0 (uW l x y z p2 k)) (g2 := putF u2 0 (uW l x y z p3 k)) (putF_same _ _ _).symm (putF_same _ _ _).symm (putF_same _ _ _).symm⟩, ⟨rfl, fun _ _ _ h => h⟩, trivial⟩
 | succ q =>
  unfold unHk unG
  rw [wrap_succ (by omega)]
  exact St.Le.refl _
theorem un_step (hn : n ≤ 1000) (h3 : ∀ k, k < n + 1 → in3 (w64 (64 * x)) (w64 (64 * y)) (uZ l x y z k) = true) (k : Nat) (hk : k < n + 1) :
  SkLeads (Rnd (fun k => unHk n f l x y z (uRec n f l x y z k) k) (fun _ => (.exit 0, unXk n f l (uRec n f l x y z (n + 1)))) k) (unS oA oB oC iV n f l x y z (uRec n f l x y z k).u0 (uRec n f l x y z k).u1 (uRec n f l x y z k).u2 (uRec n f l x y z k).m k) := by
 obtain ⟨e1, e2, e3⟩ := rnd_lt hk
 have hi : Nat.blt (ixN k) (n + 1) = true := e3
 have hm := uRec_le n f l x y z k
 have hS : uRec n f l x y z (k + 1) = uStep n f l x y z (uRec n f l x y z k) k := rfl
 generalize hs : uRec n f l x y z k = s at hm hS
 have no : (uC1 oA oB oC n f l x y z k && uC2 iV l x y z s.m s.u0 s.u1 s.u2 k) = false → (unH n f l x y z s.u0 s.u1 s.u2 s.m (IntKind.i64.wrap ((k : Int) + 1))).Le (unHk n f l x y z (uRec n f l x y z (k + 1)) (k + 1)) := fun h => by
  rw [hS, wrap_succ (by omega)]
  unfold uStep
  rw [h]
  exact St.Le.refl _
 have yes : (uC1 oA oB oC n f l x y z k && uC2 iV l x y z s.m s.u0 s.u1 s.u2 k) = true → (unG n f l x y z s.u0 s.u1 s.u2 k s.m).Le (unHk n f l x y z (uRec n f l x y z (k + 1)) (k + 1)) := fun h => by
  rw [hS]
  unfold uStep
  rw [h]
  exact unG_le n f l x y z s k (by omega)
 have hnn : Nat.ble n 1000000 = true := by rw [Nat.ble_eq]; omega
 refine sk_yes e1 (sk_need e2 (need3_ok hi (sk_nn (sk_need (h3 k hk) (sk_need (okV_ok n) (sk_need hnn (sk_either (fun h1 => ?_) fun h1 => sk_ff (sk_leaf (rnd_next (no (by rw [h1]; rfl)) rfl)))))))))
 obtain ⟨m, u0, u1, u2⟩ := s
 cases m with
 | zero =>
  refine sk_either (fun h2 => sk_leaf (rnd_next (yes ?_) rfl)) fun h2 => sk_leaf (rnd_next (no ?_) rfl)
  ·rw [h1]; exact h2
  ·rw [h1]; exact h2
 | succ q =>
  have hq : q + 1 ≤ k := hm
  refine sk_need (okV_ok _) (sk_need (by rw [Nat.ble_eq]; omega) (sk_either (fun h2 => sk_need (apN_ok bytes_vec (by omega)) (sk_leaf (rnd_next (yes ?_) rfl))) fun h2 => sk_leaf (rnd_next (no ?_) rfl)))
  ·rw [h1]; exact h2
  ·rw [h1]; exact h2
theorem un_last : SkLeads (RndEnd (.exit 0, unXk n f l (uRec n f l x y z (n + 1)))) (unS oA oB oC iV n f l x y z (uRec n f l x y z (n + 1)).u0 (uRec n f l x y z (n + 1)).u1 (uRec n f l x y z (n + 1)).u2 (uRec n f l x y z (n + 1)).m (n + 1)) := sk_no (rnd_end (n + 1)) (sk_leaf rfl)
theorem tbU_ok : TabOk Tryz.prog (tabOf (tbU airE oA oB oC iV)) := tab_cons (tab_cons (tab_cons (tab_cons tbF_ok vx_ok) zg_ok) of_ok) ca_ok
theorem reU_ok : RecOk Tryz.prog (reU airE oA oB oC iV) := recT_ok tbU_ok
theorem un_loop (hn : n ≤ 1000) (h3 : ∀ k, k < n + 1 → in3 (w64 (64 * x)) (w64 (64 * y)) (uZ l x y z k) = true) : ComesF Tryz.prog (.loop (loopF Tryz.f32)) (unB n f l x y z) (unH n f l x y z (fun _ => 0) (fun _ => 0) (fun _ => 0) 0 ((0 : Nat) : Int)) fun q => q = (.exit 0, unXk n f l (uRec n f l x y z (n + 1))) :=
 loop_count reU_ok rfl [0, 3, 7, 27, 28, 29] [7] (fun k => unHk n f l x y z (uRec n f l x y z k) k) (fun _ => (.exit 0, unXk n f l (uRec n f l x y z (n + 1)))) (n + 1) (fun k => unT airE oA oB oC iV n f l x y z (uRec n f l x y z k).u0 (uRec n f l x y z k).u1 (uRec n f l x y z k).u2 (uRec n f l x y z k).m k)
  (fun k => unS oA oB oC iV n f l x y z (uRec n f l x y z k).u0 (uRec n f l x y z k).u1 (uRec n f l x y z k).u2 (uRec n f l x y z k).m k) (fun k => by delta unT unHk; rfl) (fun k => un_into n f l x y z _ _ _ _ k) (fun k => un_fits n f l x y z _ _ _ _ k) (un_step n f l x y z hn h3) (un_last n f l x y z)
def uAll : Ul := match flW x y == 0 with
 | true => ⟨1, fun _ => redA x y z x, fun _ => redA x y z y, fun _ => redA x y z z⟩
 | false => uRec n f l x y z (n + 1)
def unK : Bool := Nat.ble n 1000 && ((firstZ [airE n f l, rayErr x y z] == 0) && (in3 x y z && (allK (fun k => in3 (w64 (64 * x)) (w64 (64 * y)) (uZ l x y z k)) (n + 1) && Nat.blt 0 (uAll n f l x y z).m)))
def unV (u : A) : A := match u with
 | .one s => .tup [(false, [s]), (false, [ci 0])]
 | _ => u
theorem un_left (u0 u1 u2 : Nat → Int) : ∀ m, Left2 Tryz.prog Tryz.f32 (arH n f l) (unV (unA 1 (m + 1))) (hpT [⟨some 0, n, stC f l⟩] [] (unW u0 u1 u2 (m + 1))) (.ret, unR n f l (unA 1 (m + 1)) 0 (unW u0 u1 u2 (m + 1)))
 | 0 => left_of (b := false) (by kernel_rfl)
 | q + 1 => left_of (b := false) (by kernel_rfl)
theorem un_left1 (a b c : Int) : Left2 Tryz.prog Tryz.f32 (arH n f l) (unV (unA 1 1)) (hpT [⟨some 0, n, stC f l⟩] [] [vec3 29 a b c]) (.ret, unR n f l (.one (.sl true 1 0 3 0 1)) 0 [vec3 29 a b c]) := left_of (b := false) (by kernel_rfl)
end
theorem un_call {n : Nat} {f l : Nat → Int} {x y z : Int} {m : Nat} (h : unK n f l x y z = true) (hm : (uAll n f l x y z).m = m + 1) : CallAt Tryz.prog 32 [slT 0 2 n, vec x y z] (arH n f l) (unV (unA 1 (m + 1))) (hpT [⟨some 0, n, stC f l⟩] [] (unW (uAll n f l x y z).u0 (uAll n f l x y z).u1 (uAll n f l x y z).u2 (m + 1))) := by
 unfold unK at h
 simp only [Bool.and_eq_true] at h
 obtain ⟨h1, h2, h3, h4, h5⟩ := h
 have h1 := Nat.le_of_ble_eq_true h1
 cases hf : flW x y == 0 with
 | true =>
  have e : uAll n f l x y z = ⟨1, fun _ => redA x y z x, fun _ => redA x y z y, fun _ => redA x y z z⟩ := by unfold uAll; rw [hf]
  rw [e] at hm ⊢
  obtain rfl : m = 0 := by simp only at hm; omega
  refine call_le (h' := hpT [⟨some 0, n, stC f l⟩] [] [vec3 29 (redA x y z x) (redA x y z y) (redA x y z z)]) ?_ (le_news (size := 0) (env := .nil) (kp := false) (show 1 + 1 ≤ lim by decide) ⟨⟨rfl, three_rows (g0 := fun _ => redA x y z x) (g1 := fun _ => redA x y z y) (g2 := fun _ => redA x y z z) rfl rfl rfl⟩, trivial⟩)
  refine call_baseS reU_ok (c := bodyOf Tryz.f32) (fn := Tryz.f32) Tryz.func32 (by kernel_rfl) (by kernel_rfl) (false, true) 1 [0, 3, 7, 27, 28, 29] [4, 5] (sB := unB n f l x y z) (by kernel_rfl) (t := unO airE oA oB oC iV n f l x y z) (by delta unO; rfl) (unO_into airE oA oB oC iV n f l x y z) (unO_fits airE oA oB oC iV n f l x y z) ?_
  exact sk_need (okN_ok n) (sk_no (by rw [bne, h2]; rfl) (sk_yes hf (sk_need h3 (sk_done (un_left1 n f l _ _ _)))))
 | false =>
  have e : uAll n f l x y z = uRec n f l x y z (n + 1) := by unfold uAll; rw [hf]
  rw [e] at hm ⊢
  refine call_baseS reU_ok (c := bodyOf Tryz.f32) (fn := Tryz.f32) Tryz.func32 (by kernel_rfl) (by kernel_rfl) (false, true) 1 [0, 3, 7, 27, 28, 29] [4, 5] (sB := unB n f l x y z) (by kernel_rfl) (t := unO airE oA oB oC iV n f l x y z) (by delta unO; rfl) (unO_into airE oA oB oC iV n f l x y z) (unO_fits airE oA oB oC iV n f l x y z) ?_
  refine sk_need (okN_ok n) (sk_no (by rw [bne, h2]; rfl) (sk_no hf (sk_need (okN_ok n) (sk_need (by rw [Nat.ble_eq]; omega) (sk_stop _ true [] [4, 5] (un_loop n f l x y z h1 (fun k hk => allK_at h4 k hk)) fun q hq => ?_)))))
  subst hq
  refine leads_leaf (show _ = unP airE oA oB oC iV n f l x y z (.exit 0, unX n f l (uRec n f l x y z (n + 1)).u0 (uRec n f l x y z (n + 1)).u1 (uRec n f l x y z (n + 1)).u2 (uRec n f l x y z (n + 1)).m) by delta unP unXk; rfl) (unP_is airE oA oB oC iV n f l x y z _ _ _ _) (cutF_dn ?_)
  rw [hm]
  exact un_left n f l _ _ _ m
end Go.Ev
namespace Go.Ev
open Go Go.RowKit Go.Proofs
set_option maxRecDepth 100000
theorem call_roundS {P : Program} {rec : Code → St → Tree (X × St)} (hrec : RecOk P rec) {f : FuncId} {fn : Func} {c : Code} (hfn : P.funcs[f]? = some fn) (hc : fn.body = some c) {args : List A} (hsz : (Nat.ble args.length fn.ntmps && Nat.ble args.length lim) = true) {h : Hp} (m : Bool × Bool) {v : A} {h' : Hp} (slotsR : List Nat)
  {sB : St} (hsB : sB = st0 fn args h m) {t : Tree (X × St)} (hpre : (rec c sB).bind (canonT slotsR slotsR sB) = t) {S : SkX} (h1 : t = into t S) (h2 : fits t S = true) (h3 : SkLeads (Left2 P fn h v h') S) : CallAt P f args h v h' := by
 subst hsB
 subst hpre
 exact call_comes hfn hc hsz m (comes_base (St.Le.refl _) (comesF_round hrec rfl slotsR slotsR (all_into h1 h2 h3.all)))
section
variable (E : FA) (a b c : FO) (I : FI) (f l : Nat → Int) (x y z : Int)
def zeH (f l : Nat → Int) (W : List Blk) : Hp := hpT [⟨none, 0, stC f l⟩] [] W
def zuB : St := baseM 68 [.one nilC, vec x y z] (zeH f l [])
def zuR (u : A) (e : Int) (W : List Blk) : St := stN 68 (envL [(4, u), (5, int e)]) (bsS [⟨none, 0, stC f l⟩] []) [] W true
noncomputable def zuT : Tree (X × St) := (reU E a b c I (bodyOf Tryz.f32) (zuB f l x y z)).bind (canonT [4, 5] [4, 5] (zuB f l x y z))
def zuS : SkX := .node (firstZ [E 0 (fun _ => 0) (fun _ => 0), rayErr x y z] != 0) (.leaf (.ret, zuR f l (.one nilC) (firstZ [E 0 (fun _ => 0) (fun _ => 0), rayErr x y z]) [])) (.node (flW x y == 0) (.need (redK [x, y, z] []) (.leaf (.ret, zuR f l (.one (.sl true 0 0 3 0 1)) 0 [vec3 29 (redA x y z x) (redA x y z y) (redA x y z z)])))
 (.tt (.nn (.nn (.nn (.nn (.nn (.need (redK [w64 (64 * x), w64 (64 * y), uZ (fun _ => 0) x y z 0] []) (.node (uC1 a b c 0 (fun _ => 0) (fun _ => 0) x y z 0) (.node (uC2 I (fun _ => 0) x y z 0 (fun _ => 0) (fun _ => 0) (fun _ => 0) 0)
  (.ff (.leaf (.ret, zuR f l (.one (.sl true 0 0 3 0 1)) 0 [vec3 29 (uW (fun _ => 0) x y z p1 0) (uW (fun _ => 0) x y z p2 0) (uW (fun _ => 0) x y z p3 0)]))) (.ff (.leaf (.ret, zuR f l (.one nilC) 0 [])))) (.ff (.ff (.leaf (.ret, zuR f l (.one nilC) 0 [])))))))))))))
theorem zu_into : zuT E a b c I f l x y z = into (zuT E a b c I f l x y z) (zuS E a b c I f l x y z) := by kernel_rfl
theorem zu_fits : fits (zuT E a b c I f l x y z) (zuS E a b c I f l x y z) = true := by kernel_rfl
theorem zu_left (p q r : Int) : Left2 Tryz.prog Tryz.f32 (zeH f l []) (unV (unA 0 1)) (zeH f l [vec3 29 p q r]) (.ret, zuR f l (.one (.sl true 0 0 3 0 1)) 0 [vec3 29 p q r]) := left_of (b := false) (by kernel_rfl)
end
theorem zu_call {f l : Nat → Int} {x y z : Int} {m : Nat} (h : unK 0 f l x y z = true) (hm : (uAll 0 f l x y z).m = m + 1) : CallAt Tryz.prog 32 [.one nilC, vec x y z] (zeH f l []) (unV (unA 0 (m + 1))) (zeH f l (unW (uAll 0 f l x y z).u0 (uAll 0 f l x y z).u1 (uAll 0 f l x y z).u2 (m + 1))) := by
 unfold unK at h
 simp only [Bool.and_eq_true] at h
 obtain ⟨h1, h2, h3, h4, h5⟩ := h
 have h20 : (firstZ [airE 0 (fun _ => 0) (fun _ => 0), rayErr x y z] == 0) = true := h2
 have h40 : in3 (w64 (64 * x)) (w64 (64 * y)) (uZ (fun _ => 0) x y z 0) = true := allK_at h4 0 (by omega)
 have hm0 : m = 0 := by
  have : (uAll 0 f l x y z).m ≤ 1 := by
   unfold uAll
   split
   ·exact Nat.le_refl _
   ·exact uRec_le 0 f l x y z 1
  omega
 subst hm0
 cases hf : flW x y == 0 with
 | true =>
  have e : uAll 0 f l x y z = ⟨1, fun _ => redA x y z x, fun _ => redA x y z y, fun _ => redA x y z z⟩ := by unfold uAll; rw [hf]
  rw [e]
  show CallAt _ _ _ _ _ (hpT [⟨none, 0, stC f l⟩] [] (unW _ _ _ 1))
  refine call_le (h' := hpT [⟨none, 0, stC f l⟩] [] [vec3 29 (redA x y z x) (redA x y z y) (redA x y z z)]) ?_ (le_news (size := 0) (env := .nil) (kp := false) (show 0 + 1 ≤ lim by decide) ⟨⟨rfl, three_rows (g0 := fun _ => redA x y z x) (g1 := fun _ => redA x y z y) (g2 := fun _ => redA x y z z) rfl rfl rfl⟩, trivial⟩)
  refine call_roundS reU_ok (c := bodyOf Tryz.f32) (fn := Tryz.f32) Tryz.func32 (by kernel_rfl) (by kernel_rfl) (false, true) [4, 5] (sB := zuB f l x y z) (by kernel_rfl) (t := zuT airE oA oB oC iV f l x y z) (by delta zuT; rfl) (zu_into airE oA oB oC iV f l x y z) (zu_fits airE oA oB oC iV f l x y z) ?_
  exact sk_no (by rw [bne, h20]; rfl) (sk_yes hf (sk_need h3 (sk_leaf (zu_left f l _ _ _))))
 | false =>
  have c1 : uC1 oA oB oC 0 f l x y z 0 = true := rfl
  have c2 : uC2 iV l x y z 0 (fun _ => 0) (fun _ => 0) (fun _ => 0) 0 = true := rfl
  have e : uAll 0 f l x y z = uAdd l x y z ⟨0, fun _ => 0, fun _ => 0, fun _ => 0⟩ 0 := by
   unfold uAll
   rw [hf]
   show uStep 0 f l x y z ⟨0, fun _ => 0, fun _ => 0, fun _ => 0⟩ 0 = _
   unfold uStep
   rw [c1, c2]
   rfl
  rw [e]
  show CallAt _ _ _ _ _ (hpT [⟨none, 0, stC f l⟩] [] (unW _ _ _ 1))
  refine call_le (h' := hpT [⟨none, 0, stC f l⟩] [] [vec3 29 (uW (fun _ => 0) x y z p1 0) (uW (fun _ => 0) x y z p2 0) (uW (fun _ => 0) x y z p3 0)]) ?_ (le_news (size := 0) (env := .nil) (kp := false) (show 0 + 1 ≤ lim by decide) ⟨⟨rfl, three_rows (g0 := putF (fun _ => 0) 0 (uW l x y z p1 0)) (g1 := putF (fun _ => 0) 0 (uW l x y z p2 0)) (g2 := putF (fun _ => 0) 0 (uW l x y z p3 0)) (putF_same (fun _ => 0) 0 (uW l x y z p1 0)).symm (putF_same (fun _ => 0) 0 (uW l x y z p2 0)).symm (putF_same (fun _ => 0) 0 (uW l x y z p3 0)).symm⟩, trivial⟩)
  refine call_roundS reU_ok (c := bodyOf Tryz.f32) (fn := Tryz.f32) Tryz.func32 (by kernel_rfl) (by kernel_rfl) (false, true) [4, 5] (sB := zuB f l x y z) (by kernel_rfl) (t := zuT airE oA oB oC iV f l x y z) (by delta zuT; rfl) (zu_into airE oA oB oC iV f l x y z) (zu_fits airE oA oB oC iV f l x y z) ?_
  exact sk_no (by rw [bne, h20]; rfl) (sk_no hf (sk_tt (sk_nn (sk_nn (sk_nn (sk_nn (sk_nn (sk_need h40 (sk_yes rfl (sk_yes rfl (sk_ff (sk_leaf (zu_left f l _ _ _)))))))))))))
abbrev FM := Nat → (Nat → Int) → (Nat → Int) → Int → Int → Int → Nat
abbrev FU := Nat → (Nat → Int) → (Nat → Int) → Int → Int → Int → Nat → Int
abbrev FK := Nat → (Nat → Int) → (Nat → Int) → Int → Int → Int → Bool
def unF (K : FK) (M : FM) (U0 U1 U2 : FU) : FT
 | [x, y, z], [], [], [⟨some _, n, [.int .i64 f, .int .i64 l]⟩] => .need (K n f l x y z) (.leaf (unV (.one (.sl true 1 0 3 0 (M n f l x y z + 1))), [⟨false, 29, .rows (M n f l x y z + 1) (vcC (U0 n f l x y z) (U1 n f l x y z) (U2 n f l x y z))⟩]))
 | [x, y, z], [], [], [⟨none, _, [.int .i64 f, .int .i64 l]⟩] => .need (K 0 f l x y z) (.leaf (unV (.one (.sl true 0 0 3 0 (M 0 f l x y z + 1))), [⟨false, 29, .rows (M 0 f l x y z + 1) (vcC (U0 0 f l x y z) (U1 0 f l x y z) (U2 0 f l x y z))⟩]))
 | _, _, _, _ => .fail 756
def unSp (K : FK) (M : FM) (U0 U1 U2 : FU) : Spec := fun args h => specT [(false, [.t stD]), (true, [.i, .i, .i])] [] (unF K M U0 U1 U2) args h
def uM : FM := fun n f l x y z => (uAll n f l x y z).m - 1
def uU0 : FU := fun n f l x y z => (uAll n f l x y z).u0
def uU1 : FU := fun n f l x y z => (uAll n f l x y z).u1
def uU2 : FU := fun n f l x y z => (uAll n f l x y z).u2
theorem uM_of {n : Nat} {f l : Nat → Int} {x y z : Int} (h : unK n f l x y z = true) : (uAll n f l x y z).m = uM n f l x y z + 1 := by
 unfold unK at h
 simp only [Bool.and_eq_true, Nat.blt_eq] at h
 obtain ⟨_, _, _, _, h5⟩ := h
 unfold uM
 omega
theorem un_ok : SpecOk Tryz.prog 32 (unSp unK uM uU0 uU1 uU2) := by
 refine specT_ok rfl (by decide) fun l' m n' ts v news hl hm hn ht hnil hF => ?_
 unfold unF at hF
 split at hF
 ·rename_i x y z id n f l
  obtain ⟨hok, hF⟩ := Tree.need_some hF
  simp only [Tree.run, Option.some.injEq, Prod.mk.injEq] at hF
  obtain ⟨rfl, rfl⟩ := hF
  exact un_call hok (uM_of hok)
 ·rename_i x y z n f l
  obtain ⟨hok, hF⟩ := Tree.need_some hF
  simp only [Tree.run, Option.some.injEq, Prod.mk.injEq] at hF
  obtain ⟨rfl, rfl⟩ := hF
  have h0 : n = 0 := hnil _ (List.mem_singleton.2 rfl) rfl
  subst h0
  exact zu_call hok (uM_of hok)
 ·cases hF
end Go.Ev
