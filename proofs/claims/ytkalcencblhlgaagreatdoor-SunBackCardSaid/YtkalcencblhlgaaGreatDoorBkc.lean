/- The law of bent rays and of texts: its entries hold, its trees are as sketched. Conditions: none. -/
import Derived.Test.YtkalcencblhlgaaGreatDoorBkb
namespace Go.Ev
open Go Go.RowKit Go.Proofs
set_option maxRecDepth 100000
theorem caE_ok (e : Nat) : SpecOk Tryz.prog 28 (caEs airE e) := by
 intro args h v h' hr
 refine cq_ok args h v h' ?_
 unfold caEs specT at hr
 unfold caSp specT
 split at hr
 ·rename_i d gids hd hgi
  obtain ⟨hok, hr⟩ := Tree.need_some hr
  rw [hok]
  obtain ⟨r, hF, hr⟩ := Tree.bind_some hr
  obtain ⟨l, m, n, ts, ok⟩ := d
  simp only [] at hF hr ⊢
  unfold caEF at hF
  split at hF
  ·rename_i id n f l hr1 hr2
   obtain ⟨he, hF⟩ := Tree.need_some hF
   rw [Bool.and_eq_true] at he
   obtain ⟨hn, he⟩ := he
   have he : airE n f l = (e : Int) := by simpa using he
   simp only [Tree.run, Option.some.injEq] at hF
   subst hF
   show ((Tree.leaf (int (airE n f l), [])).bind _).run = _
   rw [he]
   exact hr1
  ·cases hF
 ·cases hr
theorem tinS_ok : SpecOk Tryz.prog 9 tinS := by
 refine specT_ok rfl (by decide) fun l m n ts v news hl hm hn ht hnil hF => ?_
 unfold tinF at hF
 split at hF
 ·rename_i x y z
  obtain ⟨he, hF⟩ := Tree.need_some hF
  simp only [Tree.run, Option.some.injEq, Prod.mk.injEq] at hF
  obtain ⟨rfl, rfl⟩ := hF
  refine tiny_ok _ _ _ _ ?_
  show (Tree.leaf (boo (tinW x y z), hpT [] [] [])).run = _
  rw [he]
  rfl
 ·cases hF
theorem pa3_ok {P : Program} {f : FuncId} {a b : Nat} {s1 s2 s3 : Spec} (h1 : SpecOk P f s1) (h2 : SpecOk P f s2) (h3 : SpecOk P f s3) : SpecOk P f (pa3 a b s1 s2 s3) := by
 intro args h v h' hr
 unfold pa3 at hr
 split at hr
 ·exact h1 args h v h' hr
 ·split at hr
  ·exact h2 args h v h' hr
  ·exact h3 args h v h' hr
def bkQ : Bq := ⟨airE, oB, unK, uM, uU0, uU1, uU2, skyE, txS, psE, psAt, nmP, f0P, f1P, f2P, f3P, nlP, wrdN, wrdF⟩
theorem tbA_ok {ca ck : Spec} (h1 : SpecOk Tryz.prog 28 ca) (h2 : SpecOk Tryz.prog 7 ck) : TabOk Tryz.prog (tabOf (tbA ca ck)) := tab_cons (tab_cons (tab_cons tb_tiny_ok h2) h1) specAwake_ok
theorem tbB0_ok {pa : Spec} (h : SpecOk Tryz.prog 22 pa) : TabOk Tryz.prog (tabOf (tbB0 bkQ pa)) :=
 tab_cons (tab_cons (tab_cons (tab_cons (tab_cons (tab_cons (tab_cons (tab_cons (tab_cons (tbA_ok (caE_ok 0) (ckE_ok 0)) ss_ok) ow_ok) gv_ok) spq_ok) h) pr_ok) sp_ok) un_ok) bt_ok
theorem bkRe_ok {pa : Spec} (h : SpecOk Tryz.prog 22 pa) : RecOk Tryz.prog (bkRe bkQ pa) := recT_ok (tab_cons (tbB0_ok h) tinS_ok)
section
variable (q : Bq) (n N : Nat) (f l g0 g1 g2 g3 : Nat → Int) (x y z : Int) (nm t : ByteArray) (pa : Spec)
theorem bka_into (EA : FA) (E : FE) (e : Nat) : bkT EA E n N f l g0 g1 g2 g3 x y z nm t (e + 1) 0 = into (bkT EA E n N f l g0 g1 g2 g3 x y z nm t (e + 1) 0) (bkSa n N f l g0 g1 g2 g3 EA e) := by kernel_rfl
theorem bka_fits (EA : FA) (E : FE) (e : Nat) : fits (bkT EA E n N f l g0 g1 g2 g3 x y z nm t (e + 1) 0) (bkSa n N f l g0 g1 g2 g3 EA e) = true := by kernel_rfl
theorem bkb_into (EA : FA) (E : FE) (e : Nat) : bkT EA E n N f l g0 g1 g2 g3 x y z nm t 0 (e + 1) = into (bkT EA E n N f l g0 g1 g2 g3 x y z nm t 0 (e + 1)) (bkSb n N f l g0 g1 g2 g3 x y z nm EA E e) := by kernel_rfl
theorem bkb_fits (EA : FA) (E : FE) (e : Nat) : fits (bkT EA E n N f l g0 g1 g2 g3 x y z nm t 0 (e + 1)) (bkSb n N f l g0 g1 g2 g3 x y z nm EA E e) = true := by kernel_rfl
def bk0 : SkX := .leaf (.normal, bkS1 n N f l g0 g1 g2 g3 x y z nm t false true)
theorem bk0_into : bkP q n N f l g0 g1 g2 g3 x y z nm t pa [false] [0, 4, 5, 6] false true (bkB n N f l g0 g1 g2 g3 x y z nm t false true) = into (bkP q n N f l g0 g1 g2 g3 x y z nm t pa [false] [0, 4, 5, 6] false true (bkB n N f l g0 g1 g2 g3 x y z nm t false true)) (bk0 n N f l g0 g1 g2 g3 x y z nm t) := by kernel_rfl
theorem bk0_fits : fits (bkP q n N f l g0 g1 g2 g3 x y z nm t pa [false] [0, 4, 5, 6] false true (bkB n N f l g0 g1 g2 g3 x y z nm t false true)) (bk0 n N f l g0 g1 g2 g3 x y z nm t) = true := by kernel_rfl
theorem bk1_into : bkP q n N f l g0 g1 g2 g3 x y z nm t pa [true, false] [0, 4, 5, 6] false true (bkS1 n N f l g0 g1 g2 g3 x y z nm t false true) = into (bkP q n N f l g0 g1 g2 g3 x y z nm t pa [true, false] [0, 4, 5, 6] false true (bkS1 n N f l g0 g1 g2 g3 x y z nm t false true)) (bk1 q n N f l g0 g1 g2 g3 x y z nm t) := by kernel_rfl
theorem bk1_fits : fits (bkP q n N f l g0 g1 g2 g3 x y z nm t pa [true, false] [0, 4, 5, 6] false true (bkS1 n N f l g0 g1 g2 g3 x y z nm t false true)) (bk1 q n N f l g0 g1 g2 g3 x y z nm t) = true := by kernel_rfl
theorem bk3_into : bkP q n N f l g0 g1 g2 g3 x y z nm t pa [true, true, false] [0, 4, 5, 6, 7, 8] false true (bkS1 n N f l g0 g1 g2 g3 x y z nm t false true) = into (bkP q n N f l g0 g1 g2 g3 x y z nm t pa [true, true, false] [0, 4, 5, 6, 7, 8] false true (bkS1 n N f l g0 g1 g2 g3 x y z nm t false true)) (bk3 q n N f l g0 g1 g2 g3 x y z nm t) := by kernel_rfl
theorem bk3_fits : fits (bkP q n N f l g0 g1 g2 g3 x y z nm t pa [true, true, false] [0, 4, 5, 6, 7, 8] false true (bkS1 n N f l g0 g1 g2 g3 x y z nm t false true)) (bk3 q n N f l g0 g1 g2 g3 x y z nm t) = true := by kernel_rfl
theorem bkO_into (b1 b2 b3 : Int) : bkO q n N f l g0 g1 g2 g3 x y z nm t pa b1 b2 b3 = into (bkO q n N f l g0 g1 g2 g3 x y z nm t pa b1 b2 b3) (bkOS q n N f l g0 g1 g2 g3 x y z nm t b1 b2 b3) := by kernel_rfl
theorem bkO_fits (b1 b2 b3 : Int) : fits (bkO q n N f l g0 g1 g2 g3 x y z nm t pa b1 b2 b3) (bkOS q n N f l g0 g1 g2 g3 x y z nm t b1 b2 b3) = true := by kernel_rfl
theorem bkTb_into (b1 b2 b3 : Int) (u0 u1 u2 : Nat → Int) (M : Nat) (th : Bool) (k : Nat) : bkTb q n N f l g0 g1 g2 g3 x y z nm t pa b1 b2 b3 u0 u1 u2 M th k = into (bkTb q n N f l g0 g1 g2 g3 x y z nm t pa b1 b2 b3 u0 u1 u2 M th k) (bkRd q n N f l g0 g1 g2 g3 x y z nm t b1 b2 b3 u0 u1 u2 M th k) := by kernel_rfl
theorem bkTb_fits (b1 b2 b3 : Int) (u0 u1 u2 : Nat → Int) (M : Nat) (th : Bool) (k : Nat) : fits (bkTb q n N f l g0 g1 g2 g3 x y z nm t pa b1 b2 b3 u0 u1 u2 M th k) (bkRd q n N f l g0 g1 g2 g3 x y z nm t b1 b2 b3 u0 u1 u2 M th k) = true := by kernel_rfl
end
section
variable (q : Bq) (n k : Nat) (f l g0 g1 g2 g3 : Nat → Int) (x y z : Int) (nm t : ByteArray) (m m2 c : Nat)
def bkPp : Spec := pa3 10 16 (bkOk q m) (bkOk q m2) (bkEr q 24)
def bkPx : Spec := pa3 10 16 (bkOk q m) (bkEr q c) (bkEr q 24)
def bkAp : SkO := bkAg q n (k + 2) f l g0 g1 g2 g3 nm m (bkP2 q n (k + 2) f l g0 g1 g2 g3 t (bkTx (k + 2) q nm g0 g1 g2 g3) m2)
def bkAe : SkO := bkAg q n (k + 2) f l g0 g1 g2 g3 nm m (bkE2 q n (k + 2) f l g0 g1 g2 g3 t (bkTx (k + 2) q nm g0 g1 g2 g3) c)
theorem bkAp_into (th : Bool) : bkA q n (k + 2) f l g0 g1 g2 g3 x y z nm t (bkPp q m m2) th = into (bkA q n (k + 2) f l g0 g1 g2 g3 x y z nm t (bkPp q m m2) th) (bkAt n (k + 2) f l g0 g1 g2 g3 th (bkAp q n k f l g0 g1 g2 g3 nm t m m2)) := by kernel_rfl
theorem bkAp_fits (th : Bool) : fits (bkA q n (k + 2) f l g0 g1 g2 g3 x y z nm t (bkPp q m m2) th) (bkAt n (k + 2) f l g0 g1 g2 g3 th (bkAp q n k f l g0 g1 g2 g3 nm t m m2)) = true := by kernel_rfl
theorem bkAe_into (th : Bool) : bkA q n (k + 2) f l g0 g1 g2 g3 x y z nm t (bkPx q m c) th = into (bkA q n (k + 2) f l g0 g1 g2 g3 x y z nm t (bkPx q m c) th) (bkAt n (k + 2) f l g0 g1 g2 g3 th (bkAe q n k f l g0 g1 g2 g3 nm t m c)) := by kernel_rfl
theorem bkAe_fits (th : Bool) : fits (bkA q n (k + 2) f l g0 g1 g2 g3 x y z nm t (bkPx q m c) th) (bkAt n (k + 2) f l g0 g1 g2 g3 th (bkAe q n k f l g0 g1 g2 g3 nm t m c)) = true := by kernel_rfl
end
end Go.Ev
namespace Go.Ev
open Go Go.RowKit Go.Proofs
set_option maxRecDepth 100000
theorem comesF_flag {P : Program} {c : Code} {sB st : St} {φ : X × St → Prop} (w k w' k' : Bool) (h : ComesF P c { sB with wide := w, keep := k } { st with wide := w', keep := k' } φ) : ComesF P c sB st φ :=
 fun ro ds0 E0 w0 ds E a w Q rh0 r s hz hm hro hq => h ro ds0 E0 w0 ds E a w Q rh0 ⟨r.rh, r.defers, r.size, r.env⟩ s hz hm hro fun q hφ => hq q hφ
theorem comesF_post {P : Program} {c : Code} {sB st s : St} {x : X} (w k : Bool) (h : ComesF P c sB st fun q => q = (x, s)) : ComesF P c sB st fun q => q = (x, { s with wide := w, keep := k }) :=
 fun ro ds0 E0 w0 ds E a w Q rh0 r st hz hm hro hq => h ro ds0 E0 w0 ds E a w Q rh0 r st hz hm hro fun q e => by
  subst e
  exact fun D2 E2 a2 w2 r2 s2 hz2 m2 => hq _ rfl D2 E2 a2 w2 ⟨r2.rh, r2.defers, r2.size, r2.env⟩ s2 hz2 m2
theorem e3B_iff {a b c d e f : Int} : e3B a b c d e f = true ↔ a = d ∧ b = e ∧ c = f := by simp [e3B]
def thK (u0 u1 u2 : Nat → Int) (r1 r2 r3 : Int) : Nat → Bool
 | 0 => false
 | k + 1 => match thK u0 u1 u2 r1 r2 r3 k with
  | true => true
  | false => e3B (u0 k) (u1 k) (u2 k) r1 r2 r3
theorem thK_iff (u0 u1 u2 : Nat → Int) (r1 r2 r3 : Int) : ∀ k, thK u0 u1 u2 r1 r2 r3 k = true ↔ ∃ i, i < k ∧ u0 i = r1 ∧ u1 i = r2 ∧ u2 i = r3
 | 0 => ⟨fun h => (by cases h), fun ⟨i, h, _⟩ => by omega⟩
 | k + 1 => by
  have ih := thK_iff u0 u1 u2 r1 r2 r3 k
  unfold thK
  cases h : thK u0 u1 u2 r1 r2 r3 k with
  | true =>
   obtain ⟨i, hi, he⟩ := ih.1 h
   exact ⟨fun _ => ⟨i, by omega, he⟩, fun _ => rfl⟩
  | false =>
   constructor
   ·intro he
    exact ⟨k, by omega, e3B_iff.1 he⟩
   ·rintro ⟨i, hi, he⟩
    rcases Nat.lt_or_ge i k with h1 | h1
    ·rw [ih.2 ⟨i, h1, he⟩] at h; cases h
    ·obtain rfl : i = k := by omega
     exact e3B_iff.2 he
section
variable (n N : Nat) (f l g0 g1 g2 g3 : Nat → Int) (x y z : Int) (nm t : ByteArray) (pa : Spec)
variable (b1 b2 b3 : Int) (u0 u1 u2 : Nat → Int) (M : Nat) {n' : Nat} {f' l' : Nat → Int}
def AirAs (n : Nat) (f l : Nat → Int) (f' l' : Nat → Int) : Prop := match n with
 | 0 => f' = (fun _ => 0) ∧ l' = (fun _ => 0)
 | _ + 1 => f' = f ∧ l' = l
theorem bkU_step {f' l' : Nat → Int} (hA : AirAs n f l f' l') (hn : n ≤ 1000000) (hM : M ≤ 1000000)
  (he : ∀ i, i < M → qdirErr (u0 i) (u1 i) (u2 i) = 0 ∧ (qrayErr (u0 i) (u1 i) (u2 i) = 0 → bnO airE oB n f' l' (u0 i) (u1 i) (u2 i) = true ∧ bnV oB p1 n f' l' (u0 i) (u1 i) (u2 i) = b1 ∧ bnV oB p2 n f' l' (u0 i) (u1 i) (u2 i) = b2 ∧ bnV oB p3 n f' l' (u0 i) (u1 i) (u2 i) = b3)) (k : Nat) (hk : k < M) :
  SkLeads (Rnd (fun k => bkH n N f l g0 g1 g2 g3 x y z nm t false true b1 b2 b3 u0 u1 u2 M (thK u0 u1 u2 (rdW x y z x) (rdW x y z y) (rdW x y z z) k) (k : Int)) (fun _ => (.exit 0, bkZ n N f l g0 g1 g2 g3 nm t false true (thK u0 u1 u2 (rdW x y z x) (rdW x y z y) (rdW x y z z) M))) k)
   (bkRd bkQ n N f l g0 g1 g2 g3 x y z nm t b1 b2 b3 u0 u1 u2 M (thK u0 u1 u2 (rdW x y z x) (rdW x y z y) (rdW x y z z) k) k) := by
 obtain ⟨e1, e2, e3⟩ := rnd_lt hk
 have hi : Nat.blt (ixN k) M = true := e3
 have hx : ixN k = k := idx_nat k
 obtain ⟨d1, d2⟩ := he k hk
 have hnn : Nat.ble n 1000000 = true := by rw [Nat.ble_eq]; exact hn
 have next : ∀ v, thK u0 u1 u2 (rdW x y z x) (rdW x y z y) (rdW x y z z) (k + 1) = v → SkLeads (Rnd (fun k => bkH n N f l g0 g1 g2 g3 x y z nm t false true b1 b2 b3 u0 u1 u2 M (thK u0 u1 u2 (rdW x y z x) (rdW x y z y) (rdW x y z z) k) (k : Int)) (fun _ => (.exit 0, bkZ n N f l g0 g1 g2 g3 nm t false true (thK u0 u1 u2 (rdW x y z x) (rdW x y z y) (rdW x y z z) M))) k) (bkHn n N f l g0 g1 g2 g3 x y z nm t b1 b2 b3 u0 u1 u2 M k v) := fun v hv => by
  refine sk_leaf (rnd_next ?_ rfl)
  subst hv
  rw [wrap_succ (by omega)]
  exact St.Le.refl _
 have both : ∀ v, thK u0 u1 u2 (rdW x y z x) (rdW x y z y) (rdW x y z z) (k + 1) = v → SkLeads (Rnd (fun k => bkH n N f l g0 g1 g2 g3 x y z nm t false true b1 b2 b3 u0 u1 u2 M (thK u0 u1 u2 (rdW x y z x) (rdW x y z y) (rdW x y z z) k) (k : Int)) (fun _ => (.exit 0, bkZ n N f l g0 g1 g2 g3 nm t false true (thK u0 u1 u2 (rdW x y z x) (rdW x y z y) (rdW x y z z) M))) k) (bkRa bkQ n N f l g0 g1 g2 g3 x y z nm t b1 b2 b3 u0 u1 u2 M k v) := fun v hv => by
  unfold bkRa
  rw [hx]
  refine sk_either (fun _ => next v hv) fun h => ?_
  obtain ⟨h1, h2, h3, h4⟩ := d2 (by simpa using h)
  have fin : ∀ (f'' l'' : Nat → Int), f'' = f' → l'' = l' → SkLeads (Rnd (fun k => bkH n N f l g0 g1 g2 g3 x y z nm t false true b1 b2 b3 u0 u1 u2 M (thK u0 u1 u2 (rdW x y z x) (rdW x y z y) (rdW x y z z) k) (k : Int)) (fun _ => (.exit 0, bkZ n N f l g0 g1 g2 g3 nm t false true (thK u0 u1 u2 (rdW x y z x) (rdW x y z y) (rdW x y z z) M))) k) (bkRc bkQ n N f l g0 g1 g2 g3 x y z nm t b1 b2 b3 u0 u1 u2 M k v n f'' l'') := fun f'' l'' e1 e2 => by
   subst e1; subst e2
   unfold bkRc
   rw [hx]
   have he3 : (!e3B (bnV oB p1 n f'' l'' (u0 k) (u1 k) (u2 k)) (bnV oB p2 n f'' l'' (u0 k) (u1 k) (u2 k)) (bnV oB p3 n f'' l'' (u0 k) (u1 k) (u2 k)) b1 b2 b3) = false := by rw [e3B_iff.2 ⟨h2, h3, h4⟩]; rfl
   exact sk_need h1 (sk_ff (sk_no he3 (next v hv)))
  cases n with
  | zero => exact sk_need (okN_ok _) (sk_need hnn (sk_yes rfl (sk_nn (fin _ _ hA.1.symm hA.2.symm))))
  | succ m => exact sk_need (okN_ok _) (sk_need hnn (sk_no rfl (sk_need (okV_ok _) (fin _ _ hA.1.symm hA.2.symm))))
 refine sk_yes e1 (sk_need e2 (need3_ok hi (sk_no ?_ ?_)))
 ·rw [hx, d1]; rfl
 ·refine sk_either (fun h => both true ?_) fun h => both _ ?_
  ·unfold thK; rw [h]
  ·rw [hx]; show thK _ _ _ _ _ _ (k + 1) = _; rw [thK, h]
end
section
variable (n N : Nat) (f l g0 g1 g2 g3 : Nat → Int) (x y z : Int) (nm t : ByteArray) {pa : Spec} (hpa : SpecOk Tryz.prog 22 pa)
variable (b1 b2 b3 : Int) (u0 u1 u2 : Nat → Int) (M : Nat)
include hpa
theorem bkU_loop {f' l' : Nat → Int} (hA : AirAs n f l f' l') (hn : n ≤ 1000000) (hM : M ≤ 1000000)
  (he : ∀ i, i < M → qdirErr (u0 i) (u1 i) (u2 i) = 0 ∧ (qrayErr (u0 i) (u1 i) (u2 i) = 0 → bnO airE oB n f' l' (u0 i) (u1 i) (u2 i) = true ∧ bnV oB p1 n f' l' (u0 i) (u1 i) (u2 i) = b1 ∧ bnV oB p2 n f' l' (u0 i) (u1 i) (u2 i) = b2 ∧ bnV oB p3 n f' l' (u0 i) (u1 i) (u2 i) = b3)) :
  ComesF Tryz.prog (.loop (nthLoop (bkC [true, true, true]) bkPath)) (bkB n N f l g0 g1 g2 g3 x y z nm t false true) (bkH n N f l g0 g1 g2 g3 x y z nm t false true b1 b2 b3 u0 u1 u2 M false ((0 : Nat) : Int)) fun q => q = (.exit 0, bkZ n N f l g0 g1 g2 g3 nm t false true (thK u0 u1 u2 (rdW x y z x) (rdW x y z y) (rdW x y z z) M)) :=
 loop_count (bkRe_ok hpa) rfl [0, 5, 6, 7, 9, 15, 184, 185, 186] [5, 6, 15] (fun k => bkH n N f l g0 g1 g2 g3 x y z nm t false true b1 b2 b3 u0 u1 u2 M (thK u0 u1 u2 (rdW x y z x) (rdW x y z y) (rdW x y z z) k) (k : Int)) (fun _ => (.exit 0, bkZ n N f l g0 g1 g2 g3 nm t false true (thK u0 u1 u2 (rdW x y z x) (rdW x y z y) (rdW x y z z) M))) M
  (fun k => bkTb bkQ n N f l g0 g1 g2 g3 x y z nm t pa b1 b2 b3 u0 u1 u2 M (thK u0 u1 u2 (rdW x y z x) (rdW x y z y) (rdW x y z z) k) k) (fun k => bkRd bkQ n N f l g0 g1 g2 g3 x y z nm t b1 b2 b3 u0 u1 u2 M (thK u0 u1 u2 (rdW x y z x) (rdW x y z y) (rdW x y z z) k) k)
  (fun k => by delta bkTb pieceT; rfl) (fun k => bkTb_into bkQ n N f l g0 g1 g2 g3 x y z nm t pa b1 b2 b3 u0 u1 u2 M _ k) (fun k => bkTb_fits bkQ n N f l g0 g1 g2 g3 x y z nm t pa b1 b2 b3 u0 u1 u2 M _ k)
  (bkU_step n N f l g0 g1 g2 g3 x y z nm t b1 b2 b3 u0 u1 u2 M hA hn hM he) (sk_no (rnd_end M) (sk_leaf rfl))
end
end Go.Ev
namespace Go.Ev
open Go Go.RowKit Go.Proofs
set_option maxRecDepth 100000
def mxN (a b : Int) : Int := if b > a then b else a
theorem mx4_eq {x y : Int} (hx : x.natAbs ≤ 1000000) (hy : y.natAbs ≤ 1000000) : mx4 x y = mxN (x.natAbs : Int) (y.natAbs : Int) := by
 unfold mx4 mxN max2
 rw [w64_id (n := 0 - x) (by omega), w64_id (n := 0 - y) (by omega)]
 split <;> split <;> split <;> split <;> omega
theorem abs_par {g x b : Int} (hg : 0 < g) (h : 64 * x = g * b) : g * (b.natAbs : Int) = 64 * (x.natAbs : Int) := by
 have h1 := congrArg Int.natAbs h
 rw [Int.natAbs_mul, Int.natAbs_mul] at h1
 have h2 := congrArg (fun k : Nat => (k : Int)) h1
 simp only [Int.natCast_mul] at h2
 have h3 : ((g.natAbs : Nat) : Int) = g := Int.natAbs_of_nonneg (by omega)
 rw [show ((Int.natAbs 64 : Nat) : Int) = 64 from rfl, h3] at h2
 exact h2.symm
theorem mx_par {g a b c d : Int} (hg : 0 < g) (h1 : g * a = 64 * c) (h2 : g * b = 64 * d) : g * mxN a b = 64 * mxN c d := by
 unfold mxN
 split
 ·rename_i h
  have := Int.mul_lt_mul_of_pos_left h hg
  rw [if_pos (by omega)]; exact h2
 ·rename_i h
  have := Int.mul_le_mul_of_nonneg_left (Int.not_lt.1 h) (by omega : 0 ≤ g)
  split
  ·omega
  ·exact h1
theorem mxN_nn (a b : Nat) : 0 ≤ mxN (a : Int) (b : Int) := by unfold mxN; split <;> omega
theorem mxN_le {a b : Nat} {M : Int} (ha : (a : Int) ≤ M) (hb : (b : Int) ≤ M) : mxN (a : Int) (b : Int) ≤ M := by unfold mxN; split <;> omega
structure BendN (x y z b1 b2 b3 : Int) : Prop where
 one : (w64 (b1 * y) != w64 (b2 * x)) = false
 two : decide (w64 (b1 * x) < 0) = false
 three : decide (w64 (b2 * y) < 0) = false
 four : decide (w64 (b3 * mx4 x y) < w64 (z * mx4 b1 b2)) = false
theorem bend_n {n : Nat} {f l : Nat → Int} {x y z b1 b2 b3 : Int} (ha : AirOk n f l) (h40 : Bd 40 x y z) (h : BendOk n f l x y z b1 b2 b3) : BendN x y z b1 b2 b3 := by
 obtain ⟨g, hg, ex, ey, ez⟩ := h.par
 have hL := (lift_in ha (ofJ_le (f := f) x y z n)).1
 have hF := fl1_nn x y
 generalize zg0 l (ofJ f x y z n) = L at hL ez
 generalize fl1 x y = F at hF ez
 have hb := h.ray.1
 obtain ⟨c1, c2, c3⟩ := hb
 obtain ⟨a1, a2, a3⟩ := h40
 have id : ∀ {a b : Int}, a.natAbs ≤ 1000000 → b.natAbs ≤ 1000000 → w64 (a * b) = a * b := fun ha hb => by
  have := mul_bd ha hb
  exact w64_id (by omega)
 have e1 : b1 * y = b2 * x := by
  have : g * (b1 * y) = g * (b2 * x) := by
   rw [← Int.mul_assoc, ← Int.mul_assoc, ← ex, ← ey, Int.mul_assoc, Int.mul_assoc, Int.mul_comm x y]
  exact Int.eq_of_mul_eq_mul_left (by omega) this
 have pos : ∀ {a b : Int}, 64 * a = g * b → 0 ≤ b * a := fun {a b} e => by
  have h1 : g * (b * a) = 64 * (a * a) := by rw [← Int.mul_assoc, ← e, Int.mul_assoc]
  have h2 := sq_nonneg a
  rcases Int.lt_or_le (b * a) 0 with h3 | h3
  ·have := Int.mul_neg_of_pos_of_neg hg h3
   omega
  ·exact h3
 have pa := abs_par hg ex
 have pb := abs_par hg ey
 have pm := mx_par hg pa pb
 have m1 := mxN_nn x.natAbs y.natAbs
 have m2 := mxN_nn b1.natAbs b2.natAbs
 have m3 : mxN (x.natAbs : Int) (y.natAbs : Int) ≤ 40 := mxN_le (by omega) (by omega)
 have m4 : mxN (b1.natAbs : Int) (b2.natAbs : Int) ≤ 4096 := mxN_le (by omega) (by omega)
 refine ⟨?_, ?_, ?_, ?_⟩
 ·rw [id (by omega) (by omega), id (by omega) (by omega), e1]; simp
 ·rw [id (by omega) (by omega), decide_eq_false_iff_not]; have := pos ex; omega
 ·rw [id (by omega) (by omega), decide_eq_false_iff_not]; have := pos ey; omega
 ·rw [mx4_eq (by omega) (by omega), mx4_eq (by omega) (by omega)]
  generalize mxN (x.natAbs : Int) (y.natAbs : Int) = A at pm m1 m3 ⊢
  generalize mxN (b1.natAbs : Int) (b2.natAbs : Int) = B at pm m2 m4 ⊢
  rw [id (by omega) (by omega), id (by omega) (by omega), decide_eq_false_iff_not]
  intro hlt
  have h1 := Int.mul_lt_mul_of_pos_left hlt hg
  have h2 : g * (b3 * A) = 64 * (z * A) + L * F * A := by rw [← Int.mul_assoc, ← ez, Int.add_mul, Int.mul_assoc]
  have h3 : g * (z * B) = 64 * (z * A) := by rw [Int.mul_left_comm, pm, Int.mul_left_comm]
  have h4 : 0 ≤ L * F * A := Int.mul_nonneg (Int.mul_nonneg hL hF) m1
  omega
theorem bkO_leads {n N : Nat} {f l g0 g1 g2 g3 : Nat → Int} {x y z : Int} {nm t : ByteArray} {b1 b2 b3 : Int} {f' l' : Nat → Int} {ψ : (X × St) ⊕ (List Bool × St) → Prop} (hA : AirAs n f l f' l') (hn : n ≤ 1000000) (hr : Ray x y z) (hN : BendN x y z b1 b2 b3) (hB : BendOk n f' l' x y z b1 b2 b3)
  (hZ : SkLeads ψ (.leaf (.inr (bkPath, bkH n N f l g0 g1 g2 g3 x y z nm t true false b1 b2 b3 (uU0 n f' l' b1 b2 b3) (uU1 n f' l' b1 b2 b3) (uU2 n f' l' b1 b2 b3) (uM n f' l' b1 b2 b3 + 1) false ((0 : Nat) : Int))))) : SkLeads ψ (bkOS bkQ n N f l g0 g1 g2 g3 x y z nm t b1 b2 b3) := by
 obtain ⟨c1, c2, c3, c4⟩ := calm_ok (fun _ => 0) (fun _ => 0) hr
 have hd : dirErr x y z = 0 := dir_zero.2 ⟨hr.1.mono (by decide), hr.2⟩
 have he : (!(e3B (bnV oB p1 0 (fun _ => 0) (fun _ => 0) x y z) (bnV oB p2 0 (fun _ => 0) (fun _ => 0) x y z) (bnV oB p3 0 (fun _ => 0) (fun _ => 0) x y z) (rdW x y z x) (rdW x y z y) (rdW x y z z))) = false := by
  have e : ∀ a, rdW x y z a = redA x y z a := fun a => by unfold rdW; rw [hd]; rfl
  rw [e3B_iff.2 ⟨by rw [c2, e], by rw [c3, e], by rw [c4, e]⟩]; rfl
 have hq : (qrayErr b1 b2 b3 != 0) = false := by rw [← ray_eq, ray_zero.2 hB.ray]; rfl
 have hnn : Nat.ble n 1000000 = true := by rw [Nat.ble_eq]; exact hn
 have fin : ∀ (f'' l'' : Nat → Int), f'' = f' → l'' = l' → SkLeads ψ (bkOU bkQ n N f l g0 g1 g2 g3 x y z nm t b1 b2 b3 n f'' l'') := fun f'' l'' e1 e2 => by
  subst e1; subst e2
  have hM : decide (((uM n f'' l'' b1 b2 b3 + 1 : Nat) : Int) > IntKind.i64.wrap ((n : Int) + 1)) = false := by
   rw [wrap_succ (by omega), decide_eq_false_iff_not]
   have := hB.few
   omega
  exact sk_need hB.key (sk_ff (sk_no hM hZ))
 refine sk_nn (sk_nn (sk_need c1 (sk_ff (sk_no (by rw [hd]; rfl) (sk_ff (sk_no he (sk_no hq (sk_no hN.one (sk_no hN.two (sk_no hN.three (sk_no hN.four ?_)))))))))))
 cases n with
 | zero => exact sk_need (okN_ok _) (sk_need hnn (sk_yes rfl (sk_nn (fin _ _ hA.1.symm hA.2.symm))))
 | succ m => exact sk_need (okN_ok _) (sk_need hnn (sk_no rfl (sk_need (okV_ok _) (fin _ _ hA.1.symm hA.2.symm))))
end Go.Ev
namespace Go.Ev
open Go Go.RowKit Go.Proofs
set_option maxRecDepth 100000
theorem comesF_cutK {P : Program} {rec : Code → St → Tree (X × St)} (hrec : RecOk P rec) {c : Code} {sB st : St} {φ : X × St → Prop} (hlow : sB.hp.low = sB.hp.next) (k : Nat) (slots slotsR : List Nat) {T : Tree ((X × St) ⊕ (List Bool × St))} (e : (evB rec c st).bind (canO slots slotsR sB) = T) {S : SkO} (h1 : T = into T S) (h2 : fits T S = true)
  (h3 : SkLeads (CutF P rec c sB φ k) S) : ComesF P c sB st φ := by
 refine comesF_cut hrec hlow k slots slotsR ?_
 rw [e]
 exact all_into h1 h2 h3.all
section
variable (n N : Nat) (f l g0 g1 g2 g3 : Nat → Int) (x y z : Int) (nm t : ByteArray)
theorem bk_code : bodyOf Tryz.f5 = .seq (bkC [false]) (.seq (bkC [true, false]) (.seq (bkC [true, true, false]) (bkC [true, true, true]))) := by kernel_rfl
theorem bk_base : bkB n N f l g0 g1 g2 g3 x y z nm t false true = st0 Tryz.f5 (bkArgs n x y z nm N t) (bkHp n N f l g0 g1 g2 g3) (false, true) := by kernel_rfl
def BkL : X × St → Prop := Left2 Tryz.prog Tryz.f5 (bkHp n N f l g0 g1 g2 g3) (boo true) (bkHp n N f l g0 g1 g2 g3)
theorem bk_left1 : BkL n N f l g0 g1 g2 g3 (.ret, bkR n N f l g0 g1 g2 g3 false true true) := left_of (b := true) (by kernel_rfl)
theorem bk_left2 : BkL n N f l g0 g1 g2 g3 (.ret, bkR n N f l g0 g1 g2 g3 true false true) := left_of (b := true) (by kernel_rfl)
theorem bk_pc {pa : Spec} (hpa : SpecOk Tryz.prog 22 pa) {p : List Bool} {slots : List Nat} {st : St} {φ : X × St → Prop} {S : SkX} (h1 : bkP bkQ n N f l g0 g1 g2 g3 x y z nm t pa p slots false true st = into (bkP bkQ n N f l g0 g1 g2 g3 x y z nm t pa p slots false true st) S) (h2 : fits (bkP bkQ n N f l g0 g1 g2 g3 x y z nm t pa p slots false true st) S = true) (h3 : SkLeads φ S) :
  ComesF Tryz.prog (bkC p) (bkB n N f l g0 g1 g2 g3 x y z nm t false true) st φ := by
 unfold bkP at h1 h2
 exact comesF_piece (bkRe_ok hpa) rfl slots [6] h1 h2 h3.all
def Bk1 (q : X × St) : Prop := BkL n N f l g0 g1 g2 g3 q ∧ q.1 = .ret ∨ q = (.normal, bkS1 n N f l g0 g1 g2 g3 x y z nm t false true) ∧ N ≤ 12 ∧ t.size ≤ 200
theorem bk1_leads (hn : n ≤ 1000000) (hE : airE n f l = 0) (ht : tinW x y z = true) (hS : skyE nm N g0 g1 g2 g3 = 0) : SkLeads (Bk1 n N f l g0 g1 g2 g3 x y z nm t) (bk1 bkQ n N f l g0 g1 g2 g3 x y z nm t) := by
 have hL : SkLeads (Bk1 n N f l g0 g1 g2 g3 x y z nm t) (bkW n N f l g0 g1 g2 g3) := sk_leaf (.inl ⟨bk_left1 n N f l g0 g1 g2 g3, rfl⟩)
 have hG : SkLeads (Bk1 n N f l g0 g1 g2 g3 x y z nm t) (bkG bkQ n N f l g0 g1 g2 g3 x y z nm t) := by
  refine sk_need (okN_ok N) (sk_need ?_ (sk_ff (sk_either (fun _ => sk_tt hL) fun h1 => sk_either (fun _ => hL) fun h2 => sk_leaf (.inr ⟨rfl, ?_, ?_⟩))))
  ·show (skyE nm N g0 g1 g2 g3 == ((0 : Nat) : Int)) = true
   rw [hS]; rfl
  ·simp only [decide_eq_false_iff_not] at h1; omega
  ·simp only [decide_eq_false_iff_not] at h2; omega
 refine sk_either (fun _ => sk_tt (sk_tt (sk_tt (sk_tt (sk_tt (sk_tt hL)))))) fun _ => sk_need (okN_ok n) (sk_need ?_ (sk_ff (sk_nn (sk_need ht (sk_ff (sk_either (fun _ => sk_either (fun _ => sk_ff hG) fun _ => sk_either (fun _ => sk_tt (sk_tt (sk_tt hL))) fun _ => hG) fun _ => sk_tt (sk_tt (sk_tt (sk_tt hL)))))))))
 show (Nat.ble n 1000000 && (airE n f l == ((0 : Nat) : Int))) = true
 rw [hE, Bool.and_eq_true, Nat.ble_eq]
 exact ⟨hn, rfl⟩
end
section
variable {n N : Nat} {f l g0 g1 g2 g3 : Nat → Int} {x y z : Int} {nm t : ByteArray}
theorem bk3_leads {f' l' : Nat → Int} (hA : AirAs n f l f' l') (hn : n ≤ 1000000) (hb : bnO airE oB n f' l' x y z = true) : SkLeads (fun q => q = (.normal, bkS3 n N f l g0 g1 g2 g3 x y z nm t (bnV oB p1 n f' l' x y z) (bnV oB p2 n f' l' x y z) (bnV oB p3 n f' l' x y z) false true)) (bk3 bkQ n N f l g0 g1 g2 g3 x y z nm t) := by
 have hnn : Nat.ble n 1000000 = true := by rw [Nat.ble_eq]; exact hn
 have fin : ∀ (f'' l'' : Nat → Int), f'' = f' → l'' = l' → SkLeads (fun q => q = (.normal, bkS3 n N f l g0 g1 g2 g3 x y z nm t (bnV oB p1 n f' l' x y z) (bnV oB p2 n f' l' x y z) (bnV oB p3 n f' l' x y z) false true)) (bk3L bkQ n N f l g0 g1 g2 g3 x y z nm t n f'' l'') := fun f'' l'' e1 e2 => by
  subst e1; subst e2
  exact sk_need hb (sk_leaf rfl)
 cases n with
 | zero => exact sk_need (okN_ok _) (sk_need hnn (sk_yes rfl (sk_nn (fin _ _ hA.1.symm hA.2.symm))))
 | succ m => exact sk_need (okN_ok _) (sk_need hnn (sk_no rfl (sk_need (okV_ok _) (fin _ _ hA.1.symm hA.2.symm))))
theorem bk_main {pa : Spec} (hpa : SpecOk Tryz.prog 22 pa) (hE : airE n f l = 0) (ht : tinW x y z = true) (hS : skyE nm N g0 g1 g2 g3 = 0) {Z : SkO} (h1 : bkA bkQ n N f l g0 g1 g2 g3 x y z nm t pa true = into (bkA bkQ n N f l g0 g1 g2 g3 x y z nm t pa true) (bkAt n N f l g0 g1 g2 g3 true Z)) (h2 : fits (bkA bkQ n N f l g0 g1 g2 g3 x y z nm t pa true) (bkAt n N f l g0 g1 g2 g3 true Z) = true)
  (hZ : N ≤ 12 → t.size ≤ 200 → ∀ ψ : (X × St) ⊕ (List Bool × St) → Prop, ψ (.inl (.ret, bkR n N f l g0 g1 g2 g3 true false true)) → SkLeads ψ Z) : CallAt Tryz.prog 5 (bkArgs n x y z nm N t) (bkHp n N f l g0 g1 g2 g3) (boo true) (bkHp n N f l g0 g1 g2 g3) := by
 obtain ⟨hr, h40⟩ := tin_of ht
 obtain ⟨f', l', hA, hE'⟩ : ∃ f' l', AirAs n f l f' l' ∧ airE n f' l' = 0 := by
  cases n with
  | zero => exact ⟨fun _ => 0, fun _ => 0, ⟨rfl, rfl⟩, rfl⟩
  | succ m => exact ⟨f, l, ⟨rfl, rfl⟩, hE⟩
 have hair := air_ok hE'
 have hn : n ≤ 1000000 := by have := hair.few; omega
 have hB := bend_ok hE' hr h40
 have hN := bend_n hair h40 hB
 obtain ⟨hbo, _⟩ := bent_is hair hr hE'
 refine call_comes (fn := Tryz.f5) (c := bodyOf Tryz.f5) Tryz.func5 (by kernel_rfl) (by kernel_rfl) (false, true) ?_
 rw [← bk_base]
 refine comes_base (St.Le.refl _) (comesF_eq bk_code ?_)
 refine comesF_seq (bk_pc n N f l g0 g1 g2 g3 x y z nm t hpa (bk0_into bkQ n N f l g0 g1 g2 g3 x y z nm t pa) (bk0_fits bkQ n N f l g0 g1 g2 g3 x y z nm t pa) (φ := fun q => q = (.normal, bkS1 n N f l g0 g1 g2 g3 x y z nm t false true)) (sk_leaf rfl)) fun q e => ?_
 subst e
 refine comesF_seq (bk_pc n N f l g0 g1 g2 g3 x y z nm t hpa (bk1_into bkQ n N f l g0 g1 g2 g3 x y z nm t pa) (bk1_fits bkQ n N f l g0 g1 g2 g3 x y z nm t pa) (bk1_leads n N f l g0 g1 g2 g3 x y z nm t hn hE ht hS)) fun q e => ?_
 rcases e with ⟨hq, he⟩ | ⟨rfl, hN12, hts⟩
 ·obtain ⟨qx, qs⟩ := q
  have he : qx = .ret := he
  subst he
  exact hq
 refine comesF_seq (bk_pc n N f l g0 g1 g2 g3 x y z nm t hpa (bk3_into bkQ n N f l g0 g1 g2 g3 x y z nm t pa) (bk3_fits bkQ n N f l g0 g1 g2 g3 x y z nm t pa) (bk3_leads hA hn hbo)) fun q e => ?_
 subst e
 refine comesF_flag true false true false ?_
 show ComesF Tryz.prog (bkC [true, true, true]) (bkB n N f l g0 g1 g2 g3 x y z nm t true false) (bkS3 n N f l g0 g1 g2 g3 x y z nm t (bnV oB p1 n f' l' x y z) (bnV oB p2 n f' l' x y z) (bnV oB p3 n f' l' x y z) true false) (BkL n N f l g0 g1 g2 g3)
 refine comesF_cutK (bkRe_ok hpa) rfl 1 [0, 5, 6, 7, 9, 15, 184, 185, 186] [6] (T := bkO bkQ n N f l g0 g1 g2 g3 x y z nm t pa (bnV oB p1 n f' l' x y z) (bnV oB p2 n f' l' x y z) (bnV oB p3 n f' l' x y z)) (by delta bkO; rfl) (bkO_into bkQ n N f l g0 g1 g2 g3 x y z nm t pa _ _ _) (bkO_fits bkQ n N f l g0 g1 g2 g3 x y z nm t pa _ _ _) ?_
 refine bkO_leads hA hn hr hN hB ?_
 generalize bnV oB p1 n f' l' x y z = b1 at hB hN ⊢
 generalize bnV oB p2 n f' l' x y z = b2 at hB hN ⊢
 generalize bnV oB p3 n f' l' x y z = b3 at hB hN ⊢
 have hM : uM n f' l' b1 b2 b3 + 1 ≤ 1000000 := by have := hB.few; have := hair.few; omega
 have hth : thK (uU0 n f' l' b1 b2 b3) (uU1 n f' l' b1 b2 b3) (uU2 n f' l' b1 b2 b3) (rdW x y z x) (rdW x y z y) (rdW x y z z) (uM n f' l' b1 b2 b3 + 1) = true := by
  have hd : dirErr x y z = 0 := dir_zero.2 ⟨hr.1.mono (by decide), hr.2⟩
  have e : ∀ a, rdW x y z a = redA x y z a := fun a => by unfold rdW; rw [hd]; rfl
  rw [thK_iff, e, e, e]
  exact hB.there
 have hl := bkU_loop n N f l g0 g1 g2 g3 x y z nm t hpa b1 b2 b3 (uU0 n f' l' b1 b2 b3) (uU1 n f' l' b1 b2 b3) (uU2 n f' l' b1 b2 b3) (uM n f' l' b1 b2 b3 + 1) hA hn hM hB.each
 rw [hth] at hl
 have hl2 := comesF_post (s := bkZ n N f l g0 g1 g2 g3 nm t false true true) true false hl
 refine sk_stop (fun q => q = (.exit 0, bkZ n N f l g0 g1 g2 g3 nm t true false true)) true [] [6] (comesF_flag false true false true hl2) fun q hq => ?_
 subst hq
 refine leads_in (T := bkA bkQ n N f l g0 g1 g2 g3 x y z nm t pa true) (by delta bkA; rfl) h1 h2 (sk_no rfl (hZ hN12 hts _ ?_))
 exact cutF_dn (bk_left2 n N f l g0 g1 g2 g3)
end
end Go.Ev
namespace Go.Ev
open Go Go.RowKit Go.Proofs
set_option maxRecDepth 100000
theorem ttL_lead {ψ : (Bool × A × Hp) ⊕ (List Bool × St) → Prop} {S : SkL} (h : SkLeads ψ S) : ∀ n, SkLeads ψ (ttL n S)
 | 0 => h
 | n + 1 => sk_tt (ttL_lead h n)
theorem ffO_lead {ψ : (X × St) ⊕ (List Bool × St) → Prop} {S : SkO} (h : SkLeads ψ S) : ∀ n, SkLeads ψ (ffO n S)
 | 0 => h
 | n + 1 => sk_ff (ffO_lead h n)
theorem air_nonneg (n : Nat) (f l : Nat → Int) : 0 ≤ airE n f l := by
 unfold airE
 split
 ·decide
 ·refine fnz_nonneg (fun k => ?_) n 0
  unfold aiR aiE
  refine firstZ_nonneg fun a ha => ?_
  simp only [List.mem_cons, List.not_mem_nil, or_false] at ha
  rcases ha with rfl | rfl | rfl
  ·exact wW_nonneg _ _ _
  ·exact wW_nonneg _ _ _
  ·exact errIf_nonneg (by decide)
theorem txS_pos {nm : ByteArray} {n : Nat} {g0 g1 g2 g3 : Nat → Int} : 1 ≤ (txS nm n g0 g1 g2 g3).size := by
 show 1 ≤ (((sSky ++ nm) ++ nlB) ++ jnB (LF lnB g0 g1 g2 g3) n).size
 rw [jn_is, ByteArray.size_append, ByteArray.size_append, ByteArray.size_append]
 have e1 : sSky.size = 4 := rfl
 omega
theorem bkQ_ok (m : Nat) : bkOk bkQ m = paSok psE nmP f0P f1P f2P f3P nlP m := by kernel_rfl
theorem bkQ_er (c : Nat) : bkEr bkQ c = paSer psE psAt c := by kernel_rfl
theorem bkPp_ok (m m2 : Nat) : SpecOk Tryz.prog 22 (bkPp bkQ m m2) := by
 unfold bkPp
 rw [bkQ_ok, bkQ_ok, bkQ_er]
 exact pa3_ok (paK_ok m) (paK_ok m2) (paR_ok 24)
theorem bkPx_ok (m c : Nat) : SpecOk Tryz.prog 22 (bkPx bkQ m c) := by
 unfold bkPx
 rw [bkQ_ok, bkQ_er, bkQ_er]
 exact pa3_ok (paK_ok m) (paR_ok c) (paR_ok 24)
theorem bkQ_p0 : bkQ.p0 = f0P := by kernel_rfl
theorem bkQ_p1 : bkQ.p1 = f1P := by kernel_rfl
theorem bkQ_p2 : bkQ.p2 = f2P := by kernel_rfl
theorem bkQ_p3 : bkQ.p3 = f3P := by kernel_rfl
theorem bkQ_pN : bkQ.pN = nmP := by kernel_rfl
theorem bkQ_pE : bkQ.pE = psE := by kernel_rfl
theorem bkQ_pL : bkQ.pL = nlP := by kernel_rfl
theorem bkQ_T : bkQ.T = txS := by kernel_rfl
theorem bkQ_E : bkQ.E = skyE := by kernel_rfl
section
variable {n N : Nat} {f l g0 g1 g2 g3 : Nat → Int} {x y z : Int} {nm t : ByteArray}
theorem bk_air (h : airE n f l ≠ 0) : CallAt Tryz.prog 5 (bkArgs n x y z nm N t) (bkHp n N f l g0 g1 g2 g3) (boo true) (bkHp n N f l g0 g1 g2 g3) := by
 obtain ⟨e, he⟩ : ∃ e : Nat, airE n f l = ((e + 1 : Nat) : Int) := ⟨(airE n f l).toNat - 1, by have := air_nonneg n f l; omega⟩
 have yes : SkLeads (fun o : (Bool × A × Hp) ⊕ (List Bool × St) => match o with | .inl r => r.2 = (boo true, bkHp n N f l g0 g1 g2 g3) | .inr _ => False) (bkY n N f l g0 g1 g2 g3) := sk_leaf rfl
 refine call_sk (tbA_ok (caE_ok (e + 1)) (ckE_ok 0)) Tryz.func5 (by kernel_rfl) (false, true) (by kernel_rfl) (S := bkSa n N f l g0 g1 g2 g3 airE e) (bka_into n N f l g0 g1 g2 g3 x y z nm t airE skyE e) (bka_fits n N f l g0 g1 g2 g3 x y z nm t airE skyE e) (SkLeads.all ?_)
 refine sk_either (fun _ => ttL_lead yes 6) fun hn => sk_need (okN_ok n) (sk_need ?_ (ttL_lead yes 6))
 have hn : n ≤ 17 := by simp at hn; omega
 rw [he, Bool.and_eq_true, Nat.ble_eq]
 exact ⟨by omega, by simp⟩
theorem bk_sky (hE : airE n f l = 0) (h : tinW x y z = true → skyE nm N g0 g1 g2 g3 ≠ 0) : CallAt Tryz.prog 5 (bkArgs n x y z nm N t) (bkHp n N f l g0 g1 g2 g3) (boo true) (bkHp n N f l g0 g1 g2 g3) := by
 obtain ⟨e, he⟩ : ∃ e : Nat, tinW x y z = true → skyE nm N g0 g1 g2 g3 = ((e + 1 : Nat) : Int) := ⟨(skyE nm N g0 g1 g2 g3).toNat - 1, fun ht => by have := sky_nonneg nm N g0 g1 g2 g3; have := h ht; omega⟩
 have yes : SkLeads (fun o : (Bool × A × Hp) ⊕ (List Bool × St) => match o with | .inl r => r.2 = (boo true, bkHp n N f l g0 g1 g2 g3) | .inr _ => False) (bkY n N f l g0 g1 g2 g3) := sk_leaf rfl
 refine call_sk (tbA_ok (caE_ok 0) (ckE_ok (e + 1))) Tryz.func5 (by kernel_rfl) (false, true) (by kernel_rfl) (S := bkSb n N f l g0 g1 g2 g3 x y z nm airE skyE e) (bkb_into n N f l g0 g1 g2 g3 x y z nm t airE skyE e) (bkb_fits n N f l g0 g1 g2 g3 x y z nm t airE skyE e) (SkLeads.all ?_)
 refine sk_either (fun _ => ttL_lead yes 6) fun hn => sk_need (okN_ok n) (sk_need ?_ (sk_ff (sk_either (fun _ => ttL_lead yes 4) fun ht => ?_)))
 ·have hn : n ≤ 17 := by simp at hn; omega
  rw [hE, Bool.and_eq_true, Nat.ble_eq]
  exact ⟨by omega, rfl⟩
 ·have ht : tinW x y z = true := by simpa using ht
  have hP : SkLeads (fun o : (Bool × A × Hp) ⊕ (List Bool × St) => match o with | .inl r => r.2 = (boo true, bkHp n N f l g0 g1 g2 g3) | .inr _ => False) (bkSe n N f l g0 g1 g2 g3 nm skyE e) := sk_need (okN_ok N) (sk_need (by rw [he ht]; simp) (ttL_lead yes 3))
  exact sk_either (fun _ => sk_either (fun _ => sk_ff hP) fun _ => sk_either (fun _ => ttL_lead yes 3) fun _ => hP) fun _ => ttL_lead yes 4
variable {ψ : (X × St) ⊕ (List Bool × St) → Prop} (hψ : ψ (.inl (.ret, bkR n N f l g0 g1 g2 g3 true false true))) (hS : skyE nm N g0 g1 g2 g3 = 0) (hN : N ≤ 12)
include hψ hS hN
theorem bkEnd_lead : SkLeads ψ (bkEnd bkQ n N f l g0 g1 g2 g3 (bkTx N bkQ nm g0 g1 g2 g3)) := by
 have hsz := txS_size hS hN
 have hp := txS_pos (nm := nm) (n := N) (g0 := g0) (g1 := g1) (g2 := g2) (g3 := g3)
 obtain ⟨c1, c2⟩ := cut_told hS hN
 have e : bkTx N bkQ nm g0 g1 g2 g3 = txS nm N g0 g1 g2 g3 := rfl
 rw [e]
 generalize txS nm N g0 g1 g2 g3 = s at hsz hp c1 c2
 have hw : IntKind.i64.wrap ((s.size : Int) - 1) = ((s.size - 1 : Nat) : Int) := by rw [wrap_id (by omega) (by omega)]; omega
 have hc : bkCt s = s.extract 0 (s.size - 1) := by unfold bkCt; rw [hw]; rfl
 unfold bkEnd
 rw [hc, hw]
 refine sk_need ?_ (sk_nn (sk_need ?_ (sk_tt (sk_yes ?_ (sk_leaf hψ)))))
 ·simp only [Bool.and_eq_true, decide_eq_true_eq]; omega
 ·show (psE (s.extract 0 (s.size - 1)) == ((24 + 1 : Nat) : Int)) = true
  rw [c1]; rfl
 ·show (psAt (s.extract 0 (s.size - 1)) == (N : Int)) = true
  rw [c2]; simp
omit hψ in
theorem bkAg_lead {k : Nat} (hk : N = k + 1) {Z : SkO} (hZ : SkLeads ψ Z) : SkLeads ψ (bkAg bkQ n N f l g0 g1 g2 g3 nm k Z) := by
 have hsz := txS_size hS hN
 obtain ⟨a1, a2, a3, a4, a5, a6⟩ := print_told hS hN
 have hnm := (nm_facts (sky_ok hS).2).2.2
 have hnn : Nat.ble N 1000000 = true := by rw [Nat.ble_eq]; omega
 have hk' : okE skyE nm N g0 g1 g2 g3 = true := by
  unfold okE
  rw [hS, Bool.and_eq_true, Nat.ble_eq]
  exact ⟨rfl, by omega⟩
 have e : bkTx N bkQ nm g0 g1 g2 g3 = txS nm N g0 g1 g2 g3 := rfl
 unfold bkAg
 rw [e]
 generalize txS nm N g0 g1 g2 g3 = s at hsz a1 a2 a3 a4 a5 a6
 have hkk : Nat.ble (k + 1) 1000000 = true := by rw [← hk]; exact hnn
 have n1 : ((bkQ.pE s == 0) && Nat.beq (bkQ.pL s) (k + 1)) = true := by
  rw [bkQ_pE, bkQ_pL]
  rw [a1, a3, hk, Bool.and_eq_true]
  exact ⟨rfl, Nat.beq_refl _⟩
 have n2 : (((bkQ.pN s).toList == nm.toList) && (Nat.beq (k + 1) N && (Nat.ble (k + 1) 1000000 && allK (eqR (bkQ.p0 s) (bkQ.p1 s) (bkQ.p2 s) (bkQ.p3 s) g0 g1 g2 g3) (k + 1)))) = true := by
  rw [bkQ_p0, bkQ_p1, bkQ_p2, bkQ_p3, bkQ_pN]
  rw [a4, hkk, hk, Nat.beq_refl]
  rw [show (nm.toList == nm.toList) = true from beq_self_eq_true _, Bool.true_and, Bool.true_and, Bool.true_and]
  refine allK_of fun j hj => ?_
  obtain ⟨j1, j2, j3, j4⟩ := a5 j (by omega)
  unfold eqR
  rw [j1, j2, j3, j4]
  simp
 have n3 : (decide ((0 : Int) ≤ 10) && decide ((10 : Int) < 256) && Nat.ble s.size 1000000) = true := by
  have : Nat.ble s.size 1000000 = true := by rw [Nat.ble_eq]; omega
  rw [this]; rfl
 have n4 : (((bkQ.nS s (UInt8.ofNat (Int.toNat 10)) : Nat) : Int) != IntKind.i64.wrap ((N : Int) + 2)) = false := by
  show (((wrdN s 10 : Nat) : Int) != IntKind.i64.wrap ((N : Int) + 2)) = false
  rw [a6, wrap_id (by omega) (by omega)]
  simp
 have t1 : SkLeads ψ (bkP1 bkQ n N f l g0 g1 g2 g3 nm s k Z) := by
  refine sk_nn (sk_need n1 (ffO_lead ?_ 8))
  refine sk_need (okN_ok _) (sk_need hkk (sk_ff (sk_ff (sk_need (ok2_ok _ _) (sk_need n2 (ffO_lead ?_ 8))))))
  exact sk_need n3 (sk_ff (sk_ff (sk_no n4 hZ)))
 exact sk_need (okN_ok N) (sk_need hnn (sk_ff (sk_need (okN_ok N) (sk_need hk' t1))))
theorem bkP2_lead {m2 : Nat} (he2 : psE t = 0) (hm2 : nlP t = m2 + 1) : SkLeads ψ (bkP2 bkQ n N f l g0 g1 g2 g3 t (bkTx N bkQ nm g0 g1 g2 g3) m2) := by
 obtain ⟨d1, d2⟩ := back_told he2
 rw [hm2] at d1 d2
 have n1 : ((bkQ.pE t == 0) && Nat.beq (bkQ.pL t) (m2 + 1)) = true := by
  rw [bkQ_pE, bkQ_pL]
  rw [he2, hm2, Bool.and_eq_true]
  exact ⟨rfl, Nat.beq_refl _⟩
 have n2 : okE bkQ.E (bkQ.pN t) (m2 + 1) (bkQ.p0 t) (bkQ.p1 t) (bkQ.p2 t) (bkQ.p3 t) = true := by
  rw [bkQ_E, bkQ_p0, bkQ_p1, bkQ_p2, bkQ_p3, bkQ_pN]
  unfold okE
  rw [d1, Bool.and_eq_true, Nat.ble_eq]
  have := (nm_facts (sky_ok d1).2).2.2
  exact ⟨rfl, by omega⟩
 have n3 : (!((bkQ.T (bkQ.pN t) (m2 + 1) (bkQ.p0 t) (bkQ.p1 t) (bkQ.p2 t) (bkQ.p3 t)).toList == t.toList)) = false := by
  rw [bkQ_T, bkQ_p0, bkQ_p1, bkQ_p2, bkQ_p3, bkQ_pN]
  rw [d2]
  simp
 exact sk_nn (sk_need n1 (sk_tt (sk_need (okN_ok _) (sk_need n2 (sk_ff (sk_no n3 (bkEnd_lead hψ hS hN)))))))
theorem bkE2_lead {c : Nat} (he2 : psE t = ((c + 1 : Nat) : Int)) : SkLeads ψ (bkE2 bkQ n N f l g0 g1 g2 g3 t (bkTx N bkQ nm g0 g1 g2 g3) c) := by
 have n1 : (bkQ.pE t == ((c + 1 : Nat) : Int)) = true := by
  rw [bkQ_pE, he2]
  exact beq_self_eq_true _
 exact sk_nn (sk_need n1 (sk_ff (bkEnd_lead hψ hS hN)))
end
theorem bkAp_lead {n k : Nat} {f l g0 g1 g2 g3 : Nat → Int} {nm t : ByteArray} (hS : skyE nm (k + 2) g0 g1 g2 g3 = 0) {m2 : Nat} (he2 : psE t = 0) (hm2 : nlP t = m2 + 1) (hN : k + 2 ≤ 12) (_ : t.size ≤ 200) (ψ : (X × St) ⊕ (List Bool × St) → Prop) (hψ : ψ (.inl (.ret, bkR n (k + 2) f l g0 g1 g2 g3 true false true))) : SkLeads ψ (bkAp bkQ n k f l g0 g1 g2 g3 nm t (k + 1) m2) :=
 bkAg_lead hS hN rfl (bkP2_lead hψ hS hN he2 hm2)
theorem bkAe_lead {n k : Nat} {f l g0 g1 g2 g3 : Nat → Int} {nm t : ByteArray} (hS : skyE nm (k + 2) g0 g1 g2 g3 = 0) {c : Nat} (he2 : psE t = ((c + 1 : Nat) : Int)) (hN : k + 2 ≤ 12) (_ : t.size ≤ 200) (ψ : (X × St) ⊕ (List Bool × St) → Prop) (hψ : ψ (.inl (.ret, bkR n (k + 2) f l g0 g1 g2 g3 true false true))) : SkLeads ψ (bkAe bkQ n k f l g0 g1 g2 g3 nm t (k + 1) c) :=
 bkAg_lead hS hN rfl (bkE2_lead hψ hS hN he2)
theorem back_call (n N : Nat) (f l g0 g1 g2 g3 : Nat → Int) (x y z : Int) (nm t : ByteArray) : CallAt Tryz.prog 5 (bkArgs n x y z nm N t) (bkHp n N f l g0 g1 g2 g3) (boo true) (bkHp n N f l g0 g1 g2 g3) := by
 by_cases hE : airE n f l = 0
 ·by_cases ht : tinW x y z = true ∧ skyE nm N g0 g1 g2 g3 = 0
  ·obtain ⟨ht, hS⟩ := ht
   have h2 := (sky_ok hS).1.two
   obtain ⟨k, rfl⟩ : ∃ k, N = k + 2 := ⟨N - 2, by omega⟩
   obtain ⟨e2, he2⟩ := Int.eq_ofNat_of_zero_le (psE_nn t)
   cases e2 with
   | zero =>
    obtain ⟨m2, hm2⟩ := ps_ok he2
    exact bk_main (pa := bkPp bkQ (k + 1) m2) (bkPp_ok (k + 1) m2) hE ht hS (Z := bkAp bkQ n k f l g0 g1 g2 g3 nm t (k + 1) m2) (bkAp_into bkQ n k f l g0 g1 g2 g3 x y z nm t (k + 1) m2 true) (bkAp_fits bkQ n k f l g0 g1 g2 g3 x y z nm t (k + 1) m2 true) (bkAp_lead hS he2 hm2)
   | succ c => exact bk_main (pa := bkPx bkQ (k + 1) c) (bkPx_ok (k + 1) c) hE ht hS (Z := bkAe bkQ n k f l g0 g1 g2 g3 nm t (k + 1) c) (bkAe_into bkQ n k f l g0 g1 g2 g3 x y z nm t (k + 1) c true) (bkAe_fits bkQ n k f l g0 g1 g2 g3 x y z nm t (k + 1) c true) (bkAe_lead hS he2)
  ·exact bk_sky hE fun h1 h2 => ht ⟨h1, h2⟩
 ·exact bk_air hE
end Go.Ev
