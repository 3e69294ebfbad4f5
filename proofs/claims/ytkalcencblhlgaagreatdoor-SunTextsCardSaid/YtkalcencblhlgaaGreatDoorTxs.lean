/- The law of a sky's texts: its entries, its trees. Conditions: as the entries say. -/
import Derived.Test.YtkalcencblhlgaaGreatDoorPqs
import Derived.Test.YtkalcencblhlgaaGreatDoorPrQ
import Derived.Test.YtkalcencblhlgaaGreatDoorOwn
import Derived.Test.YtkalcencblhlgaaGreatDoorSame
import Derived.Test.YtkalcencblhlgaaGreatDoorAwE
namespace Go.Ev
open Go Go.RowKit Go.Proofs
set_option maxRecDepth 100000
def ckEF (E : FE) (e : Nat) : FT
 | [], [], [nm], [⟨_, n, [.int .i64 g0, .int .i64 g1, .int .i64 g2, .int .i64 g3]⟩] => .need (E nm n g0 g1 g2 g3 == (e : Int)) (.leaf (int (e : Int), []))
 | _, _, _, _ => .fail 740
def psFok (V : ByteArray → Nat → A) (W : ByteArray → (Nat → Int) → (Nat → Int) → (Nat → Int) → (Nat → Int) → Nat → List Blk) (pE : ByteArray → Int) (pN : ByteArray → ByteArray) (p0 p1 p2 p3 : ByteArray → Nat → Int) (pL : ByteArray → Nat) (m : Nat) : FT
 | [], [], [s], [] => .need ((pE s == 0) && Nat.beq (pL s) (m + 1)) (.leaf (V (pN s) m, W (pN s) (p0 s) (p1 s) (p2 s) (p3 s) m))
 | _, _, _, _ => .fail 741
def psFer (pE pA : ByteArray → Int) (c : Nat) : FT
 | [], [], [s], [] => .need (pE s == ((c + 1 : Nat) : Int)) (.leaf (errV (pA s) ((c + 1 : Nat) : Int), []))
 | _, _, _, _ => .fail 742
def tbTx (pr ck qr pa pq : Spec) : List (FuncId × Spec) := (8, specAwake) :: (21, pr) :: (7, ck) :: (23, qr) :: (22, pa) :: (24, pq) ::
 (11, gvSp) :: (26, owSp) :: (25, ssSp) :: tb_tiny
def txHp (n : Nat) (g0 g1 g2 g3 : Nat → Int) : Hp := hpT [⟨some 0, n, skC g0 g1 g2 g3⟩] glY []
section
variable (E : FE) (T : FTx) (pE pA : ByteArray → Int) (pN : ByteArray → ByteArray) (p0 p1 p2 p3 : ByteArray → Nat → Int) (pL : ByteArray → Nat) (nm s : ByteArray) (g0 g1 g2 g3 : Nat → Int)
def paSok (m : Nat) : Spec := fun args h => specT [(false, [.s])] [] (psFok paV paNw pE pN p0 p1 p2 p3 pL m) args h
def pqSok (m : Nat) : Spec := fun args h => specT [(false, [.s])] [] (psFok qaV qaNw pE pN p0 p1 p2 p3 pL m) args h
def paSer (c : Nat) : Spec := fun args h => specT [(false, [.s])] [] (psFer pE pA c) args h
def ckSe (e : Nat) : Spec := fun args h => specT [(true, [.s, .t skyD])] [] (ckEF E e) args h
noncomputable def txT0 (k m : Nat) := preA Tryz.prog (tabOf (tbTx (prSp E T) (ckSe E 0) (pqSp E T) (paSok pE pN p0 p1 p2 p3 pL m) (pqSok pE pN p0 p1 p2 p3 pL m))) Tryz.f4 [skyA nm (k + 2), str s] (txHp (k + 2) g0 g1 g2 g3) (true, false)
noncomputable def txT1 (k c : Nat) := preA Tryz.prog (tabOf (tbTx (prSp E T) (ckSe E 0) (pqSp E T) (paSer pE pA c) (paSer pE pA c))) Tryz.f4 [skyA nm (k + 2), str s] (txHp (k + 2) g0 g1 g2 g3) (true, false)
noncomputable def txT2 (x n m : Nat) := preA Tryz.prog (tabOf (tbTx (pxSp E x) (ckSe E (x + 1)) (pqSp E T) (paSok pE pN p0 p1 p2 p3 pL m) (pqSok pE pN p0 p1 p2 p3 pL m))) Tryz.f4 [skyA nm n, str s] (txHp n g0 g1 g2 g3) (true, false)
noncomputable def txT3 (x n c : Nat) := preA Tryz.prog (tabOf (tbTx (pxSp E x) (ckSe E (x + 1)) (pqSp E T) (paSer pE pA c) (paSer pE pA c))) Tryz.f4 [skyA nm n, str s] (txHp n g0 g1 g2 g3) (true, false)
end
end Go.Ev
namespace Go.Ev
open Go Go.RowKit Go.Proofs
set_option maxRecDepth 100000
def ttL : Nat → SkL → SkL
 | 0, S => S
 | n + 1, S => .tt (ttL n S)
def ffL : Nat → SkL → SkL
 | 0, S => S
 | n + 1, S => .ff (ffL n S)
def ok2 (n m : Nat) : Bool := (Nat.ble n n && true) && ((Nat.ble m m && true) && true)
def pnL (b : Bool) (S : SkL) : SkL := .nn (.need b S)
section
variable (E : FE) (T : FTx) (pE pA : ByteArray → Int) (pN : ByteArray → ByteArray) (p0 p1 p2 p3 : ByteArray → Nat → Int) (pL : ByteArray → Nat) (nm s : ByteArray) (g0 g1 g2 g3 : Nat → Int) (n : Nat)
def txL (b : Bool) : SkL := .leaf (.inl (true, boo b, txHp n g0 g1 g2 g3))
def okC (m : Nat) : Bool := (pE s == 0) && Nat.beq (pL s) (m + 1)
def erC (c : Nat) : Bool := pE s == ((c + 1 : Nat) : Int)
def txEk (m : Nat) : SkL := .need (okN (m + 1)) (.need (Nat.ble (m + 1) 1000000) (.ff (.tt (.need (ok2 (m + 1) (m + 1)) (.need (((pN s).toList == (pN s).toList) && (Nat.beq (m + 1) (m + 1) && (Nat.ble (m + 1) 1000000 && allK (eqR (p0 s) (p1 s) (p2 s) (p3 s) (p0 s) (p1 s) (p2 s) (p3 s)) (m + 1)))) (ttL 7 (txL g0 g1 g2 g3 n true)))))))
def txEe (c : Nat) : SkL := ttL 5 (.node (pA s == pA s) (.tt (.tt (.node (((c + 1 : Nat) : Int) == ((c + 1 : Nat) : Int)) (txL g0 g1 g2 g3 n true) (txL g0 g1 g2 g3 n false)))) (ffL 3 (txL g0 g1 g2 g3 n false)))
def txGv (b : Bool) (Z : SkL) : SkL := .need (okN n) (.need (Nat.ble n 1000000) (.ff (.need (okN n) (.need (okE E nm n g0 g1 g2 g3) (pnL b (.need (okN n) (.need (E nm n g0 g1 g2 g3 == ((0 : Nat) : Int)) (.tt (.need (okN n) (.need (okE E nm n g0 g1 g2 g3) (pnL b (.node ((T nm n g0 g1 g2 g3).toList == (T nm n g0 g1 g2 g3).toList) (ttL 5 Z) (ffL 13 (txL g0 g1 g2 g3 n false))))))))))))))
def txXe (x : Nat) (Z : SkL) : SkL := ttL 3 (.node (((x + 1 : Nat) : Int) == ((x + 1 : Nat) : Int)) (ttL 2 Z) (ffL 10 (txL g0 g1 g2 g3 n false)))
def txGx (x : Nat) (b : Bool) (Z : SkL) : SkL := .need (okN n) (.need (Nat.ble n 1000000) (.ff (.need (okN n) (.need (dxE E x nm n g0 g1 g2 g3) (pnL b (.need (okN n) (.need (E nm n g0 g1 g2 g3 == ((x + 1 : Nat) : Int)) (.ff (pnL b (txXe g0 g1 g2 g3 n x Z))))))))))
def txG0 (x : Nat) (b : Bool) (Z : SkL) : SkL := .tt (.nn (.need (dxE E x nm 0 z0C z0C z0C z0C) (pnL b (.nn (.need (E nm 0 g0 g1 g2 g3 == ((x + 1 : Nat) : Int)) (.ff (pnL b (txXe g0 g1 g2 g3 0 x Z))))))))
def txB (G : SkL) : SkL := .node (decide ((s.size : Int) > 200)) (.node ((s.size : Int) != 4097) (txL g0 g1 g2 g3 n true) G) (.ff G)
def txW (G : SkL) : SkL := .node (decide ((nm.size : Int) ≤ 40)) (.node (decide ((n : Int) ≤ 12)) (.ff (txB s g0 g1 g2 g3 n G)) (.node (!((n : Int) == 65)) (.tt (txL g0 g1 g2 g3 n true)) (txB s g0 g1 g2 g3 n G))) (.tt (.tt (txL g0 g1 g2 g3 n true)))
def txW0 (G : SkL) : SkL := .node (decide ((nm.size : Int) ≤ 40)) (.tt (.ff (txB s g0 g1 g2 g3 0 G))) (.tt (.tt (txL g0 g1 g2 g3 0 true)))
end
section
variable (E : FE) (T : FTx) (pE pA : ByteArray → Int) (pN : ByteArray → ByteArray) (p0 p1 p2 p3 : ByteArray → Nat → Int) (pL : ByteArray → Nat) (nm s : ByteArray) (g0 g1 g2 g3 : Nat → Int) (k m c x : Nat)
def tx0 : SkL := txW nm s g0 g1 g2 g3 (k + 2) (txGv E T nm g0 g1 g2 g3 (k + 2) (okC pE pL s m) (txEk pN p0 p1 p2 p3 s g0 g1 g2 g3 (k + 2) m))
def tx1 : SkL := txW nm s g0 g1 g2 g3 (k + 2) (txGv E T nm g0 g1 g2 g3 (k + 2) (erC pE s c) (txEe pA s g0 g1 g2 g3 (k + 2) c))
def tx2 : SkL := txW nm s g0 g1 g2 g3 (k + 1) (txGx E nm g0 g1 g2 g3 (k + 1) x (okC pE pL s m) (txEk pN p0 p1 p2 p3 s g0 g1 g2 g3 (k + 1) m))
def tx3 : SkL := txW nm s g0 g1 g2 g3 (k + 1) (txGx E nm g0 g1 g2 g3 (k + 1) x (erC pE s c) (txEe pA s g0 g1 g2 g3 (k + 1) c))
def tx4 : SkL := txW0 nm s g0 g1 g2 g3 (txG0 E nm g0 g1 g2 g3 x (okC pE pL s m) (txEk pN p0 p1 p2 p3 s g0 g1 g2 g3 0 m))
def tx5 : SkL := txW0 nm s g0 g1 g2 g3 (txG0 E nm g0 g1 g2 g3 x (erC pE s c) (txEe pA s g0 g1 g2 g3 0 c))
theorem tx0_into : txT0 E T pE pN p0 p1 p2 p3 pL nm s g0 g1 g2 g3 k m = into (txT0 E T pE pN p0 p1 p2 p3 pL nm s g0 g1 g2 g3 k m) (tx0 E T pE pN p0 p1 p2 p3 pL nm s g0 g1 g2 g3 k m) := by kernel_rfl
theorem tx0_fits : fits (txT0 E T pE pN p0 p1 p2 p3 pL nm s g0 g1 g2 g3 k m) (tx0 E T pE pN p0 p1 p2 p3 pL nm s g0 g1 g2 g3 k m) = true := by kernel_rfl
theorem tx1_into : txT1 E T pE pA nm s g0 g1 g2 g3 k c = into (txT1 E T pE pA nm s g0 g1 g2 g3 k c) (tx1 E T pE pA nm s g0 g1 g2 g3 k c) := by kernel_rfl
theorem tx1_fits : fits (txT1 E T pE pA nm s g0 g1 g2 g3 k c) (tx1 E T pE pA nm s g0 g1 g2 g3 k c) = true := by kernel_rfl
theorem tx2_into : txT2 E T pE pN p0 p1 p2 p3 pL nm s g0 g1 g2 g3 x (k + 1) m = into (txT2 E T pE pN p0 p1 p2 p3 pL nm s g0 g1 g2 g3 x (k + 1) m) (tx2 E pE pN p0 p1 p2 p3 pL nm s g0 g1 g2 g3 k m x) := by kernel_rfl
theorem tx2_fits : fits (txT2 E T pE pN p0 p1 p2 p3 pL nm s g0 g1 g2 g3 x (k + 1) m) (tx2 E pE pN p0 p1 p2 p3 pL nm s g0 g1 g2 g3 k m x) = true := by kernel_rfl
theorem tx3_into : txT3 E T pE pA nm s g0 g1 g2 g3 x (k + 1) c = into (txT3 E T pE pA nm s g0 g1 g2 g3 x (k + 1) c) (tx3 E pE pA nm s g0 g1 g2 g3 k c x) := by kernel_rfl
theorem tx3_fits : fits (txT3 E T pE pA nm s g0 g1 g2 g3 x (k + 1) c) (tx3 E pE pA nm s g0 g1 g2 g3 k c x) = true := by kernel_rfl
theorem tx4_into : txT2 E T pE pN p0 p1 p2 p3 pL nm s g0 g1 g2 g3 x 0 m = into (txT2 E T pE pN p0 p1 p2 p3 pL nm s g0 g1 g2 g3 x 0 m) (tx4 E pE pN p0 p1 p2 p3 pL nm s g0 g1 g2 g3 m x) := by kernel_rfl
theorem tx4_fits : fits (txT2 E T pE pN p0 p1 p2 p3 pL nm s g0 g1 g2 g3 x 0 m) (tx4 E pE pN p0 p1 p2 p3 pL nm s g0 g1 g2 g3 m x) = true := by kernel_rfl
theorem tx5_into : txT3 E T pE pA nm s g0 g1 g2 g3 x 0 c = into (txT3 E T pE pA nm s g0 g1 g2 g3 x 0 c) (tx5 E pE pA nm s g0 g1 g2 g3 c x) := by kernel_rfl
theorem tx5_fits : fits (txT3 E T pE pA nm s g0 g1 g2 g3 x 0 c) (tx5 E pE pA nm s g0 g1 g2 g3 c x) = true := by kernel_rfl
end
end Go.Ev
namespace Go.Ev
open Go Go.RowKit Go.Proofs
set_option maxRecDepth 100000
theorem ckE_ok (e : Nat) : SpecOk Tryz.prog 7 (ckSe skyE e) := by
 intro args h v h' hr
 refine qk_ok args h v h' ?_
 unfold ckSe specT at hr
 unfold ckSp specT
 split at hr
 ·rename_i d gids hd hgi
  obtain ⟨hok, hr⟩ := Tree.need_some hr
  rw [hok]
  obtain ⟨r, hF, hr⟩ := Tree.bind_some hr
  obtain ⟨l, m, n, ts, ok⟩ := d
  simp only [] at hF hr ⊢
  unfold ckEF at hF
  split at hF
  ·rename_i nm id n g0 g1 g2 g3 hr1 hr2
   obtain ⟨he, hF⟩ := Tree.need_some hF
   have he : skyE nm n g0 g1 g2 g3 = (e : Int) := by simpa using he
   simp only [Tree.run, Option.some.injEq] at hF
   subst hF
   show ((Tree.leaf (int (skyE nm n g0 g1 g2 g3), [])).bind _).run = _
   rw [he]
   exact hr1
  ·cases hF
 ·cases hr
theorem pE_inj {a : Int} {c : Nat} (h : (a == ((c + 1 : Nat) : Int)) = true) : a = ((c + 1 : Nat) : Int) ∧ a ≠ 0 := by
 rw [beq_iff_eq] at h
 exact ⟨h, by omega⟩
theorem paK_ok (m : Nat) : SpecOk Tryz.prog 22 (paSok psE nmP f0P f1P f2P f3P nlP m) := by
 refine specT_ok (by decide) (by decide) fun l m' n ts v news hl hm hn ht hnil hF => ?_
 unfold psFok at hF
 split at hF
 ·rename_i s
  obtain ⟨hok, hF⟩ := Tree.need_some hF
  rw [Bool.and_eq_true, beq_iff_eq] at hok
  obtain ⟨h1, h2⟩ := hok
  have h2 := Nat.eq_of_beq_eq_true h2
  simp only [Tree.run, Option.some.injEq, Prod.mk.injEq] at hF
  obtain ⟨rfl, rfl⟩ := hF
  refine pa_call s _ _ (fun h => absurd h1 h) fun m2 _ h4 => ?_
  obtain rfl : m2 = m := by omega
  exact ⟨rfl, rfl⟩
 ·cases hF
theorem pqK_ok (m : Nat) : SpecOk Tryz.prog 24 (pqSok psE nmP f0P f1P f2P f3P nlP m) := by
 refine specT_ok (by decide) (by decide) fun l m' n ts v news hl hm hn ht hnil hF => ?_
 unfold psFok at hF
 split at hF
 ·rename_i s
  obtain ⟨hok, hF⟩ := Tree.need_some hF
  rw [Bool.and_eq_true, beq_iff_eq] at hok
  obtain ⟨h1, h2⟩ := hok
  have h2 := Nat.eq_of_beq_eq_true h2
  simp only [Tree.run, Option.some.injEq, Prod.mk.injEq] at hF
  obtain ⟨rfl, rfl⟩ := hF
  refine psq_call s _ _ (fun h => absurd h1 h) fun m2 _ h4 => ?_
  obtain rfl : m2 = m := by omega
  exact ⟨rfl, rfl⟩
 ·cases hF
theorem paR_ok (c : Nat) : SpecOk Tryz.prog 22 (paSer psE psAt c) := by
 refine specT_ok (by decide) (by decide) fun l m' n ts v news hl hm hn ht hnil hF => ?_
 unfold psFer at hF
 split at hF
 ·rename_i s
  obtain ⟨hok, hF⟩ := Tree.need_some hF
  obtain ⟨h1, h2⟩ := pE_inj hok
  simp only [Tree.run, Option.some.injEq, Prod.mk.injEq] at hF
  obtain ⟨rfl, rfl⟩ := hF
  exact pa_call s _ _ (fun _ => ⟨by rw [h1], rfl⟩) fun m2 h3 _ => absurd h3 h2
 ·cases hF
theorem pqR_ok (c : Nat) : SpecOk Tryz.prog 24 (paSer psE psAt c) := by
 refine specT_ok (by decide) (by decide) fun l m' n ts v news hl hm hn ht hnil hF => ?_
 unfold psFer at hF
 split at hF
 ·rename_i s
  obtain ⟨hok, hF⟩ := Tree.need_some hF
  obtain ⟨h1, h2⟩ := pE_inj hok
  simp only [Tree.run, Option.some.injEq, Prod.mk.injEq] at hF
  obtain ⟨rfl, rfl⟩ := hF
  exact psq_call s _ _ (fun _ => ⟨by rw [h1], rfl⟩) fun m2 h3 _ => absurd h3 h2
 ·cases hF
theorem tbTx_ok {pr ck qr pa pq : Spec} (h1 : SpecOk Tryz.prog 21 pr) (h2 : SpecOk Tryz.prog 7 ck) (h3 : SpecOk Tryz.prog 23 qr) (h4 : SpecOk Tryz.prog 22 pa) (h5 : SpecOk Tryz.prog 24 pq) : TabOk Tryz.prog (tabOf (tbTx pr ck qr pa pq)) :=
 tab_cons (tab_cons (tab_cons (tab_cons (tab_cons (tab_cons (tab_cons (tab_cons (tab_cons tb_tiny_ok ss_ok) ow_ok) gv_ok) h5) h4) h3) h2) h1) specAwake_ok
theorem psE_nn (s : ByteArray) : 0 ≤ psE s := by
 unfold psE
 split
 ·exact firstZ_nonneg fun z hz => by
   simp only [List.mem_cons, List.not_mem_nil, or_false] at hz
   rcases hz with rfl | rfl <;> exact errIf_nonneg (by decide)
 ·split
  ·decide
  ·exact sky_nonneg _ _ _ _ _ _
theorem ttL_ok {ψ : (Bool × A × Hp) ⊕ (List Bool × St) → Prop} {S : SkL} (h : SkLeads ψ S) : ∀ n, SkLeads ψ (ttL n S)
 | 0 => h
 | n + 1 => sk_tt (ttL_ok h n)
theorem ok2_ok (n m : Nat) : ok2 n m = true := by unfold ok2; rw [ble_self, ble_self]; rfl
def isTr (H : Hp) (o : (Bool × A × Hp) ⊕ (List Bool × St)) : Prop := match o with | .inl r => r.2 = (boo true, H) | .inr _ => False
section
variable (nm s : ByteArray) (g0 g1 g2 g3 : Nat → Int) (n : Nat)
theorem txL_ok : SkLeads (isTr (txHp n g0 g1 g2 g3)) (txL g0 g1 g2 g3 n true) := sk_leaf rfl
theorem txEk_ok {m : Nat} (hm : m + 1 ≤ 1000000) : SkLeads (isTr (txHp n g0 g1 g2 g3)) (txEk nmP f0P f1P f2P f3P s g0 g1 g2 g3 n m) := by
 have hb : Nat.ble (m + 1) 1000000 = true := by rw [Nat.ble_eq]; omega
 refine sk_need (okN_ok _) (sk_need hb (sk_ff (sk_tt (sk_need (ok2_ok _ _) (sk_need ?_ (ttL_ok (txL_ok g0 g1 g2 g3 n) 7))))))
 rw [hb]
 have h1 : ((nmP s).toList == (nmP s).toList) = true := beq_self_eq_true _
 have h2 : Nat.beq (m + 1) (m + 1) = true := Nat.beq_refl _
 rw [h1, h2, Bool.true_and, Bool.true_and, Bool.true_and]
 exact allK_of fun k _ => by unfold eqR; simp
theorem txEe_ok (c : Nat) : SkLeads (isTr (txHp n g0 g1 g2 g3)) (txEe psAt s g0 g1 g2 g3 n c) :=
 ttL_ok (sk_yes (beq_self_eq_true _) (sk_tt (sk_tt (sk_yes (beq_self_eq_true _) (txL_ok g0 g1 g2 g3 n))))) 5
variable {nm n g0 g1 g2 g3}
theorem txGv_ok {b : Bool} {Z : SkL} (hE : skyE nm n g0 g1 g2 g3 = 0) (hn : n ≤ 1000000) (hnm : nm.size ≤ 1000) (hb : b = true) (hZ : SkLeads (isTr (txHp n g0 g1 g2 g3)) Z) : SkLeads (isTr (txHp n g0 g1 g2 g3)) (txGv skyE txS nm g0 g1 g2 g3 n b Z) := by
 have hk : okE skyE nm n g0 g1 g2 g3 = true := by
  unfold okE
  rw [hE, Bool.and_eq_true, Nat.ble_eq]
  exact ⟨rfl, hnm⟩
 have hn' : Nat.ble n 1000000 = true := by rw [Nat.ble_eq]; exact hn
 exact sk_need (okN_ok _) (sk_need hn' (sk_ff (sk_need (okN_ok _) (sk_need hk (sk_nn (sk_need hb (sk_need (okN_ok _) (sk_need (by rw [hE]; rfl) (sk_tt (sk_need (okN_ok _) (sk_need hk (sk_nn (sk_need hb (sk_yes (beq_self_eq_true _) (ttL_ok hZ 5)))))))))))))))
theorem txXe_ok {x : Nat} {Z : SkL} (hZ : SkLeads (isTr (txHp n g0 g1 g2 g3)) Z) : SkLeads (isTr (txHp n g0 g1 g2 g3)) (txXe g0 g1 g2 g3 n x Z) := ttL_ok (sk_yes (beq_self_eq_true _) (ttL_ok hZ 2)) 3
theorem txGx_ok {x : Nat} {b : Bool} {Z : SkL} (hE : dxE skyE x nm n g0 g1 g2 g3 = true) (hn : n ≤ 1000000) (hb : b = true) (hZ : SkLeads (isTr (txHp n g0 g1 g2 g3)) Z) : SkLeads (isTr (txHp n g0 g1 g2 g3)) (txGx skyE nm g0 g1 g2 g3 n x b Z) := by
 have hn' : Nat.ble n 1000000 = true := by rw [Nat.ble_eq]; exact hn
 exact sk_need (okN_ok _) (sk_need hn' (sk_ff (sk_need (okN_ok _) (sk_need hE (sk_nn (sk_need hb (sk_need (okN_ok _) (sk_need hE (sk_ff (sk_nn (sk_need hb (txXe_ok hZ))))))))))))
theorem txG0_ok {x : Nat} {b : Bool} {Z : SkL} (hE : dxE skyE x nm 0 g0 g1 g2 g3 = true) (hb : b = true) (hZ : SkLeads (isTr (txHp 0 g0 g1 g2 g3)) Z) : SkLeads (isTr (txHp 0 g0 g1 g2 g3)) (txG0 skyE nm g0 g1 g2 g3 x b Z) := by
 have h0 : dxE skyE x nm 0 z0C z0C z0C z0C = true := by
  unfold dxE at hE ⊢
  rw [sky_zero nm z0C z0C z0C z0C g0 g1 g2 g3]
  exact hE
 exact sk_tt (sk_nn (sk_need h0 (sk_nn (sk_need hb (sk_nn (sk_need hE (sk_ff (sk_nn (sk_need hb (txXe_ok hZ))))))))))
theorem txB_ok {G : SkL} (hG : s.size ≤ 4097 → SkLeads (isTr (txHp n g0 g1 g2 g3)) G) : SkLeads (isTr (txHp n g0 g1 g2 g3)) (txB s g0 g1 g2 g3 n G) := by
 refine sk_either (fun _ => sk_either (fun _ => txL_ok g0 g1 g2 g3 n) fun h => hG ?_) fun h => sk_ff (hG ?_)
 ·have h : (s.size : Int) = 4097 := by simpa using h
  omega
 ·simp only [decide_eq_false_iff_not] at h
  omega
theorem txW_ok {G : SkL} (hG : nm.size ≤ 40 → n ≤ 65 → s.size ≤ 4097 → SkLeads (isTr (txHp n g0 g1 g2 g3)) G) : SkLeads (isTr (txHp n g0 g1 g2 g3)) (txW nm s g0 g1 g2 g3 n G) := by
 refine sk_either (fun h1 => sk_either (fun h2 => sk_ff (txB_ok s fun h3 => hG ?_ ?_ h3)) fun _ => sk_either (fun _ => sk_tt (txL_ok g0 g1 g2 g3 n)) fun h2 => txB_ok s fun h3 => hG ?_ ?_ h3) fun _ => sk_tt (sk_tt (txL_ok g0 g1 g2 g3 n))
 ·simp only [decide_eq_true_eq] at h1; omega
 ·simp only [decide_eq_true_eq] at h2; omega
 ·simp only [decide_eq_true_eq] at h1; omega
 ·have h2 : ((n : Int) == 65) = true := by simpa using h2
  rw [beq_iff_eq] at h2
  omega
theorem txW0_ok {G : SkL} (hG : s.size ≤ 4097 → SkLeads (isTr (txHp 0 g0 g1 g2 g3)) G) : SkLeads (isTr (txHp 0 g0 g1 g2 g3)) (txW0 nm s g0 g1 g2 g3 G) :=
 sk_either (fun _ => sk_tt (sk_ff (txB_ok s hG))) fun _ => sk_tt (sk_tt (txL_ok g0 g1 g2 g3 0))
end
theorem nl_small {s : ByteArray} (h : s.size ≤ 4097) : nlP s ≤ 4097 := by
 have h1 : cntA s 10 ≤ s.size := by rw [← mAt_end]; exact mAt_le s 10 _
 unfold nlP
 omega
theorem ps_ok {s : ByteArray} (h : psE s = 0) : ∃ m, nlP s = m + 1 := by
 rcases Nat.eq_zero_or_pos (nlP s) with h0 | h0
 ·exfalso
  have hz := sky_zero2 (nmP s) (f0P s) (f1P s) (f2P s) (f3P s)
  unfold psE at h
  split at h
  ·rename_i hb
   rw [h] at hb
   cases hb
  ·split at h
   ·cases h
   ·rw [h0] at h
    rw [h] at hz
    cases hz
 ·exact ⟨nlP s - 1, by omega⟩
theorem texts_call (nm s : ByteArray) (n : Nat) (g0 g1 g2 g3 : Nat → Int) : CallAt Tryz.prog 4 [skyA nm n, str s] (txHp n g0 g1 g2 g3) (boo true) (txHp n g0 g1 g2 g3) := by
 have hN : ∀ m, nlP s = m + 1 → s.size ≤ 4097 → m + 1 ≤ 1000000 := fun m h1 h2 => by
  have := nl_small h2
  omega
 obtain ⟨e2, he2⟩ := Int.eq_ofNat_of_zero_le (psE_nn s)
 by_cases hE : skyE nm n g0 g1 g2 g3 = 0
 ·have h2 := (sky_ok hE).1.two
  obtain ⟨k, rfl⟩ : ∃ k, n = k + 2 := ⟨n - 2, by omega⟩
  cases e2 with
  | zero =>
   obtain ⟨m, hm⟩ := ps_ok he2
   refine call_sk (tbTx_ok pr_ok (ckE_ok 0) pq_ok (paK_ok m) (pqK_ok m)) Tryz.func4 (by kernel_rfl) (true, false) (by kernel_rfl) (S := tx0 skyE txS psE nmP f0P f1P f2P f3P nlP nm s g0 g1 g2 g3 k m) (tx0_into _ _ _ _ _ _ _ _ _ nm s g0 g1 g2 g3 k m) (tx0_fits _ _ _ _ _ _ _ _ _ nm s g0 g1 g2 g3 k m) (SkLeads.all (p := isTr (txHp (k + 2) g0 g1 g2 g3)) ?_)
   refine txW_ok s fun h3 h4 h5 => txGv_ok hE (by omega) (by omega) ?_ (txEk_ok s g0 g1 g2 g3 (k + 2) (hN m hm h5))
   unfold okC
   rw [he2, hm, Bool.and_eq_true]
   exact ⟨rfl, Nat.beq_refl _⟩
  | succ c =>
   refine call_sk (tbTx_ok pr_ok (ckE_ok 0) pq_ok (paR_ok c) (pqR_ok c)) Tryz.func4 (by kernel_rfl) (true, false) (by kernel_rfl) (S := tx1 skyE txS psE psAt nm s g0 g1 g2 g3 k c) (tx1_into _ _ _ _ nm s g0 g1 g2 g3 k c) (tx1_fits _ _ _ _ nm s g0 g1 g2 g3 k c) (SkLeads.all (p := isTr (txHp (k + 2) g0 g1 g2 g3)) ?_)
   refine txW_ok s fun h3 h4 h5 => txGv_ok hE (by omega) (by omega) ?_ (txEe_ok s g0 g1 g2 g3 (k + 2) c)
   unfold erC
   rw [he2]
   exact beq_self_eq_true _
 ·obtain ⟨x, hx⟩ := dx_err hE
  cases n with
  | zero =>
   cases e2 with
   | zero =>
    obtain ⟨m, hm⟩ := ps_ok he2
    refine call_sk (tbTx_ok (px_ok x) (ckE_ok (x + 1)) pq_ok (paK_ok m) (pqK_ok m)) Tryz.func4 (by kernel_rfl) (true, false) (by kernel_rfl) (S := tx4 skyE psE nmP f0P f1P f2P f3P nlP nm s g0 g1 g2 g3 m x) (tx4_into _ txS _ _ _ _ _ _ _ nm s g0 g1 g2 g3 m x) (tx4_fits _ txS _ _ _ _ _ _ _ nm s g0 g1 g2 g3 m x) (SkLeads.all (p := isTr (txHp 0 g0 g1 g2 g3)) ?_)
    refine txW0_ok s fun h5 => txG0_ok hx ?_ (txEk_ok s g0 g1 g2 g3 0 (hN m hm h5))
    unfold okC
    rw [he2, hm, Bool.and_eq_true]
    exact ⟨rfl, Nat.beq_refl _⟩
   | succ c =>
    refine call_sk (tbTx_ok (px_ok x) (ckE_ok (x + 1)) pq_ok (paR_ok c) (pqR_ok c)) Tryz.func4 (by kernel_rfl) (true, false) (by kernel_rfl) (S := tx5 skyE psE psAt nm s g0 g1 g2 g3 c x) (tx5_into _ txS _ _ nm s g0 g1 g2 g3 c x) (tx5_fits _ txS _ _ nm s g0 g1 g2 g3 c x) (SkLeads.all (p := isTr (txHp 0 g0 g1 g2 g3)) ?_)
    refine txW0_ok s fun h5 => txG0_ok hx ?_ (txEe_ok s g0 g1 g2 g3 0 c)
    unfold erC
    rw [he2]
    exact beq_self_eq_true _
  | succ k =>
   cases e2 with
   | zero =>
    obtain ⟨m, hm⟩ := ps_ok he2
    refine call_sk (tbTx_ok (px_ok x) (ckE_ok (x + 1)) pq_ok (paK_ok m) (pqK_ok m)) Tryz.func4 (by kernel_rfl) (true, false) (by kernel_rfl) (S := tx2 skyE psE nmP f0P f1P f2P f3P nlP nm s g0 g1 g2 g3 k m x) (tx2_into _ txS _ _ _ _ _ _ _ nm s g0 g1 g2 g3 k m x) (tx2_fits _ txS _ _ _ _ _ _ _ nm s g0 g1 g2 g3 k m x) (SkLeads.all (p := isTr (txHp (k + 1) g0 g1 g2 g3)) ?_)
    refine txW_ok s fun h3 h4 h5 => txGx_ok hx (by omega) ?_ (txEk_ok s g0 g1 g2 g3 (k + 1) (hN m hm h5))
    unfold okC
    rw [he2, hm, Bool.and_eq_true]
    exact ⟨rfl, Nat.beq_refl _⟩
   | succ c =>
    refine call_sk (tbTx_ok (px_ok x) (ckE_ok (x + 1)) pq_ok (paR_ok c) (pqR_ok c)) Tryz.func4 (by kernel_rfl) (true, false) (by kernel_rfl) (S := tx3 skyE psE psAt nm s g0 g1 g2 g3 k c x) (tx3_into _ txS _ _ nm s g0 g1 g2 g3 k c x) (tx3_fits _ txS _ _ nm s g0 g1 g2 g3 k c x) (SkLeads.all (p := isTr (txHp (k + 1) g0 g1 g2 g3)) ?_)
    refine txW_ok s fun h3 h4 h5 => txGx_ok hx (by omega) ?_ (txEe_ok s g0 g1 g2 g3 (k + 1) c)
    unfold erC
    rw [he2]
    exact beq_self_eq_true _
end Go.Ev
