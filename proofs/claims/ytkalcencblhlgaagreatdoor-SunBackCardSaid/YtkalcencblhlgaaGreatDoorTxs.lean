/- The law of a sky's texts: its entries, its trees. Conditions: as the entries say. -/
import Derived.Test.YtkalcencblhlgaaGreatDoorPqs
import Derived.Test.YtkalcencblhlgaaGreatDoorPrS
import Derived.Test.YtkalcencblhlgaaGreatDoorOwn
import Derived.Test.YtkalcencblhlgaaGreatDoorAwE
namespace Go.Ev
open Go Go.RowKit Go.Proofs
set_option maxRecDepth 100000
def ckEF (E : FE) (e : Nat) : FT
 | [], [], [nm], [⟨_, n, [.int .i64 g0, .int .i64 g1, .int .i64 g2, .int .i64 g3]⟩] => .need (E nm n g0 g1 g2 g3 == (e : Int)) (.leaf (int (e : Int), []))
 | _, _, _, _ => .fail 740
def psFok (V : ByteArray → Nat → A) (W : ByteArray → (Nat → Int) → (Nat → Int) → (Nat → Int) → (Nat → Int) → Nat → List Blk) (pE : ByteArray → Int) (pN : ByteArray → ByteArray) (p0 p1 p2 p3 : ByteArray → Nat → Int) (pL : ByteArray → Nat) (m : Nat) : FT
 | [], [], [s], [] => .need ((pE s == 0) && Nat.beq (pL s) (m + 1)) (.leaf (V (pN s) m, W (pN s) (p0 s) (p1 s) (p2 s) (p3 s) m))
 | _, _, _, _ => .fail 741
def psFer (pE pA : ByteArray → Int) (c : Nat) : FT
 | [], [], [s], [] => .need (pE s == ((c + 1 : Nat) : Int)) (.leaf (errV (pA s) ((c + 1 : Nat) : Int), []))
 | _, _, _, _ => .fail 742
section
variable (E : FE) (T : FTx) (pE pA : ByteArray → Int) (pN : ByteArray → ByteArray) (p0 p1 p2 p3 : ByteArray → Nat → Int) (pL : ByteArray → Nat) (nm s : ByteArray) (g0 g1 g2 g3 : Nat → Int)
def paSok (m : Nat) : Spec := fun args h => specT [(false, [.s])] [] (psFok paV paNw pE pN p0 p1 p2 p3 pL m) args h
def paSer (c : Nat) : Spec := fun args h => specT [(false, [.s])] [] (psFer pE pA c) args h
def ckSe (e : Nat) : Spec := fun args h => specT [(true, [.s, .t skyD])] [] (ckEF E e) args h
end
end Go.Ev
namespace Go.Ev
open Go Go.RowKit Go.Proofs
set_option maxRecDepth 100000
def ttL : Nat → SkL → SkL
 | 0, S => S
 | n + 1, S => .tt (ttL n S)
def ok2 (n m : Nat) : Bool := (Nat.ble n n && true) && ((Nat.ble m m && true) && true)
section
variable (E : FE) (T : FTx) (pE pA : ByteArray → Int) (pN : ByteArray → ByteArray) (p0 p1 p2 p3 : ByteArray → Nat → Int) (pL : ByteArray → Nat) (nm s : ByteArray) (g0 g1 g2 g3 : Nat → Int) (n : Nat)
end
section
variable (E : FE) (T : FTx) (pE pA : ByteArray → Int) (pN : ByteArray → ByteArray) (p0 p1 p2 p3 : ByteArray → Nat → Int) (pL : ByteArray → Nat) (nm s : ByteArray) (g0 g1 g2 g3 : Nat → Int) (k m c x : Nat)
end
end Go.Ev
namespace Go.Ev
open Go Go.RowKit Go.Proofs
set_option maxRecDepth 100000
theorem ckE_ok (e : Nat) : SpecOk Tryz.prog 7 (ckSe skyE e) := by
 intro args h v h' hr
 refine qk_ok args h v h' ?_
 unfold ckSe specT at hr
 unfold ckSp specT
 split at hr
 ·rename_i d gids hd hgi
  obtain ⟨hok, hr⟩ := Tree.need_some hr
  rw [hok]
  obtain ⟨r, hF, hr⟩ := Tree.bind_some hr
  obtain ⟨l, m, n, ts, ok⟩ := d
  simp only [] at hF hr ⊢
  unfold ckEF at hF
  split at hF
  ·rename_i nm id n g0 g1 g2 g3 hr1 hr2
   obtain ⟨he, hF⟩ := Tree.need_some hF
   have he : skyE nm n g0 g1 g2 g3 = (e : Int) := by simpa using he
   simp only [Tree.run, Option.some.injEq] at hF
   subst hF
   show ((Tree.leaf (int (skyE nm n g0 g1 g2 g3), [])).bind _).run = _
   rw [he]
   exact hr1
  ·cases hF
 ·cases hr
theorem pE_inj {a : Int} {c : Nat} (h : (a == ((c + 1 : Nat) : Int)) = true) : a = ((c + 1 : Nat) : Int) ∧ a ≠ 0 := by
 rw [beq_iff_eq] at h
 exact ⟨h, by omega⟩
theorem paK_ok (m : Nat) : SpecOk Tryz.prog 22 (paSok psE nmP f0P f1P f2P f3P nlP m) := by
 refine specT_ok (by decide) (by decide) fun l m' n ts v news hl hm hn ht hnil hF => ?_
 unfold psFok at hF
 split at hF
 ·rename_i s
  obtain ⟨hok, hF⟩ := Tree.need_some hF
  rw [Bool.and_eq_true, beq_iff_eq] at hok
  obtain ⟨h1, h2⟩ := hok
  have h2 := Nat.eq_of_beq_eq_true h2
  simp only [Tree.run, Option.some.injEq, Prod.mk.injEq] at hF
  obtain ⟨rfl, rfl⟩ := hF
  refine pa_call s _ _ (fun h => absurd h1 h) fun m2 _ h4 => ?_
  obtain rfl : m2 = m := by omega
  exact ⟨rfl, rfl⟩
 ·cases hF
theorem paR_ok (c : Nat) : SpecOk Tryz.prog 22 (paSer psE psAt c) := by
 refine specT_ok (by decide) (by decide) fun l m' n ts v news hl hm hn ht hnil hF => ?_
 unfold psFer at hF
 split at hF
 ·rename_i s
  obtain ⟨hok, hF⟩ := Tree.need_some hF
  obtain ⟨h1, h2⟩ := pE_inj hok
  simp only [Tree.run, Option.some.injEq, Prod.mk.injEq] at hF
  obtain ⟨rfl, rfl⟩ := hF
  exact pa_call s _ _ (fun _ => ⟨by rw [h1], rfl⟩) fun m2 h3 _ => absurd h3 h2
 ·cases hF
theorem psE_nn (s : ByteArray) : 0 ≤ psE s := by
 unfold psE
 split
 ·exact firstZ_nonneg fun z hz => by
   simp only [List.mem_cons, List.not_mem_nil, or_false] at hz
   rcases hz with rfl | rfl <;> exact errIf_nonneg (by decide)
 ·split
  ·decide
  ·exact sky_nonneg _ _ _ _ _ _
theorem ok2_ok (n m : Nat) : ok2 n m = true := by unfold ok2; rw [ble_self, ble_self]; rfl
section
variable (nm s : ByteArray) (g0 g1 g2 g3 : Nat → Int) (n : Nat)
variable {nm n g0 g1 g2 g3}
end
end Go.Ev
