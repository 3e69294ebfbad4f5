/- CheckSky at a sky with a known error. Conditions: none. -/
import Derived.Test.YtkalcencblhlgaaGreatDoorAtE
namespace Go.Ev
open Go Go.Proofs
set_option maxRecDepth 100000
theorem errIf_nonneg {c : Bool} {e : Int} (h : 0 ≤ e) : 0 ≤ errIf c e := by cases c with | true => exact h | false => exact Int.le_refl _
theorem firstZ_nonneg : ∀ {l : List Int}, (∀ a ∈ l, 0 ≤ a) → 0 ≤ firstZ l
 | [], _ => Int.le_refl _
 | a :: l, h => by
  unfold firstZ
  split
  ·exact h a (by simp)
  ·exact firstZ_nonneg fun c hc => h c (by simp [hc])
theorem wW_nonneg (n lo hi : Int) : 0 ≤ wW n lo hi := errIf_nonneg (by decide)
theorem qray_nonneg (x y z : Int) : 0 ≤ qrayErr x y z := by
 refine firstZ_nonneg fun a ha => ?_
 simp only [List.mem_cons, List.not_mem_nil, or_false] at ha
 have hv : 0 ≤ vecErr x y z := firstZ_nonneg fun a ha => by
  simp only [List.mem_cons, List.not_mem_nil, or_false] at ha
  rcases ha with rfl | rfl | rfl <;> exact wW_nonneg _ _ _
 rcases ha with rfl | rfl
 ·unfold qdirErr
  split
  ·exact hv
  ·exact errIf_nonneg (by decide)
 ·exact firstZ_nonneg fun a ha => by
   simp only [List.mem_cons, List.not_mem_nil, or_false] at ha
   rcases ha with rfl | rfl | rfl <;> exact wW_nonneg _ _ _
theorem rowQ_nonneg (g0 g1 g2 g3 : Nat → Int) (k : Nat) : 0 ≤ rowQ g0 g1 g2 g3 k := by
 unfold rowQ rowF
 split
 ·refine firstZ_nonneg fun a ha => ?_
  simp only [List.mem_cons, List.not_mem_nil, or_false] at ha
  rcases ha with rfl | rfl | rfl | rfl
  ·exact wW_nonneg _ _ _
  ·exact errIf_nonneg (by decide)
  ·exact errIf_nonneg (by decide)
  ·exact qray_nonneg _ _ _
 ·exact errIf_nonneg (by decide)
theorem fnz_nonneg {f : Nat → Int} (h : ∀ k, 0 ≤ f k) : ∀ (m k : Nat), 0 ≤ (fnz f m k).getD 0
 | 0, _ => Int.le_refl _
 | m + 1, k => by
  unfold fnz
  split
  ·exact h k
  ·exact fnz_nonneg h m (k + 1)
theorem headE_nonneg (nm : ByteArray) (n : Nat) : 0 ≤ headE nm n := firstZ_nonneg fun a ha => by
 simp only [List.mem_cons, List.not_mem_nil, or_false] at ha
 rcases ha with rfl | rfl | rfl <;> exact errIf_nonneg (by decide)
theorem sky_nonneg (nm : ByteArray) (n : Nat) (g0 g1 g2 g3 : Nat → Int) : 0 ≤ skyE nm n g0 g1 g2 g3 := by
 unfold skyE skyF
 split
 ·exact headE_nonneg nm n
 ·exact fnz_nonneg (rowQ_nonneg g0 g1 g2 g3) n 0
def ckXF (E : FE) (x : Nat) : FT
 | [], [], [nm], [⟨_, n, [.int .i64 g0, .int .i64 g1, .int .i64 g2, .int .i64 g3]⟩] => .need (E nm n g0 g1 g2 g3 == ((x + 1 : Nat) : Int)) (.leaf (int ((x + 1 : Nat) : Int), []))
 | _, _, _, _ => .fail 711
def ckXSp (E : FE) (x : Nat) : Spec := fun args h => specT [(true, [.s, .t skyD])] [] (ckXF E x) args h
theorem ckX_ok {f : FuncId} (hs : SpecOk Tryz.prog f (ckSp skyE)) (x : Nat) : SpecOk Tryz.prog f (ckXSp skyE x) := by
 intro args h v h' hr
 refine hs args h v h' ?_
 unfold ckXSp specT at hr
 unfold ckSp specT
 split at hr
 ·rename_i d gids hd hgi
  obtain ⟨hok, hr⟩ := Tree.need_some hr
  rw [hok]
  obtain ⟨r, hF, hr⟩ := Tree.bind_some hr
  obtain ⟨l, m, n, ts, ok⟩ := d
  simp only [] at hF hr ⊢
  unfold ckXF at hF
  split at hF
  ·rename_i nm id n g0 g1 g2 g3 hr1 hr2
   obtain ⟨he, hF⟩ := Tree.need_some hF
   have he : skyE nm n g0 g1 g2 g3 = ((x + 1 : Nat) : Int) := by simpa using he
   simp only [Tree.run, Option.some.injEq] at hF
   subst hF
   show ((Tree.leaf (int (skyE nm n g0 g1 g2 g3), [])).bind _).run = _
   rw [he]
   exact hr1
  ·cases hF
 ·cases hr
def dxE (E : FE) (x : Nat) (nm : ByteArray) (n : Nat) (g0 g1 g2 g3 : Nat → Int) : Bool := E nm n g0 g1 g2 g3 == ((x + 1 : Nat) : Int)
def z0C : Nat → Int := fun _ => 0
theorem dx_err {nm : ByteArray} {n : Nat} {g0 g1 g2 g3 : Nat → Int} (h : skyE nm n g0 g1 g2 g3 ≠ 0) : ∃ x, dxE skyE x nm n g0 g1 g2 g3 = true := by
 have h0 := sky_nonneg nm n g0 g1 g2 g3
 refine ⟨(skyE nm n g0 g1 g2 g3).toNat - 1, ?_⟩
 unfold dxE
 simp only [beq_iff_eq]
 omega
end Go.Ev
