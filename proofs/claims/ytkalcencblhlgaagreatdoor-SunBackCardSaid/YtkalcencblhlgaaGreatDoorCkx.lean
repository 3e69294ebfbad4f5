/- CheckSky at a sky with a known error. Conditions: none. -/
import Derived.Test.YtkalcencblhlgaaGreatDoorAtE
namespace Go.Ev
open Go Go.Proofs
set_option maxRecDepth 100000
theorem errIf_nonneg {c : Bool} {e : Int} (h : 0 ≤ e) : 0 ≤ errIf c e := by cases c with | true => exact h | false => exact Int.le_refl _
theorem firstZ_nonneg : ∀ {l : List Int}, (∀ a ∈ l, 0 ≤ a) → 0 ≤ firstZ l
 | [], _ => Int.le_refl _
 | a :: l, h => by
  unfold firstZ
  split
  ·exact h a (by simp)
  ·exact firstZ_nonneg fun c hc => h c (by simp [hc])
theorem wW_nonneg (n lo hi : Int) : 0 ≤ wW n lo hi := errIf_nonneg (by decide)
theorem qray_nonneg (x y z : Int) : 0 ≤ qrayErr x y z := by
 refine firstZ_nonneg fun a ha => ?_
 simp only [List.mem_cons, List.not_mem_nil, or_false] at ha
 have hv : 0 ≤ vecErr x y z := firstZ_nonneg fun a ha => by
  simp only [List.mem_cons, List.not_mem_nil, or_false] at ha
  rcases ha with rfl | rfl | rfl <;> exact wW_nonneg _ _ _
 rcases ha with rfl | rfl
 ·unfold qdirErr
  split
  ·exact hv
  ·exact errIf_nonneg (by decide)
 ·exact firstZ_nonneg fun a ha => by
   simp only [List.mem_cons, List.not_mem_nil, or_false] at ha
   rcases ha with rfl | rfl | rfl <;> exact wW_nonneg _ _ _
theorem rowQ_nonneg (g0 g1 g2 g3 : Nat → Int) (k : Nat) : 0 ≤ rowQ g0 g1 g2 g3 k := by
 unfold rowQ rowF
 split
 ·refine firstZ_nonneg fun a ha => ?_
  simp only [List.mem_cons, List.not_mem_nil, or_false] at ha
  rcases ha with rfl | rfl | rfl | rfl
  ·exact wW_nonneg _ _ _
  ·exact errIf_nonneg (by decide)
  ·exact errIf_nonneg (by decide)
  ·exact qray_nonneg _ _ _
 ·exact errIf_nonneg (by decide)
theorem fnz_nonneg {f : Nat → Int} (h : ∀ k, 0 ≤ f k) : ∀ (m k : Nat), 0 ≤ (fnz f m k).getD 0
 | 0, _ => Int.le_refl _
 | m + 1, k => by
  unfold fnz
  split
  ·exact h k
  ·exact fnz_nonneg h m (k + 1)
theorem headE_nonneg (nm : ByteArray) (n : Nat) : 0 ≤ headE nm n := firstZ_nonneg fun a ha => by
 simp only [List.mem_cons, List.not_mem_nil, or_false] at ha
 rcases ha with rfl | rfl | rfl <;> exact errIf_nonneg (by decide)
theorem sky_nonneg (nm : ByteArray) (n : Nat) (g0 g1 g2 g3 : Nat → Int) : 0 ≤ skyE nm n g0 g1 g2 g3 := by
 unfold skyE skyF
 split
 ·exact headE_nonneg nm n
 ·exact fnz_nonneg (rowQ_nonneg g0 g1 g2 g3) n 0
end Go.Ev
