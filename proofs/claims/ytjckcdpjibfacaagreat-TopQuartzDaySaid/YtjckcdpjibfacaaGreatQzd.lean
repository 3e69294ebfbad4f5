/- CheckSky at a sky with a known error. Conditions: none. -/
import Derived.Test.YtjckcdpjibfacaaGreatAtE
import Derived.Test.YtjckcdpjibfacaaGreatQzc
namespace Go.Ev
open Go Go.Proofs
set_option maxRecDepth 100000
theorem errIf_nonneg {c : Bool} {e : Int} (h : 0 ≤ e) : 0 ≤ errIf c e := by cases c with | true => exact h | false => exact Int.le_refl _
theorem firstZ_nonneg : ∀ {l : List Int}, (∀ a ∈ l, 0 ≤ a) → 0 ≤ firstZ l
 | [], _ => Int.le_refl _
 | a :: l, h => by
  unfold firstZ
  split
  ·exact h a (by simp)
  ·exact firstZ_nonneg fun c hc => h c (by simp [hc])
theorem wW_nonneg (n lo hi : Int) : 0 ≤ wW n lo hi := errIf_nonneg (by decide)
theorem qray_nonneg (x y z : Int) : 0 ≤ qrayErr x y z := by
 refine firstZ_nonneg fun a ha => ?_
 simp only [List.mem_cons, List.not_mem_nil, or_false] at ha
 have hv : 0 ≤ vecErr x y z := firstZ_nonneg fun a ha => by
  simp only [List.mem_cons, List.not_mem_nil, or_false] at ha
  rcases ha with rfl | rfl | rfl <;> exact wW_nonneg _ _ _
 rcases ha with rfl | rfl
 ·unfold qdirErr
  split
  ·exact hv
  ·exact errIf_nonneg (by decide)
 ·exact firstZ_nonneg fun a ha => by
   simp only [List.mem_cons, List.not_mem_nil, or_false] at ha
   rcases ha with rfl | rfl | rfl <;> exact wW_nonneg _ _ _
theorem rowQ_nonneg (g0 g1 g2 g3 : Nat → Int) (k : Nat) : 0 ≤ rowQ g0 g1 g2 g3 k := by
 unfold rowQ rowF
 split
 ·refine firstZ_nonneg fun a ha => ?_
  simp only [List.mem_cons, List.not_mem_nil, or_false] at ha
  rcases ha with rfl | rfl | rfl | rfl
  ·exact wW_nonneg _ _ _
  ·exact errIf_nonneg (by decide)
  ·exact errIf_nonneg (by decide)
  ·exact qray_nonneg _ _ _
 ·exact errIf_nonneg (by decide)
theorem fnz_nonneg {f : Nat → Int} (h : ∀ k, 0 ≤ f k) : ∀ (m k : Nat), 0 ≤ (fnz f m k).getD 0
 | 0, _ => Int.le_refl _
 | m + 1, k => by
  unfold fnz
  split
  ·exact h k
  ·exact fnz_nonneg h m (k + 1)
theorem headE_nonneg (nm : ByteArray) (n : Nat) : 0 ≤ headE nm n := firstZ_nonneg fun a ha => by
 simp only [List.mem_cons, List.not_mem_nil, or_false] at ha
 rcases ha with rfl | rfl | rfl <;> exact errIf_nonneg (by decide)
theorem sky_nonneg (nm : ByteArray) (n : Nat) (g0 g1 g2 g3 : Nat → Int) : 0 ≤ skyE nm n g0 g1 g2 g3 := by
 unfold skyE skyF
 split
 ·exact headE_nonneg nm n
 ·exact fnz_nonneg (rowQ_nonneg g0 g1 g2 g3) n 0
def ckXF (E : FE) (x : Nat) : FT
 | [], [], [nm], [⟨_, n, [.int .i64 g0, .int .i64 g1, .int .i64 g2, .int .i64 g3]⟩] => .need (E nm n g0 g1 g2 g3 == ((x + 1 : Nat) : Int)) (.leaf (int ((x + 1 : Nat) : Int), []))
 | _, _, _, _ => .fail 711
def ckXSp (E : FE) (x : Nat) : Spec := fun args h => specT [(true, [.s, .t skyD])] [] (ckXF E x) args h
theorem ckX_ok {f : FuncId} (hs : SpecOk Tryz.prog f (ckSp skyE)) (x : Nat) : SpecOk Tryz.prog f (ckXSp skyE x) := by
 intro args h v h' hr
 refine hs args h v h' ?_
 unfold ckXSp specT at hr
 unfold ckSp specT
 split at hr
 ·rename_i d gids hd hgi
  obtain ⟨hok, hr⟩ := Tree.need_some hr
  rw [hok]
  obtain ⟨r, hF, hr⟩ := Tree.bind_some hr
  obtain ⟨l, m, n, ts, ok⟩ := d
  simp only [] at hF hr ⊢
  unfold ckXF at hF
  split at hF
  ·rename_i nm id n g0 g1 g2 g3 hr1 hr2
   obtain ⟨he, hF⟩ := Tree.need_some hF
   have he : skyE nm n g0 g1 g2 g3 = ((x + 1 : Nat) : Int) := by simpa using he
   simp only [Tree.run, Option.some.injEq] at hF
   subst hF
   show ((Tree.leaf (int (skyE nm n g0 g1 g2 g3), [])).bind _).run = _
   rw [he]
   exact hr1
  ·cases hF
 ·cases hr
def dxE (E : FE) (x : Nat) (nm : ByteArray) (n : Nat) (g0 g1 g2 g3 : Nat → Int) : Bool := E nm n g0 g1 g2 g3 == ((x + 1 : Nat) : Int)
def z0C : Nat → Int := fun _ => 0
theorem dx_err {nm : ByteArray} {n : Nat} {g0 g1 g2 g3 : Nat → Int} (h : skyE nm n g0 g1 g2 g3 ≠ 0) : ∃ x, dxE skyE x nm n g0 g1 g2 g3 = true := by
 have h0 := sky_nonneg nm n g0 g1 g2 g3
 refine ⟨(skyE nm n g0 g1 g2 g3).toNat - 1, ?_⟩
 unfold dxE
 simp only [beq_iff_eq]
 omega
end Go.Ev
namespace Go.Ev
open Go Go.Proofs
set_option maxRecDepth 100000
def tbX (E : FE) (x : Nat) : List (FuncId × Spec) := (8, mirSp) :: (5, ckXSp E x) :: tb_Cos
theorem tbX_ok (x : Nat) : TabOk Tryz.prog (tabOf (tbX skyE x)) := tab_cons (tab_cons tb_Cos_ok (ckX_ok qk_ok x)) mir_ok
section
variable (E : FE) (x : Nat) (nm : ByteArray) (n : Nat) (g0 g1 g2 g3 : Nat → Int) (cx cy cz cn cd : Int)
def dxHp : Hp := hpT [⟨some 0, n, skC g0 g1 g2 g3⟩] [] []
def dxH0 : Hp := hpT [⟨none, 0, skC g0 g1 g2 g3⟩] [] []
noncomputable def dxT : Tree ((Bool × A × Hp) ⊕ (List Bool × St)) := preA Tryz.prog (tabOf (tbX E x)) Tryz.f3 [skyA nm n, .agg (conC cx cy cz cn cd)] (dxHp n g0 g1 g2 g3) (false, true)
noncomputable def dxT0 : Tree ((Bool × A × Hp) ⊕ (List Bool × St)) := preA Tryz.prog (tabOf (tbX E x)) Tryz.f3 [.agg [cs nm, nilC], .agg (conC cx cy cz cn cd)] (dxH0 g0 g1 g2 g3) (false, true)
def dxR : SkL := .leaf (.inl (true, boo true, dxHp n g0 g1 g2 g3))
def dxR0 : SkL := .leaf (.inl (true, boo true, dxH0 g0 g1 g2 g3))
def dxP : SkL := .need (okN n) (.need (dxE E x nm n g0 g1 g2 g3) (.tt (.tt (.tt (.tt (dxR n g0 g1 g2 g3))))))
def dxS : SkL := .node (decide ((nm.size : Int) ≤ 40)) (.node (decide ((n : Int) ≤ 12)) (.ff (dxP E x nm n g0 g1 g2 g3)) (.node (!((n : Int) == 65)) (.tt (.tt (.tt (.tt (dxR n g0 g1 g2 g3))))) (dxP E x nm n g0 g1 g2 g3))) (.tt (.tt (.tt (.tt (.tt (dxR n g0 g1 g2 g3))))))
def dxS0 : SkL := .node (decide ((nm.size : Int) ≤ 40)) (.tt (.ff (.nn (.need (dxE E x nm 0 z0C z0C z0C z0C) (.tt (.tt (.tt (.tt (dxR0 g0 g1 g2 g3))))))))) (.tt (.tt (.tt (.tt (.tt (dxR0 g0 g1 g2 g3))))))
theorem dx_into : dxT E x nm n g0 g1 g2 g3 cx cy cz cn cd = into (dxT E x nm n g0 g1 g2 g3 cx cy cz cn cd) (dxS E x nm n g0 g1 g2 g3) := by kernel_rfl
theorem dx_fits : fits (dxT E x nm n g0 g1 g2 g3 cx cy cz cn cd) (dxS E x nm n g0 g1 g2 g3) = true := by kernel_rfl
theorem dx0_into : dxT0 E x nm g0 g1 g2 g3 cx cy cz cn cd = into (dxT0 E x nm g0 g1 g2 g3 cx cy cz cn cd) (dxS0 E x nm g0 g1 g2 g3) := by kernel_rfl
theorem dx0_fits : fits (dxT0 E x nm g0 g1 g2 g3 cx cy cz cn cd) (dxS0 E x nm g0 g1 g2 g3) = true := by kernel_rfl
end
theorem qz_error {nm : ByteArray} {n : Nat} {g0 g1 g2 g3 : Nat → Int} (h : skyE nm n g0 g1 g2 g3 ≠ 0) (cx cy cz cn cd : Int) : CallAt Tryz.prog 3 [skyA nm n, .agg (conC cx cy cz cn cd)] (dxHp n g0 g1 g2 g3) (boo true) (dxHp n g0 g1 g2 g3) := by
 obtain ⟨x, hx⟩ := dx_err h
 have yes : SkLeads (fun o : (Bool × A × Hp) ⊕ (List Bool × St) => match o with | .inl r => r.2 = (boo true, dxHp n g0 g1 g2 g3) | .inr _ => False) (dxR n g0 g1 g2 g3) := sk_leaf rfl
 have hP : SkLeads (fun o : (Bool × A × Hp) ⊕ (List Bool × St) => match o with | .inl r => r.2 = (boo true, dxHp n g0 g1 g2 g3) | .inr _ => False) (dxP skyE x nm n g0 g1 g2 g3) := sk_need (okN_ok n) (sk_need hx (sk_tt (sk_tt (sk_tt (sk_tt yes)))))
 refine call_sk (tbX_ok x) Tryz.func3 (by kernel_rfl) (false, true) (by kernel_rfl) (S := dxS skyE x nm n g0 g1 g2 g3) (dx_into skyE x nm n g0 g1 g2 g3 cx cy cz cn cd) (dx_fits skyE x nm n g0 g1 g2 g3 cx cy cz cn cd) (SkLeads.all ?_)
 exact sk_either (fun _ => sk_either (fun _ => sk_ff hP) fun _ => sk_either (fun _ => sk_tt (sk_tt (sk_tt (sk_tt yes)))) fun _ => hP) fun _ => sk_tt (sk_tt (sk_tt (sk_tt (sk_tt yes))))
theorem qz_nil (nm : ByteArray) (g0 g1 g2 g3 : Nat → Int) (cx cy cz cn cd : Int) : CallAt Tryz.prog 3 [.agg [cs nm, nilC], .agg (conC cx cy cz cn cd)] (dxH0 g0 g1 g2 g3) (boo true) (dxH0 g0 g1 g2 g3) := by
 obtain ⟨x, hx⟩ := dx_err (nm := nm) (n := 0) (g0 := z0C) (g1 := z0C) (g2 := z0C) (g3 := z0C) (fun h => by have := (sky_ok h).1.two; omega)
 have yes : SkLeads (fun o : (Bool × A × Hp) ⊕ (List Bool × St) => match o with | .inl r => r.2 = (boo true, dxH0 g0 g1 g2 g3) | .inr _ => False) (dxR0 g0 g1 g2 g3) := sk_leaf rfl
 refine call_sk (tbX_ok x) Tryz.func3 (by kernel_rfl) (false, true) (by kernel_rfl) (S := dxS0 skyE x nm g0 g1 g2 g3) (dx0_into skyE x nm g0 g1 g2 g3 cx cy cz cn cd) (dx0_fits skyE x nm g0 g1 g2 g3 cx cy cz cn cd) (SkLeads.all ?_)
 exact sk_either (fun _ => sk_tt (sk_ff (sk_nn (sk_need hx (sk_tt (sk_tt (sk_tt (sk_tt yes)))))))) fun _ => sk_tt (sk_tt (sk_tt (sk_tt (sk_tt yes))))
theorem qz_call (nm : ByteArray) (n : Nat) (g0 g1 g2 g3 : Nat → Int) (cx cy cz cn cd : Int) : CallAt Tryz.prog 3 [skyA nm n, .agg (conC cx cy cz cn cd)] (dxHp n g0 g1 g2 g3) (boo true) (dxHp n g0 g1 g2 g3) := by
 by_cases h : skyE nm n g0 g1 g2 g3 = 0
 ·have h2 := (sky_ok h).1.two
  obtain ⟨m, rfl⟩ : ∃ m, n = m + 2 := ⟨n - 2, by omega⟩
  exact qz_valid h cx cy cz cn cd
 ·exact qz_error h cx cy cz cn cd
end Go.Ev
