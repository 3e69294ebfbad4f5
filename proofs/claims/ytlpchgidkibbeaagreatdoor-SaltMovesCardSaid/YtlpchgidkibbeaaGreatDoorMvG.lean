/- SaltMoves: the law: its entries, committed to what is known. Conditions: few layers. SaltMoves: the law's sketches. Conditions: none. SaltMoves: the law's runs. Conditions: none. (Printed by gen_mvr.py.) SaltMoves: the law. Conditions: none. -/
import Derived.Test.YtlpchgidkibbeaaGreatDoorMvE
import Derived.Test.YtlpchgidkibbeaaGreatDoorTankY
namespace Go.Ev
open Go Go.Proofs
set_option maxRecDepth 100000

/-! ### alike -/
def isC : FT
  | [room, e, bad, room'], [], [], [⟨none, _, _⟩, ⟨none, _, _⟩] => .need (isN room room' e bad) (.leaf (boo true, []))
  | [room, e, bad, room'], [], [], [⟨some _, n, [.int .i64 a, .int .i64 h]⟩, ⟨some _, m, [.int .i64 a', .int .i64 h']⟩] => .need (Nat.ble n 1000000) (.need (bad == 0) (.need (isV n m room room' e a h a' h') (.leaf (boo true, []))))
  | _, _, _, _ => .fail 390
theorem isC_ok : SpecOk Tryz.prog 56 fun args h => specT isSh [] isC args h := by
  refine specT_subN is_ok fun l m n ts r hr => ?_
  unfold isC at hr
  split at hr
  · obtain ⟨h1, hr⟩ := Tree.need_some hr
    rw [← hr]
    simp only [isF, h1]
  · obtain ⟨h1, hr⟩ := Tree.need_some hr
    obtain ⟨h2, hr⟩ := Tree.need_some hr
    obtain ⟨h3, hr⟩ := Tree.need_some hr
    rw [← hr]
    simp only [isF, Tree.run, h1, h2, h3]
  · cases hr
/-- what is known -/
structure MvK where
  eT : Int
  eA : Int
  eH : Int
  e1 : Int
  e2 : Int
  s : Bool
  mz : Bool
def tbMv (k : MvK) (g : Gt) (d : Gd) : List (FuncId × Spec) := (13, specAwake) :: (56, fun args h => specT isSh [] isC args h) :: (49, rgC k.eA (some k.eH)) ::
  (57, fun args h => specT [tkS, (false, [.i]), (false, [.i])] [] (chF k.e1 g) args h) :: (59, fun args h => specT [tkS, (false, [.i]), (false, [.i])] [] (kqF k.e1 g) args h) ::
  (58, fun args h => specT [tkS, (false, [.i]), (false, [.b])] [] (drC k.e2 k.mz g d) args h) :: (60, fun args h => specT [tkS, (false, [.i]), (false, [.b])] [] (dqC k.s k.mz g d) args h) :: tbE k.eT g
theorem tbMv_ok (k : MvK) : TabOk Tryz.prog (tabOf (tbMv k togS delS)) := tab_cons (tab_cons (tab_cons (tab_cons (tab_cons (tab_cons (tab_cons (tbE_ok k.eT) (dqC_ok k.s k.mz)) (drC_ok k.e2 k.mz)) (kqF_ok k.e1)) (chF_ok k.e1)) (rgC_ok k.eA (some k.eH))) isC_ok) specAwake_ok
def mvA (n : Nat) (room x0 x1 : Int) (top : Bool) : List A := [tankA room n, .agg [ci x0, ci x1], .one (.lit (.bool top))]
noncomputable def mvT (k : MvK) (g : Gt) (d : Gd) (n : Nat) (room x0 x1 : Int) (top : Bool) (z1 z2 : Nat → Int) : Tree ((Bool × A × Hp) ⊕ (List Bool × St)) := preA Tryz.prog (tabOf (stpL (tbMv k g d))) Tryz.f6 (mvA n room x0 x1 top) (hpL1 n (tkC z1 z2)) (false, true)
end Go.Ev

namespace Go.Ev
open Go Go.Proofs
set_option maxRecDepth 100000

/-- is there no error in the arguments (of both, of one), none of the charge, and is something drawn -/
structure MvB where
  one : Bool
  two : Bool
  o1 : Bool
  o2 : Bool
section
variable (K : MvK) (B : MvB) (g : Gt) (d : Gd) (room x0 x1 : Int) (top : Bool) (z1 z2 : Nat → Int)
def okT (m m' : Nat) : Bool := (true && (Nat.ble m m && true)) && (true && (true && ((true && (Nat.ble m' m' && true)) && true)))
def mvL (n : Nat) (b : Bool) : SkL := lfT (hpL1 n (tkC z1 z2)) b
def mvIg (t t' : T3) : Bool := okT t.1 t'.1 && (Nat.ble t.1 1000000 && (((0 : Int) == 0) && isV t.1 t'.1 room room 0 t.2.1 t.2.2 t'.2.1 t'.2.2))
def mvIe (e : Int) : Bool := true && isN 0 0 e e
def mvI2 (t : T3) : Bool := match B.o2 with
  | false => mvIe K.e2
  | true => match K.mz with
    | true => true && isN room room 0 0
    | false => mvIg room t t
noncomputable def mvHt (n : Nat) : SkL := match B.o2 with
  | false => .tt (mvL z1 z2 n true)
  | true => .node (drH n x0 top z1 z2 == drH n x0 top z1 z2) (mvL z1 z2 n true) (mvL z1 z2 n false)
/-- behind both draws -/
noncomputable def mvEnd (n : Nat) (t t' : T3) : SkL := .need (match B.o1 with | false => mvIe K.e1 | true => mvIg room t t') (.tt (.need (mvI2 K B room (drK g (drL d n x0 top z1 z2 n))) (.tt (mvHt B x0 top z1 z2 n))))
def mvQ2 (n : Nat) : Bool := okK n && (((Nat.blt 0 n || K.s) && Nat.ble n 1000) && ((tankE n room z1 z2 == 0) && ((wW x0 1 1000000 == 0) && (match B.o2 with | false => decide (x0 > sumA z1 n) == K.s | true => (decide (x0 > sumA z1 n) == K.s) && (Nat.beq (drL d n x0 top z1 z2 n).1 0 == K.mz)))))
noncomputable def mvD (n : Nat) (S : SkL) : SkL := match B.two with
  | false => .ff S
  | true => .tt (.nn (.need (mvQ2 K B d room x0 top z1 z2 n) S))
def mvT1 (n : Nat) : Bool := okK n && (Nat.ble n 17 && (tankE n room z1 z2 == K.eT))
def mvP1 (n : Nat) : Bool := okK n && ((Nat.blt 0 n && Nat.ble n 17) && (chE g n room x0 x1 z1 z2 == K.e1))
def mvP2 (n : Nat) : Bool := okK n && ((Nat.blt 0 n && Nat.ble n 17) && (match B.o2 with | false => drE1 n room x0 z1 z2 == K.e2 | true => (drE1 n room x0 z1 z2 == K.e2) && (Nat.beq (drL d n x0 top z1 z2 n).1 0 == K.mz)))
noncomputable def mvR (S : SkL) : SkL := .nn (.need (wW x0 1 1000000 == K.eA) (.nn (.need (wW x1 0 1000000000 == K.eH) S)))
/-- a tank with layers -/
noncomputable def mvS (k : Nat) : SkL := .node (decide (((k + 1 : Nat) : Int) > 17)) (mvL z1 z2 (k + 1) true) (.nn (.nn (.need (okK (k + 1) && Nat.ble (k + 1) 1000000) (.ff (.need (mvP1 K g room x0 x1 z1 z2 (k + 1)) (.nn (.need (okK (k + 1) && Nat.ble (k + 1) 1000000) (.ff (.need (mvP2 K B d room x0 top z1 z2 (k + 1)) (.need (mvT1 K room z1 z2 (k + 1)) (mvR K x0 x1
  (match B.one with
    | false => .ff (mvD K B d room x0 top z1 z2 (k + 1) (mvEnd K B g d room x0 top z1 z2 (k + 1) (chL g (k + 1) x0 x1 z1 z2) (chL g (k + 1) x0 x1 z1 z2)))
    | true => .tt (.nn (.nn (.need (okK (k + 1) && (Nat.ble (k + 1) 1000 && (chE3 g (k + 1) room x0 x1 z1 z2 == K.e1))) (mvD K B d room x0 top z1 z2 (k + 1) (mvEnd K B g d room x0 top z1 z2 (k + 1) (chL g (k + 1) x0 x1 z1 z2) (chL g (k + 1) x0 x1 z1 z2))))))))))))))))))
/-- a tank without layers -/
noncomputable def mvZ : SkL := .ff (.tt (.need (chE g 0 room x0 x1 zF zF == K.e1) (.tt (.need ((drE1 0 room x0 zF zF == K.e2) && (K.e2 != 0)) (.need (mvT1 K room z1 z2 0) (mvR K x0 x1
  (match B.one with
    | false => .ff (mvD K B d room x0 top z1 z2 0 (mvEnd K B g d room x0 top z1 z2 0 (chL g 0 x0 x1 zF zF) (chL g 0 x0 x1 z1 z2)))
    | true => .tt (.nn (.nn (.need (chE3 g 0 room x0 x1 z1 z2 == K.e1) (mvD K B d room x0 top z1 z2 0 (mvEnd K B g d room x0 top z1 z2 0 (chL g 0 x0 x1 zF zF) (chL g 0 x0 x1 z1 z2)))))))))))))
end
end Go.Ev

namespace Go.Ev
open Go Go.Proofs
set_option maxRecDepth 100000

def mvK_t (x : Nat) (eA eH : Int) : MvK := ⟨((x + 1 : Nat) : Int), eA, eH, ((x + 1 : Nat) : Int), ((x + 1 : Nat) : Int), true, true⟩
def mvB_t : MvB := ⟨false, false, false, false⟩
def mvK_a (_x : Nat) (_eA eH : Int) : MvK := ⟨0, 3, eH, 3, 3, true, true⟩
def mvB_a : MvB := ⟨false, false, false, false⟩
def mvK_hs (_x : Nat) (_eA _eH : Int) : MvK := ⟨0, 0, 3, 3, 16, true, true⟩
def mvB_hs : MvB := ⟨false, true, false, false⟩
def mvK_cs (x : Nat) (_eA _eH : Int) : MvK := ⟨0, 0, 0, ((x + 1 : Nat) : Int), 16, true, true⟩
def mvB_cs : MvB := ⟨true, true, false, false⟩
def mvK_os (_x : Nat) (_eA _eH : Int) : MvK := ⟨0, 0, 0, 0, 16, true, true⟩
def mvB_os : MvB := ⟨true, true, true, false⟩
def mvK_hz (_x : Nat) (_eA _eH : Int) : MvK := ⟨0, 0, 3, 3, 0, false, true⟩
def mvB_hz : MvB := ⟨false, true, false, true⟩
def mvK_cz (x : Nat) (_eA _eH : Int) : MvK := ⟨0, 0, 0, ((x + 1 : Nat) : Int), 0, false, true⟩
def mvB_cz : MvB := ⟨true, true, false, true⟩
def mvK_oz (_x : Nat) (_eA _eH : Int) : MvK := ⟨0, 0, 0, 0, 0, false, true⟩
def mvB_oz : MvB := ⟨true, true, true, true⟩
def mvK_hg (_x : Nat) (_eA _eH : Int) : MvK := ⟨0, 0, 3, 3, 0, false, false⟩
def mvB_hg : MvB := ⟨false, true, false, true⟩
def mvK_cg (x : Nat) (_eA _eH : Int) : MvK := ⟨0, 0, 0, ((x + 1 : Nat) : Int), 0, false, false⟩
def mvB_cg : MvB := ⟨true, true, false, true⟩
def mvK_og (_x : Nat) (_eA _eH : Int) : MvK := ⟨0, 0, 0, 0, 0, false, false⟩
def mvB_og : MvB := ⟨true, true, true, true⟩
section
variable (g : Gt) (d : Gd) (k : Nat) (room x0 x1 : Int) (top : Bool) (z1 z2 : Nat → Int) (x : Nat) (eA eH : Int)
theorem mvI_t : mvT (mvK_t x eA eH) g d (k + 1) room x0 x1 top z1 z2 = into (mvT (mvK_t x eA eH) g d (k + 1) room x0 x1 top z1 z2) (mvS (mvK_t x eA eH) mvB_t g d room x0 x1 top z1 z2 k) := by kernel_rfl
theorem mvF_t : fits (mvT (mvK_t x eA eH) g d (k + 1) room x0 x1 top z1 z2) (mvS (mvK_t x eA eH) mvB_t g d room x0 x1 top z1 z2 k) = true := by kernel_rfl
theorem mvIz_t : mvT (mvK_t x eA eH) g d 0 room x0 x1 top z1 z2 = into (mvT (mvK_t x eA eH) g d 0 room x0 x1 top z1 z2) (mvZ (mvK_t x eA eH) mvB_t g d room x0 x1 top z1 z2) := by kernel_rfl
theorem mvFz_t : fits (mvT (mvK_t x eA eH) g d 0 room x0 x1 top z1 z2) (mvZ (mvK_t x eA eH) mvB_t g d room x0 x1 top z1 z2) = true := by kernel_rfl
theorem mvI_a : mvT (mvK_a x eA eH) g d (k + 1) room x0 x1 top z1 z2 = into (mvT (mvK_a x eA eH) g d (k + 1) room x0 x1 top z1 z2) (mvS (mvK_a x eA eH) mvB_a g d room x0 x1 top z1 z2 k) := by kernel_rfl
theorem mvF_a : fits (mvT (mvK_a x eA eH) g d (k + 1) room x0 x1 top z1 z2) (mvS (mvK_a x eA eH) mvB_a g d room x0 x1 top z1 z2 k) = true := by kernel_rfl
theorem mvIz_a : mvT (mvK_a x eA eH) g d 0 room x0 x1 top z1 z2 = into (mvT (mvK_a x eA eH) g d 0 room x0 x1 top z1 z2) (mvZ (mvK_a x eA eH) mvB_a g d room x0 x1 top z1 z2) := by kernel_rfl
theorem mvFz_a : fits (mvT (mvK_a x eA eH) g d 0 room x0 x1 top z1 z2) (mvZ (mvK_a x eA eH) mvB_a g d room x0 x1 top z1 z2) = true := by kernel_rfl
theorem mvI_hs : mvT (mvK_hs x eA eH) g d (k + 1) room x0 x1 top z1 z2 = into (mvT (mvK_hs x eA eH) g d (k + 1) room x0 x1 top z1 z2) (mvS (mvK_hs x eA eH) mvB_hs g d room x0 x1 top z1 z2 k) := by kernel_rfl
theorem mvF_hs : fits (mvT (mvK_hs x eA eH) g d (k + 1) room x0 x1 top z1 z2) (mvS (mvK_hs x eA eH) mvB_hs g d room x0 x1 top z1 z2 k) = true := by kernel_rfl
theorem mvIz_hs : mvT (mvK_hs x eA eH) g d 0 room x0 x1 top z1 z2 = into (mvT (mvK_hs x eA eH) g d 0 room x0 x1 top z1 z2) (mvZ (mvK_hs x eA eH) mvB_hs g d room x0 x1 top z1 z2) := by kernel_rfl
theorem mvFz_hs : fits (mvT (mvK_hs x eA eH) g d 0 room x0 x1 top z1 z2) (mvZ (mvK_hs x eA eH) mvB_hs g d room x0 x1 top z1 z2) = true := by kernel_rfl
theorem mvI_cs : mvT (mvK_cs x eA eH) g d (k + 1) room x0 x1 top z1 z2 = into (mvT (mvK_cs x eA eH) g d (k + 1) room x0 x1 top z1 z2) (mvS (mvK_cs x eA eH) mvB_cs g d room x0 x1 top z1 z2 k) := by kernel_rfl
theorem mvF_cs : fits (mvT (mvK_cs x eA eH) g d (k + 1) room x0 x1 top z1 z2) (mvS (mvK_cs x eA eH) mvB_cs g d room x0 x1 top z1 z2 k) = true := by kernel_rfl
theorem mvIz_cs : mvT (mvK_cs x eA eH) g d 0 room x0 x1 top z1 z2 = into (mvT (mvK_cs x eA eH) g d 0 room x0 x1 top z1 z2) (mvZ (mvK_cs x eA eH) mvB_cs g d room x0 x1 top z1 z2) := by kernel_rfl
theorem mvFz_cs : fits (mvT (mvK_cs x eA eH) g d 0 room x0 x1 top z1 z2) (mvZ (mvK_cs x eA eH) mvB_cs g d room x0 x1 top z1 z2) = true := by kernel_rfl
theorem mvI_os : mvT (mvK_os x eA eH) g d (k + 1) room x0 x1 top z1 z2 = into (mvT (mvK_os x eA eH) g d (k + 1) room x0 x1 top z1 z2) (mvS (mvK_os x eA eH) mvB_os g d room x0 x1 top z1 z2 k) := by kernel_rfl
theorem mvF_os : fits (mvT (mvK_os x eA eH) g d (k + 1) room x0 x1 top z1 z2) (mvS (mvK_os x eA eH) mvB_os g d room x0 x1 top z1 z2 k) = true := by kernel_rfl
theorem mvIz_os : mvT (mvK_os x eA eH) g d 0 room x0 x1 top z1 z2 = into (mvT (mvK_os x eA eH) g d 0 room x0 x1 top z1 z2) (mvZ (mvK_os x eA eH) mvB_os g d room x0 x1 top z1 z2) := by kernel_rfl
theorem mvFz_os : fits (mvT (mvK_os x eA eH) g d 0 room x0 x1 top z1 z2) (mvZ (mvK_os x eA eH) mvB_os g d room x0 x1 top z1 z2) = true := by kernel_rfl
theorem mvI_hz : mvT (mvK_hz x eA eH) g d (k + 1) room x0 x1 top z1 z2 = into (mvT (mvK_hz x eA eH) g d (k + 1) room x0 x1 top z1 z2) (mvS (mvK_hz x eA eH) mvB_hz g d room x0 x1 top z1 z2 k) := by kernel_rfl
theorem mvF_hz : fits (mvT (mvK_hz x eA eH) g d (k + 1) room x0 x1 top z1 z2) (mvS (mvK_hz x eA eH) mvB_hz g d room x0 x1 top z1 z2 k) = true := by kernel_rfl
theorem mvI_cz : mvT (mvK_cz x eA eH) g d (k + 1) room x0 x1 top z1 z2 = into (mvT (mvK_cz x eA eH) g d (k + 1) room x0 x1 top z1 z2) (mvS (mvK_cz x eA eH) mvB_cz g d room x0 x1 top z1 z2 k) := by kernel_rfl
theorem mvF_cz : fits (mvT (mvK_cz x eA eH) g d (k + 1) room x0 x1 top z1 z2) (mvS (mvK_cz x eA eH) mvB_cz g d room x0 x1 top z1 z2 k) = true := by kernel_rfl
theorem mvI_oz : mvT (mvK_oz x eA eH) g d (k + 1) room x0 x1 top z1 z2 = into (mvT (mvK_oz x eA eH) g d (k + 1) room x0 x1 top z1 z2) (mvS (mvK_oz x eA eH) mvB_oz g d room x0 x1 top z1 z2 k) := by kernel_rfl
theorem mvF_oz : fits (mvT (mvK_oz x eA eH) g d (k + 1) room x0 x1 top z1 z2) (mvS (mvK_oz x eA eH) mvB_oz g d room x0 x1 top z1 z2 k) = true := by kernel_rfl
theorem mvI_hg : mvT (mvK_hg x eA eH) g d (k + 1) room x0 x1 top z1 z2 = into (mvT (mvK_hg x eA eH) g d (k + 1) room x0 x1 top z1 z2) (mvS (mvK_hg x eA eH) mvB_hg g d room x0 x1 top z1 z2 k) := by kernel_rfl
theorem mvF_hg : fits (mvT (mvK_hg x eA eH) g d (k + 1) room x0 x1 top z1 z2) (mvS (mvK_hg x eA eH) mvB_hg g d room x0 x1 top z1 z2 k) = true := by kernel_rfl
theorem mvI_cg : mvT (mvK_cg x eA eH) g d (k + 1) room x0 x1 top z1 z2 = into (mvT (mvK_cg x eA eH) g d (k + 1) room x0 x1 top z1 z2) (mvS (mvK_cg x eA eH) mvB_cg g d room x0 x1 top z1 z2 k) := by kernel_rfl
theorem mvF_cg : fits (mvT (mvK_cg x eA eH) g d (k + 1) room x0 x1 top z1 z2) (mvS (mvK_cg x eA eH) mvB_cg g d room x0 x1 top z1 z2 k) = true := by kernel_rfl
theorem mvI_og : mvT (mvK_og x eA eH) g d (k + 1) room x0 x1 top z1 z2 = into (mvT (mvK_og x eA eH) g d (k + 1) room x0 x1 top z1 z2) (mvS (mvK_og x eA eH) mvB_og g d room x0 x1 top z1 z2 k) := by kernel_rfl
theorem mvF_og : fits (mvT (mvK_og x eA eH) g d (k + 1) room x0 x1 top z1 z2) (mvS (mvK_og x eA eH) mvB_og g d room x0 x1 top z1 z2 k) = true := by kernel_rfl
end
end Go.Ev

namespace Go.Ev
open Go Go.Proofs
set_option maxRecDepth 100000

theorem errIf_nn (b : Bool) {e : Int} (h : 0 ≤ e) : 0 ≤ errIf b e := by cases b <;> first | exact h | exact Int.le_refl _
theorem wWn (a lo hi : Int) : 0 ≤ wW a lo hi := errIf_nn _ (by decide)
theorem wW_cases (a lo hi : Int) : wW a lo hi = 0 ∨ wW a lo hi = 3 := by unfold wW errIf; split <;> simp
theorem firstZ_nn : ∀ l : List Int, (∀ z ∈ l, 0 ≤ z) → 0 ≤ firstZ l
  | [], _ => Int.le_refl _
  | z :: l, h => by
    unfold firstZ
    split
    · exact h z (by simp)
    · exact firstZ_nn l fun y hy => h y (by simp [hy])
theorem fnz_at {g : Nat → Int} : ∀ (m k : Nat) {e : Int}, fnz g m k = some e → ∃ j, g j = e
  | 0, _, _, h => by cases h
  | m + 1, k, e, h => by
    unfold fnz at h
    split at h
    · exact ⟨k, Option.some.inj h⟩
    · exact fnz_at m (k + 1) h
theorem layE_nn (z1 z2 : Nat → Int) (k : Nat) : 0 ≤ layE z1 z2 k := by
  have hr : 0 ≤ rowE z1 z2 k := firstZ_nn _ fun z hz => by simp only [List.mem_cons, List.not_mem_nil, or_false] at hz; rcases hz with rfl | rfl <;> exact wWn _ _ _
  unfold layE
  split
  · exact hr
  · split
    · split <;> decide
    · decide
theorem tankE_nn (n : Nat) (room : Int) (z1 z2 : Nat → Int) : 0 ≤ tankE n room z1 z2 := by
  unfold tankE
  split
  · exact firstZ_nn _ fun z hz => by
      simp only [List.mem_cons, List.not_mem_nil, or_false] at hz
      rcases hz with rfl | rfl
      · exact wWn _ _ _
      · exact errIf_nn _ (by decide)
  · split
    · rename_i e he
      obtain ⟨j, rfl⟩ := fnz_at _ _ he
      exact layE_nn _ _ _
    · exact firstZ_nn _ fun z hz => by
        simp only [List.mem_cons, List.not_mem_nil, or_false] at hz
        rcases hz with rfl | rfl <;> exact errIf_nn _ (by decide)
theorem chE3_nn (n : Nat) (room am ht : Int) (z1 z2 : Nat → Int) : 0 ≤ chE3 togS n room am ht z1 z2 := by
  unfold chE3
  split
  · exact firstZ_nn _ fun z hz => by
      simp only [List.mem_cons, List.not_mem_nil, or_false] at hz
      rcases hz with rfl | rfl <;> exact errIf_nn _ (by decide)
  · exact errIf_nn _ (by decide)
theorem fnz0 {g : Nat → Int} (h : ∀ j, g j = 0) : ∀ m k, fnz g m k = none
  | 0, _ => rfl
  | m + 1, k => by
    unfold fnz
    rw [h k]
    exact fnz0 h m (k + 1)
theorem sameT_id (n : Nat) (room : Int) (a h : Nat → Int) : sameT n n room room a h a h = true := by
  unfold sameT
  rw [show (room != room) = false by simp, show ((n : Int) != (n : Int)) = false by simp]
  simp only
  rw [fnz0 (g := smG a h a h) (fun j => by unfold smG eqR; simp)]
theorem isN_err (e : Int) : isN 0 0 e e = true := by
  unfold isN
  rw [show (e == e) = true by simp]
  simp only
  split <;> exact sameT_id 0 0 zzI zzI
theorem isN_ok (room : Int) : isN room room 0 0 = true := sameT_id 0 room zzI zzI
theorem mvIe_ok (e : Int) : mvIe e = true := isN_err e
theorem mvIg_ok (room : Int) (t : T3) (h : t.1 ≤ 1000000) : mvIg room t t = true := by
  unfold mvIg okT isV
  rw [bleZ (Nat.le_refl _), bleZ h]
  exact sameT_id _ _ _ _
section
variable (K : MvK) (B : MvB) (d : Gd) (room x0 x1 : Int) (top : Bool) (z1 z2 : Nat → Int)
theorem mvHt_ok (n : Nat) : SkLeads (isTrueL (hpL1 n (tkC z1 z2))) (mvHt B x0 top z1 z2 n) := by
  unfold mvHt
  cases B.o2 with
  | false => exact sk_tt (sk_leaf rfl)
  | true => exact sk_yes (by simp) (sk_leaf rfl)
theorem mvEnd_ok (n : Nat) (hn : n ≤ 17) (t t' : T3) (ht : t = t') (hb : t.1 ≤ 1000000) : SkLeads (isTrueL (hpL1 n (tkC z1 z2))) (mvEnd K B togS delS room x0 top z1 z2 n t t') := by
  subst ht
  unfold mvEnd
  refine sk_need ?_ (sk_tt (sk_need ?_ (sk_tt (mvHt_ok B x0 top z1 z2 n))))
  · cases B.o1 with
    | false => exact mvIe_ok _
    | true => exact mvIg_ok room t hb
  · unfold mvI2
    cases B.o2 with
    | false => exact mvIe_ok _
    | true =>
      simp only
      cases K.mz with
      | true => exact isN_ok room
      | false =>
        refine mvIg_ok room _ ?_
        have h1 : (drK togS (drL delS n x0 top z1 z2 n)).1 ≤ (drL delS n x0 top z1 z2 n).1 := (togS_bd _ _ _).1
        have h2 : (drL delS n x0 top z1 z2 n).1 ≤ n := delS_le _ _ n
        omega
/-- what has to hold of what is known -/
structure MvOk (n : Nat) : Prop where
  T : tankE n room z1 z2 = K.eT
  A : wW x0 1 1000000 = K.eA
  H : wW x1 0 1000000000 = K.eH
  C : chE togS n room x0 x1 z1 z2 = K.e1
  D : drE1 n room x0 z1 z2 = K.e2
  E : B.one = true → chE3 togS n room x0 x1 z1 z2 = K.e1
  S : B.two = true → tankE n room z1 z2 = 0 ∧ wW x0 1 1000000 = 0 ∧ decide (x0 > sumA z1 n) = K.s
  M : B.o2 = true → Nat.beq (drL delS n x0 top z1 z2 n).1 0 = K.mz
  Z : n = 0 → B.two = true → K.s = true ∧ B.o2 = false
variable {K B room x0 x1 top z1 z2}
theorem mvD_ok {n : Nat} (h : MvOk K B room x0 x1 top z1 z2 n) (hn : n ≤ 17) {p : ((Bool × A × Hp) ⊕ (List Bool × St)) → Prop} {S : SkL} (hS : SkLeads p S) : SkLeads p (mvD K B delS room x0 top z1 z2 n S) := by
  unfold mvD
  cases hB : B.two with
  | false => exact sk_ff hS
  | true =>
    refine sk_tt (sk_nn (sk_need ?_ hS))
    obtain ⟨s1, s2, s3⟩ := h.S hB
    have hz : (Nat.blt 0 n || K.s) = true := by
      cases n with
      | zero => rw [(h.Z rfl hB).1, Bool.or_true]
      | succ k => rw [bltR' (by omega), Bool.true_or]
    unfold mvQ2
    rw [okK_ok, hz, bleZ (by omega), s1, s2, s3]
    cases hO : B.o2 with
    | false => simp
    | true => rw [h.M hO]; simp
theorem mvR_ok {n : Nat} (h : MvOk K B room x0 x1 top z1 z2 n) {p : ((Bool × A × Hp) ⊕ (List Bool × St)) → Prop} {S : SkL} (hS : SkLeads p S) : SkLeads p (mvR K x0 x1 S) :=
  sk_nn (sk_need (by rw [h.A]; exact beq_self_eq_true _) (sk_nn (sk_need (by rw [h.H]; exact beq_self_eq_true _) hS)))
theorem mvT1_ok {n : Nat} (h : MvOk K B room x0 x1 top z1 z2 n) (hn : n ≤ 17) : mvT1 K room z1 z2 n = true := by
  unfold mvT1
  rw [okK_ok, bleZ hn, h.T]
  simp
theorem chL_bd (n : Nat) (am ht : Int) (z1 z2 : Nat → Int) : (chL togS n am ht z1 z2).1 ≤ n + 1 := (togS_bd _ _ _).1
theorem mvS_ok {k : Nat} (h : MvOk K B room x0 x1 top z1 z2 (k + 1)) : SkLeads (isTrueL (hpL1 (k + 1) (tkC z1 z2))) (mvS K B togS delS room x0 x1 top z1 z2 k) := by
  unfold mvS
  refine sk_either (fun _ => sk_leaf rfl) fun hg => ?_
  have hn : k + 1 ≤ 17 := by simp only [decide_eq_false_iff_not] at hg; omega
  have hE := mvEnd_ok K B room x0 top z1 z2 (k + 1) hn (chL togS (k + 1) x0 x1 z1 z2) (chL togS (k + 1) x0 x1 z1 z2) rfl (by have := chL_bd (k + 1) x0 x1 z1 z2; omega)
  have hD := mvD_ok h hn hE
  have c1 : (okK (k + 1) && Nat.ble (k + 1) 1000000) = true := by rw [okK_ok, bleZ (by omega)]; rfl
  refine sk_nn (sk_nn (sk_need c1 (sk_ff (sk_need ?_ (sk_nn (sk_need c1 (sk_ff (sk_need ?_ (sk_need (mvT1_ok h hn) (mvR_ok h ?_))))))))))
  · unfold mvP1
    rw [okK_ok, bltR' (by omega), bleZ hn, h.C]
    simp
  · unfold mvP2
    rw [okK_ok, bltR' (by omega), bleZ hn, h.D]
    cases hO : B.o2 with
    | false => simp
    | true => rw [h.M hO]; simp
  · cases hO : B.one with
    | false => exact sk_ff hD
    | true =>
      refine sk_tt (sk_nn (sk_nn (sk_need ?_ hD)))
      rw [okK_ok, bleZ (by omega), h.E hO]
      simp
theorem mvZ_ok (h : MvOk K B room x0 x1 top z1 z2 0) (h2 : (K.e2 != 0) = true) : SkLeads (isTrueL (hpL1 0 (tkC z1 z2))) (mvZ K B togS delS room x0 x1 top z1 z2) := by
  unfold mvZ
  have eL : ∀ f f', chL togS 0 x0 x1 f f' = togS (fun _ => x0) (fun _ => x1) 1 := fun _ _ => togS_one _ _ _ _ rfl rfl
  have hE := mvEnd_ok K B room x0 top z1 z2 0 (by omega) (chL togS 0 x0 x1 zF zF) (chL togS 0 x0 x1 z1 z2) (by rw [eL, eL]) (by have := chL_bd 0 x0 x1 zF zF; omega)
  have hD := mvD_ok h (by omega) hE
  have eC : chE togS 0 room x0 x1 zF zF = K.e1 := by
    rw [← h.C]
    unfold chE chE3
    rw [eL zF zF, eL z1 z2]
    rfl
  have eD : drE1 0 room x0 zF zF = K.e2 := h.D
  refine sk_ff (sk_tt (sk_need (by rw [eC]; exact beq_self_eq_true _) (sk_tt (sk_need (by rw [eD, h2]; simp) (sk_need (mvT1_ok h (by omega)) (mvR_ok h ?_))))))
  cases hO : B.one with
  | false => exact sk_ff hD
  | true => exact sk_tt (sk_nn (sk_nn (sk_need (by rw [h.E hO]; exact beq_self_eq_true _) hD)))
end
/-! ### the law -/
section
variable (n : Nat) (room x0 x1 : Int) (top : Bool) (z1 z2 : Nat → Int)
def MvC : Prop := CallAt Tryz.prog 6 (mvA n room x0 x1 top) (hpL1 n (tkC z1 z2)) (boo true) (hpL1 n (tkC z1 z2))
theorem mv_whole (K : MvK) {S : SkL} (h1 : mvT K togS delS n room x0 x1 top z1 z2 = into (mvT K togS delS n room x0 x1 top z1 z2) S) (h2 : fits (mvT K togS delS n room x0 x1 top z1 z2) S = true) (h3 : SkLeads (isTrueL (hpL1 n (tkC z1 z2))) S) : MvC n room x0 x1 top z1 z2 :=
  call_sk (stpL_ok (tbMv_ok K)) Tryz.func6 (by kernel_rfl) (false, true) (by kernel_rfl) h1 h2 h3.all
/-- both forms of a tank -/
theorem mv_both (K : MvK) (B : MvB) (h : MvOk K B room x0 x1 top z1 z2 n) (h2 : n = 0 → (K.e2 != 0) = true)
    (i1 : ∀ k, mvT K togS delS (k + 1) room x0 x1 top z1 z2 = into (mvT K togS delS (k + 1) room x0 x1 top z1 z2) (mvS K B togS delS room x0 x1 top z1 z2 k)) (i2 : ∀ k, fits (mvT K togS delS (k + 1) room x0 x1 top z1 z2) (mvS K B togS delS room x0 x1 top z1 z2 k) = true)
    (j1 : n = 0 → mvT K togS delS 0 room x0 x1 top z1 z2 = into (mvT K togS delS 0 room x0 x1 top z1 z2) (mvZ K B togS delS room x0 x1 top z1 z2)) (j2 : n = 0 → fits (mvT K togS delS 0 room x0 x1 top z1 z2) (mvZ K B togS delS room x0 x1 top z1 z2) = true) : MvC n room x0 x1 top z1 z2 := by
  cases n with
  | zero => exact mv_whole 0 room x0 x1 top z1 z2 K (j1 rfl) (j2 rfl) (mvZ_ok h (h2 rfl))
  | succ k => exact mv_whole (k + 1) room x0 x1 top z1 z2 K (i1 k) (i2 k) (mvS_ok h)
theorem moves_call : MvC n room x0 x1 top z1 z2 := by
  obtain ⟨T, hT⟩ : ∃ T, tankE n room z1 z2 = T := ⟨_, rfl⟩
  have hTn := tankE_nn n room z1 z2
  have hchE : chE togS n room x0 x1 z1 z2 = match chE1 n room x0 x1 z1 z2 != 0 with | true => chE1 n room x0 x1 z1 z2 | false => chE3 togS n room x0 x1 z1 z2 := rfl
  have hchE1 : chE1 n room x0 x1 z1 z2 = firstZ [tankE n room z1 z2, wW x0 1 1000000, wW x1 0 1000000000] := rfl
  have hdrE1 : drE1 n room x0 z1 z2 = firstZ [tankE n room z1 z2, wW x0 1 1000000, errIf (decide (x0 > sumA z1 n)) 16] := rfl
  by_cases h0 : T = 0
  · subst h0
    rcases wW_cases x0 1 1000000 with hA | hA
    · -- the amount is right
      have w := wW0 hA
      have hshort : n = 0 → decide (x0 > sumA z1 n) = true := fun e => by subst e; simp only [decide_eq_true_eq]; show x0 > 0; omega
      -- what the draw does: short, or nothing left, or something
      have hD : ∀ (e1 : Int) (eH : Int) (one o1 : Bool), wW x1 0 1000000000 = eH → chE togS n room x0 x1 z1 z2 = e1 → (one = true → chE3 togS n room x0 x1 z1 z2 = e1) →
          (decide (x0 > sumA z1 n) = true → MvOk ⟨0, 0, eH, e1, 16, true, true⟩ ⟨one, true, o1, false⟩ room x0 x1 top z1 z2 n) ∧
          (∀ mz, decide (x0 > sumA z1 n) = false → Nat.beq (drL delS n x0 top z1 z2 n).1 0 = mz → MvOk ⟨0, 0, eH, e1, 0, false, mz⟩ ⟨one, true, o1, true⟩ room x0 x1 top z1 z2 n) := fun e1 eH one o1 hH hC hE => by
        refine ⟨fun hs => ⟨hT, hA, hH, hC, ?_, hE, fun _ => ⟨hT, hA, hs⟩, fun h => by (cases h), fun _ _ => ⟨rfl, rfl⟩⟩, fun mz hs hm => ⟨hT, hA, hH, hC, ?_, hE, fun _ => ⟨hT, hA, hs⟩, fun _ => hm, fun e _ => ?_⟩⟩
        · rw [hdrE1, hT, hA, hs]; rfl
        · rw [hdrE1, hT, hA, hs]; rfl
        · rw [hshort e] at hs; cases hs
      have go : ∀ (sh : Bool) (mz : Bool), decide (x0 > sumA z1 n) = sh → Nat.beq (drL delS n x0 top z1 z2 n).1 0 = mz → MvC n room x0 x1 top z1 z2 := fun sh mz hs hm => by
        have hns : sh = false → n = 0 → False := fun e e0 => by rw [hshort e0] at hs; rw [← hs] at e; cases e
        rcases wW_cases x1 0 1000000000 with hH | hH
        · have hC1 : chE1 n room x0 x1 z1 z2 = 0 := by rw [hchE1, hT, hA, hH]; rfl
          have hC : chE togS n room x0 x1 z1 z2 = chE3 togS n room x0 x1 z1 z2 := by rw [hchE, hC1]; rfl
          have h3n := chE3_nn n room x0 x1 z1 z2
          by_cases h3 : chE3 togS n room x0 x1 z1 z2 = 0
          · obtain ⟨q1, q2⟩ := hD 0 0 true true hH (hC.trans h3) fun _ => h3
            cases sh with
            | true => exact mv_both n room x0 x1 top z1 z2 (mvK_os 0 0 0) mvB_os (q1 hs) (fun _ => rfl) (fun k => mvI_os togS delS k room x0 x1 top z1 z2 0 0 0) (fun k => mvF_os togS delS k room x0 x1 top z1 z2 0 0 0) (fun _ => mvIz_os togS delS room x0 x1 top z1 z2 0 0 0) (fun _ => mvFz_os togS delS room x0 x1 top z1 z2 0 0 0)
            | false =>
              cases mz with
              | true => exact mv_both n room x0 x1 top z1 z2 (mvK_oz 0 0 0) mvB_oz (q2 true hs hm) (fun e => (hns rfl e).elim) (fun k => mvI_oz togS delS k room x0 x1 top z1 z2 0 0 0) (fun k => mvF_oz togS delS k room x0 x1 top z1 z2 0 0 0) (fun e => (hns rfl e).elim) (fun e => (hns rfl e).elim)
              | false => exact mv_both n room x0 x1 top z1 z2 (mvK_og 0 0 0) mvB_og (q2 false hs hm) (fun e => (hns rfl e).elim) (fun k => mvI_og togS delS k room x0 x1 top z1 z2 0 0 0) (fun k => mvF_og togS delS k room x0 x1 top z1 z2 0 0 0) (fun e => (hns rfl e).elim) (fun e => (hns rfl e).elim)
          · obtain ⟨x, hx⟩ : ∃ x : Nat, chE3 togS n room x0 x1 z1 z2 = ((x + 1 : Nat) : Int) := ⟨(chE3 togS n room x0 x1 z1 z2).toNat - 1, by omega⟩
            obtain ⟨q1, q2⟩ := hD ((x + 1 : Nat) : Int) 0 true false hH (hC.trans hx) fun _ => hx
            cases sh with
            | true => exact mv_both n room x0 x1 top z1 z2 (mvK_cs x 0 0) mvB_cs (q1 hs) (fun _ => rfl) (fun k => mvI_cs togS delS k room x0 x1 top z1 z2 x 0 0) (fun k => mvF_cs togS delS k room x0 x1 top z1 z2 x 0 0) (fun _ => mvIz_cs togS delS room x0 x1 top z1 z2 x 0 0) (fun _ => mvFz_cs togS delS room x0 x1 top z1 z2 x 0 0)
            | false =>
              cases mz with
              | true => exact mv_both n room x0 x1 top z1 z2 (mvK_cz x 0 0) mvB_cz (q2 true hs hm) (fun e => (hns rfl e).elim) (fun k => mvI_cz togS delS k room x0 x1 top z1 z2 x 0 0) (fun k => mvF_cz togS delS k room x0 x1 top z1 z2 x 0 0) (fun e => (hns rfl e).elim) (fun e => (hns rfl e).elim)
              | false => exact mv_both n room x0 x1 top z1 z2 (mvK_cg x 0 0) mvB_cg (q2 false hs hm) (fun e => (hns rfl e).elim) (fun k => mvI_cg togS delS k room x0 x1 top z1 z2 x 0 0) (fun k => mvF_cg togS delS k room x0 x1 top z1 z2 x 0 0) (fun e => (hns rfl e).elim) (fun e => (hns rfl e).elim)
        · have hC1 : chE1 n room x0 x1 z1 z2 = 3 := by rw [hchE1, hT, hA, hH]; rfl
          have hC : chE togS n room x0 x1 z1 z2 = 3 := by rw [hchE, hC1]; rfl
          obtain ⟨q1, q2⟩ := hD 3 3 false false hH hC fun h => by (cases h)
          cases sh with
          | true => exact mv_both n room x0 x1 top z1 z2 (mvK_hs 0 0 0) mvB_hs (q1 hs) (fun _ => rfl) (fun k => mvI_hs togS delS k room x0 x1 top z1 z2 0 0 0) (fun k => mvF_hs togS delS k room x0 x1 top z1 z2 0 0 0) (fun _ => mvIz_hs togS delS room x0 x1 top z1 z2 0 0 0) (fun _ => mvFz_hs togS delS room x0 x1 top z1 z2 0 0 0)
          | false =>
            cases mz with
            | true => exact mv_both n room x0 x1 top z1 z2 (mvK_hz 0 0 0) mvB_hz (q2 true hs hm) (fun e => (hns rfl e).elim) (fun k => mvI_hz togS delS k room x0 x1 top z1 z2 0 0 0) (fun k => mvF_hz togS delS k room x0 x1 top z1 z2 0 0 0) (fun e => (hns rfl e).elim) (fun e => (hns rfl e).elim)
            | false => exact mv_both n room x0 x1 top z1 z2 (mvK_hg 0 0 0) mvB_hg (q2 false hs hm) (fun e => (hns rfl e).elim) (fun k => mvI_hg togS delS k room x0 x1 top z1 z2 0 0 0) (fun k => mvF_hg togS delS k room x0 x1 top z1 z2 0 0 0) (fun e => (hns rfl e).elim) (fun e => (hns rfl e).elim)
      exact go _ _ rfl rfl
    · -- the amount is wrong
      have hC1 : chE1 n room x0 x1 z1 z2 = 3 := by rw [hchE1, hT, hA]; rfl
      have hok : MvOk (mvK_a 0 0 (wW x1 0 1000000000)) mvB_a room x0 x1 top z1 z2 n := ⟨hT, hA, rfl, by rw [hchE, hC1]; rfl, by rw [hdrE1, hT, hA]; rfl, fun h => by (cases h), fun h => by (cases h), fun h => by (cases h), fun _ h => by (cases h)⟩
      exact mv_both n room x0 x1 top z1 z2 (mvK_a 0 0 (wW x1 0 1000000000)) mvB_a hok (fun _ => rfl) (fun k => mvI_a togS delS k room x0 x1 top z1 z2 0 0 _) (fun k => mvF_a togS delS k room x0 x1 top z1 z2 0 0 _) (fun _ => mvIz_a togS delS room x0 x1 top z1 z2 0 0 _) (fun _ => mvFz_a togS delS room x0 x1 top z1 z2 0 0 _)
  · obtain ⟨x, rfl⟩ : ∃ x : Nat, T = ((x + 1 : Nat) : Int) := ⟨T.toNat - 1, by omega⟩
    have hC1 : chE1 n room x0 x1 z1 z2 = ((x + 1 : Nat) : Int) := by rw [hchE1, hT]; rfl
    have hok : MvOk (mvK_t x (wW x0 1 1000000) (wW x1 0 1000000000)) mvB_t room x0 x1 top z1 z2 n := ⟨hT, rfl, rfl, by rw [hchE, hC1]; rfl, by rw [hdrE1, hT]; rfl, fun h => by (cases h), fun h => by (cases h), fun h => by (cases h), fun _ h => by (cases h)⟩
    exact mv_both n room x0 x1 top z1 z2 (mvK_t x (wW x0 1 1000000) (wW x1 0 1000000000)) mvB_t hok (fun _ => rfl) (fun k => mvI_t togS delS k room x0 x1 top z1 z2 x _ _) (fun k => mvF_t togS delS k room x0 x1 top z1 z2 x _ _) (fun _ => mvIz_t togS delS room x0 x1 top z1 z2 x _ _) (fun _ => mvFz_t togS delS room x0 x1 top z1 z2 x _ _)
end
end Go.Ev
