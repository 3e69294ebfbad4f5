/- Temperature, Stepped and Hold as entries. Conditions: none. -/
import Derived.Test.YtlpchgidkibbeaaGreatDoorStep
namespace Go.Ev
open Go Go.Proofs

theorem first0 {a : Int} {l : List Int} (h : firstZ (a :: l) = 0) : a = 0 ∧ firstZ l = 0 := by
  unfold firstZ at h
  cases ha : a != 0 with
  | true =>
    rw [ha] at h
    have : a ≠ 0 := by simpa using ha
    exact absurd h this
  | false =>
    rw [ha] at h
    exact ⟨by simpa using ha, h⟩
theorem errIf0 {b : Bool} {e : Int} (he : e ≠ 0) (h : errIf b e = 0) : b = false := by cases b <;> simp_all [errIf]
theorem wW0 {n lo hi : Int} (h : wW n lo hi = 0) : lo ≤ n ∧ n ≤ hi := by
  have := errIf0 (by decide) h
  simp only [Bool.or_eq_false_iff, decide_eq_false_iff_not] at this
  omega
theorem ne0 {a : Int} (h : (a != 0) = false) : a = 0 := by simpa using h
theorem rules0 {c l f r h k : Int} (h0 : rulesErr c l f r h k = 0) : (1 ≤ c ∧ c ≤ 1000) ∧ (0 ≤ l ∧ l ≤ 100000) ∧ (0 ≤ f ∧ f ≤ 1000) ∧ (0 ≤ r ∧ r ≤ 1000) ∧ (0 ≤ h ∧ h ≤ 1000) ∧ (0 ≤ k ∧ k ≤ 1000) ∧ f < r ∧ r < h ∧ f ≤ k ∧ k ≤ h := by
  unfold rulesErr at h0
  cases h1 : rangesW c l f r h k != 0 with
  | true =>
    rw [h1] at h0
    have : rangesW c l f r h k ≠ 0 := by simpa using h1
    exact absurd h0 this
  | false =>
    rw [h1] at h0
    have h1 := ne0 h1
    unfold rangesW at h1
    obtain ⟨a1, h1⟩ := first0 h1
    obtain ⟨a2, h1⟩ := first0 h1
    obtain ⟨a3, h1⟩ := first0 h1
    obtain ⟨a4, h1⟩ := first0 h1
    obtain ⟨a5, h1⟩ := first0 h1
    obtain ⟨a6, _⟩ := first0 h1
    obtain ⟨b1, h0⟩ := first0 (show firstZ [errIf (decide (r ≤ f) || decide (h ≤ r)) 11, errIf (decide (k < f) || decide (h < k)) 34] = 0 from h0)
    obtain ⟨b2, _⟩ := first0 h0
    have b1 := errIf0 (by decide) b1
    have b2 := errIf0 (by decide) b2
    simp only [Bool.or_eq_false_iff, decide_eq_false_iff_not] at b1 b2
    exact ⟨wW0 a1, wW0 a2, wW0 a3, wW0 a4, wW0 a5, wW0 a6, by omega, by omega, by omega, by omega⟩
theorem rules_c {c l f r h k : Int} (h0 : rulesErr c l f r h k = 0) : (!(c == 0)) = true := by
  have := (rules0 h0).1
  simp
  omega

/-! ### Temperature -/
def tE (c l f r h k heat : Int) (s : ByteArray) : Int := firstZ [rulesErr c l f r h k, recvErr s heat]
def tempV : List Int → List Bool → List ByteArray → A
  | [c, l, f, r, h, k, heat], [], [s] => .tup [(false, [ci (match tE c l f r h k heat s != 0 with | true => 0 | false => degW c heat)]), (false, [ci (tE c l f r h k heat s)])]
  | _, _, _ => int 0
theorem temp_run (c l f r h k heat : Int) (s : ByteArray) : (evFun Tryz.prog (tabOf tb_step) modes 100 75 (encA [.v 6, .sv 1] [c, l, f, r, h, k, heat] [] [s]) hp0).run = some (tempV [c, l, f, r, h, k, heat] [] [s], hp0) := by
  have hh : (evFun Tryz.prog (tabOf tb_step) modes 100 75 (encA [.v 6, .sv 1] [c, l, f, r, h, k, heat] [] [s]) hp0).run =
    (Tree.node (tE c l f r h k heat s != 0) (.leaf (.tup [(false, [ci 0]), (false, [ci (tE c l f r h k heat s)])], hp0)) (.need (!(c == 0)) (.leaf (.tup [(false, [ci (degW c heat)]), (false, [ci 0])], hp0)))).run := by kernel_rfl
  rw [hh]
  unfold tempV
  cases he : tE c l f r h k heat s != 0 with
  | true => simp only [Tree.run, he]
  | false =>
    have h0 := ne0 he
    have hc := rules_c (first0 h0).1
    simp only [Tree.run, hc, h0]
    rfl
theorem temp_ok : SpecOk Tryz.prog 75 (specI [.v 6, .sv 1] (fun _ _ _ => true) tempV) := specI_ok (fun l m n => by unfold tempV; split <;> rfl) fun l m n hl hm hn _ => match l, m, n, hl, hm, hn with
  | [c, l, f, r, h, k, heat], [], [s], _, _, _ => call_ev tb_step_ok (temp_run c l f r h k heat s)
def tb_temp : List (FuncId × Spec) := (75, specI [.v 6, .sv 1] (fun _ _ _ => true) tempV) :: tb_step
theorem tb_temp_ok : TabOk Tryz.prog (tabOf tb_temp) := tab_cons tb_step_ok temp_ok

/-! ### Hold -/
def hE0 (c l f r h k heat : Int) (s : ByteArray) : Int := firstZ [rulesErr c l f r h k, recvErr s heat, errIf (s.toList == sEmpty.toList) 22]
def spareW (c f heat : Int) : Int := w64 (heat - w64 (f * c))
def hE1 (c f heat : Int) (lz : Bool) : Int := firstZ [errIf (decide (spareW c f heat < 0)) 31, errIf (match lz with | true => true | false => f == 0) 7]
def hE (c l f r h k heat : Int) (s : ByteArray) : Int := match hE0 c l f r h k heat s != 0 with | true => hE0 c l f r h k heat s | false => hE1 c f heat (l == 0)
def holdV : List Int → List Bool → List ByteArray → A
  | [c, l, f, r, h, k, heat], [], [s] => .tup [(false, [ci (match hE c l f r h k heat s != 0 with | true => 0 | false => w64 ((spareW c f heat).tdiv l))]), (false, [ci (hE c l f r h k heat s)])]
  | _, _, _ => int 0
def holdT (c l f heat : Int) (lz : Bool) : Tree (A × Hp) := .node (hE1 c f heat lz != 0) (.leaf (.tup [(false, [ci 0]), (false, [ci (hE1 c f heat lz)])], hp0)) (.need (!(l == 0)) (.leaf (.tup [(false, [ci (w64 ((spareW c f heat).tdiv l))]), (false, [ci 0])], hp0)))
theorem hold_run (c l f r h k heat : Int) (s : ByteArray) : (evFun Tryz.prog (tabOf tb_temp) modes 100 67 (encA [.v 6, .sv 1] [c, l, f, r, h, k, heat] [] [s]) hp0).run = some (holdV [c, l, f, r, h, k, heat] [] [s], hp0) := by
  have hh : (evFun Tryz.prog (tabOf tb_temp) modes 100 67 (encA [.v 6, .sv 1] [c, l, f, r, h, k, heat] [] [s]) hp0).run =
    (Tree.node (hE0 c l f r h k heat s != 0) (.leaf (.tup [(false, [ci 0]), (false, [ci (hE0 c l f r h k heat s)])], hp0)) (.node (l == 0) (holdT c l f heat true) (holdT c l f heat false))).run := by kernel_rfl
  rw [hh]
  unfold holdV hE
  cases he : hE0 c l f r h k heat s != 0 with
  | true => simp only [Tree.run, he]
  | false =>
    simp only [Tree.run]
    cases hl : l == 0 with
    | true =>
      simp only [holdT, hl]
      have h1 : (hE1 c f heat true != 0) = true := by
        unfold hE1
        cases decide (spareW c f heat < 0) <;> rfl
      simp only [he, h1, Tree.run]
    | false =>
      simp only [holdT, hl]
      cases h1 : hE1 c f heat false != 0 with
      | true => simp only [Tree.run, he, h1]
      | false =>
        simp only [Tree.run, he, ne0 h1, Bool.not_false]
        rfl
theorem hold_ok : SpecOk Tryz.prog 67 (specI [.v 6, .sv 1] (fun _ _ _ => true) holdV) := specI_ok (fun l m n => by unfold holdV; split <;> rfl) fun l m n hl hm hn _ => match l, m, n, hl, hm, hn with
  | [c, l, f, r, h, k, heat], [], [s], _, _, _ => call_ev tb_temp_ok (hold_run c l f r h k heat s)
def tb_hold : List (FuncId × Spec) := (67, specI [.v 6, .sv 1] (fun _ _ _ => true) holdV) :: tb_temp
theorem tb_hold_ok : TabOk Tryz.prog (tabOf tb_hold) := tab_cons tb_temp_ok hold_ok
end Go.Ev
