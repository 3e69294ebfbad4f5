/- A receiver after a step: what stepped returns, by the kinds of acts. Conditions: the capacity is not 0, the act is known. -/
import Derived.Test.YtlpchgidkibbeaaGreatDoorVek
namespace Go.Ev
open Go Go.Proofs
def nrW (s : ByteArray) : Bool := !(s.toList == sRunning.toList)
def neW (s : ByteArray) : Bool := !(s.toList == sEmpty.toList)
def takenW (c k heat flow : Int) : Int := w64 (w64 ((w64 (flow * heat)).tdiv c) - w64 (flow * k))
def heat1W (c k heat light flow : Int) : Int := w64 (w64 (heat - takenW c k heat flow) + light)
def lostW (l h1 : Int) : Int := if h1 < l then h1 else l
def outW (c l k heat light flow : Int) : Int := w64 (heat1W c k heat light flow - lostW l (heat1W c k heat light flow))
def degW (c x : Int) : Int := w64 (x.tdiv c)
def err1W (ns : ByteArray) (b1 b2 pv : Bool) : Int := firstZ [errIf (!b1) 22, errIf (!b2) 34, errIf (match pv with | true => nrW ns | false => false) 21]
def err2W (qv : Bool) (c l f h k heat light flow : Int) : Int := firstZ [errIf (decide (1000000000 < outW c l k heat light flow)) 4, errIf (match qv with | true => decide (degW c (outW c l k heat light flow) < f) | false => false) 31, errIf (decide (h < degW c (outW c l k heat light flow))) 23]
def balV (ns : ByteArray) (out taken lost e : Int) : A := .tup [(true, [cs ns, ci out, ci taken, ci lost]), (false, [ci e])]
def badV (e : Int) : A := balV emptyB 0 0 0 e
def okV (ns : ByteArray) (c l k heat light flow : Int) : A := balV ns (outW c l k heat light flow) (takenW c k heat flow) (lostW l (heat1W c k heat light flow)) 0
def stY (ns : ByteArray) (qv : Bool) (c l f h k heat light flow : Int) : Tree A := .node (err2W qv c l f h k heat light flow != 0) (.leaf (badV (err2W qv c l f h k heat light flow))) (.leaf (okV ns c l k heat light flow))
def stX (ns : ByteArray) (b1 b2 pv : Bool) (c l f h k heat light flow : Int) : Tree A := .node (err1W ns b1 b2 pv != 0) (.leaf (badV (err1W ns b1 b2 pv))) (.need (!(c == 0)) (.need (!(c == 0)) (.node (neW ns) (stY ns true c l f h k heat light flow) (stY ns false c l f h k heat light flow))))
def stT (ns : ByteArray) (b1 b2 : Bool) (c l f h k heat light flow : Int) : Tree A := .need (!(c == 0)) (.node (decide (0 < flow)) (stX ns b1 b2 true c l f h k heat light flow) (stX ns b1 b2 false c l f h k heat light flow))
def stA (s act : ByteArray) (c l f r h k heat light flow : Int) : Tree A :=
 .node (sWait.toList == act.toList) (stT s true true c l f h k heat light flow) (.node (sFill.toList == act.toList) (stT sFilled (s.toList == sEmpty.toList) (decide (r ≤ degW c heat)) c l f h k heat light flow) (.node (sDrain.toList == act.toList) (stT sEmpty (s.toList == sFilled.toList) true c l f h k heat light flow)
  (.node (sStart.toList == act.toList) (stT sRunning (s.toList == sFilled.toList) true c l f h k heat light flow) (.node (sStop.toList == act.toList) (stT sFilled (s.toList == sRunning.toList) true c l f h k heat light flow) (.fail 34)))))
theorem step_run (c l f r h k heat light flow : Int) (s act : ByteArray) : (evFun Tryz.prog (tabOf tb_chk) modes 100 89 (encA [.v 6, .sv 1, .sv 2] [c, l, f, r, h, k, heat, light, flow] [] [s, act]) hpK).run = ((stA s act c l f r h k heat light flow).bind fun v => .leaf (v, hpK)).run := by kernel_rfl
def e1W (ns : ByteArray) (b1 b2 : Bool) (flow : Int) : Int := err1W ns b1 b2 (decide (0 < flow))
def e2W (ns : ByteArray) (c l f h k heat light flow : Int) : Int := err2W (neW ns) c l f h k heat light flow
def eW (ns : ByteArray) (b1 b2 : Bool) (c l f h k heat light flow : Int) : Int := match e1W ns b1 b2 flow != 0 with | true => e1W ns b1 b2 flow | false => e2W ns c l f h k heat light flow
def stV (ns : ByteArray) (b1 b2 : Bool) (c l f h k heat light flow : Int) : A :=
 balV (match eW ns b1 b2 c l f h k heat light flow != 0 with | true => emptyB | false => ns) (match eW ns b1 b2 c l f h k heat light flow != 0 with | true => 0 | false => outW c l k heat light flow)
  (match eW ns b1 b2 c l f h k heat light flow != 0 with | true => 0 | false => takenW c k heat flow) (match eW ns b1 b2 c l f h k heat light flow != 0 with | true => 0 | false => lostW l (heat1W c k heat light flow)) (eW ns b1 b2 c l f h k heat light flow)
theorem stT_val (ns : ByteArray) (b1 b2 : Bool) (c l f h k heat light flow : Int) (hc : (!(c == 0)) = true) : (stT ns b1 b2 c l f h k heat light flow).run = some (stV ns b1 b2 c l f h k heat light flow) := by
 have hX : ∀ pv, (stX ns b1 b2 pv c l f h k heat light flow).run = some (match err1W ns b1 b2 pv != 0 with
   | true => badV (err1W ns b1 b2 pv)
   | false => match err2W (neW ns) c l f h k heat light flow != 0 with
    | true => badV (err2W (neW ns) c l f h k heat light flow)
    | false => okV ns c l k heat light flow) := fun pv => by
  unfold stX stY
  simp only [hc, Tree.run]
  cases neW ns with
  | true =>
   cases err1W ns b1 b2 pv != 0 with
   | true => rfl
   | false => cases err2W true c l f h k heat light flow != 0 <;> rfl
  | false =>
   cases err1W ns b1 b2 pv != 0 with
   | true => rfl
   | false => cases err2W false c l f h k heat light flow != 0 <;> rfl
 have key : (stT ns b1 b2 c l f h k heat light flow).run = (stX ns b1 b2 (decide (0 < flow)) c l f h k heat light flow).run := by
  unfold stT
  simp only [hc, Tree.run]
  cases decide (0 < flow) <;> rfl
 rw [key, hX]
 unfold stV eW e1W e2W
 cases h1 : err1W ns b1 b2 (decide (0 < flow)) != 0 with
 | true => simp only [h1]; rfl
 | false =>
  simp only []
  cases h2 : err2W (neW ns) c l f h k heat light flow != 0 with
  | true => rfl
  | false =>
   have h0 : err2W (neW ns) c l f h k heat light flow = 0 := by simpa using h2
   simp only []
   rw [h0]
   rfl
def actNs (s act : ByteArray) : ByteArray := match sWait.toList == act.toList with
 | true => s
 | false => match sFill.toList == act.toList with
  | true => sFilled
  | false => match sDrain.toList == act.toList with
   | true => sEmpty
   | false => match sStart.toList == act.toList with
    | true => sRunning
    | false => sFilled
def actB1 (s act : ByteArray) : Bool := match sWait.toList == act.toList with
 | true => true
 | false => match sFill.toList == act.toList with
  | true => s.toList == sEmpty.toList
  | false => match sDrain.toList == act.toList with
   | true => s.toList == sFilled.toList
   | false => match sStart.toList == act.toList with
    | true => s.toList == sFilled.toList
    | false => s.toList == sRunning.toList
def actB2 (act : ByteArray) (c r heat : Int) : Bool := match sWait.toList == act.toList with
 | true => true
 | false => match sFill.toList == act.toList with
  | true => decide (r ≤ degW c heat)
  | false => true
def stepV : List Int → List Bool → List ByteArray → A
 | [c, l, f, r, h, k, heat, light, flow], [], [s, act] => stV (actNs s act) (actB1 s act) (actB2 act c r heat) c l f h k heat light flow
 | _, _, _ => int 0
def stepK : List Int → List Bool → List ByteArray → Bool
 | [c, _, _, _, _, _, _, _, _], [], [_, act] => !(c == 0) && isAct act
 | _, _, _ => false
theorem stA_val (s act : ByteArray) (c l f r h k heat light flow : Int) (hok : (!(c == 0) && isAct act) = true) : (stA s act c l f r h k heat light flow).run = some (stV (actNs s act) (actB1 s act) (actB2 act c r heat) c l f h k heat light flow) := by
 rw [Bool.and_eq_true] at hok
 obtain ⟨hc, ha⟩ := hok
 have hT := fun ns b1 b2 => stT_val ns b1 b2 c l f h k heat light flow hc
 unfold stA actNs actB1 actB2
 unfold isAct at ha
 simp only [Tree.run, hT]
 revert ha
 cases sWait.toList == act.toList <;> cases sFill.toList == act.toList <;> cases sDrain.toList == act.toList <;> cases sStart.toList == act.toList <;> cases sStop.toList == act.toList <;> intro ha <;> first | rfl | cases ha
theorem step_ok : SpecOk Tryz.prog 89 (specG [.v 6, .sv 1, .sv 2] stepK stepV) := specG_ok (fun l m n => by unfold stepV; split <;> rfl) fun l m n hl hm hn hok => match l, m, n, hl, hm, hn, hok with
 | [c, l, f, r, h, k, heat, light, flow], [], [s, act], _, _, _, hok => call_ev tb_chk_ok (by rw [step_run, Tree.run_bind, stA_val s act c l f r h k heat light flow hok]; rfl)
def tb_step : List (FuncId × Spec) := (89, specG [.v 6, .sv 1, .sv 2] stepK stepV) :: tb_chk
theorem tb_step_ok : TabOk Tryz.prog (tabOf tb_step) := tab_cons tb_chk_ok step_ok
end Go.Ev
namespace Go.Ev
open Go Go.Proofs
theorem first0 {a : Int} {l : List Int} (h : firstZ (a :: l) = 0) : a = 0 ∧ firstZ l = 0 := by
 unfold firstZ at h
 cases ha : a != 0 with
 | true =>
  rw [ha] at h
  have : a ≠ 0 := by simpa using ha
  exact absurd h this
 | false =>
  rw [ha] at h
  exact ⟨by simpa using ha, h⟩
theorem errIf0 {b : Bool} {e : Int} (he : e ≠ 0) (h : errIf b e = 0) : b = false := by cases b <;> simp_all [errIf]
theorem wW0 {n lo hi : Int} (h : wW n lo hi = 0) : lo ≤ n ∧ n ≤ hi := by
 have := errIf0 (by decide) h
 simp only [Bool.or_eq_false_iff, decide_eq_false_iff_not] at this
 omega
theorem ne0 {a : Int} (h : (a != 0) = false) : a = 0 := by simpa using h
theorem rules0 {c l f r h k : Int} (h0 : rulesErr c l f r h k = 0) : (1 ≤ c ∧ c ≤ 1000) ∧ (0 ≤ l ∧ l ≤ 100000) ∧ (0 ≤ f ∧ f ≤ 1000) ∧ (0 ≤ r ∧ r ≤ 1000) ∧ (0 ≤ h ∧ h ≤ 1000) ∧ (0 ≤ k ∧ k ≤ 1000) ∧ f < r ∧ r < h ∧ f ≤ k ∧ k ≤ h := by
 unfold rulesErr at h0
 cases h1 : rangesW c l f r h k != 0 with
 | true =>
  rw [h1] at h0
  have : rangesW c l f r h k ≠ 0 := by simpa using h1
  exact absurd h0 this
 | false =>
  rw [h1] at h0
  have h1 := ne0 h1
  unfold rangesW at h1
  obtain ⟨a1, h1⟩ := first0 h1
  obtain ⟨a2, h1⟩ := first0 h1
  obtain ⟨a3, h1⟩ := first0 h1
  obtain ⟨a4, h1⟩ := first0 h1
  obtain ⟨a5, h1⟩ := first0 h1
  obtain ⟨a6, _⟩ := first0 h1
  obtain ⟨b1, h0⟩ := first0 (show firstZ [errIf (decide (r ≤ f) || decide (h ≤ r)) 11, errIf (decide (k < f) || decide (h < k)) 34] = 0 from h0)
  obtain ⟨b2, _⟩ := first0 h0
  have b1 := errIf0 (by decide) b1
  have b2 := errIf0 (by decide) b2
  simp only [Bool.or_eq_false_iff, decide_eq_false_iff_not] at b1 b2
  exact ⟨wW0 a1, wW0 a2, wW0 a3, wW0 a4, wW0 a5, wW0 a6, by omega, by omega, by omega, by omega⟩
theorem rules_c {c l f r h k : Int} (h0 : rulesErr c l f r h k = 0) : (!(c == 0)) = true := by
 have := (rules0 h0).1
 simp
 omega
def tE (c l f r h k heat : Int) (s : ByteArray) : Int := firstZ [rulesErr c l f r h k, recvErr s heat]
def tempV : List Int → List Bool → List ByteArray → A
 | [c, l, f, r, h, k, heat], [], [s] => .tup [(false, [ci (match tE c l f r h k heat s != 0 with | true => 0 | false => degW c heat)]), (false, [ci (tE c l f r h k heat s)])]
 | _, _, _ => int 0
theorem temp_run (c l f r h k heat : Int) (s : ByteArray) : (evFun Tryz.prog (tabOf tb_step) modes 100 75 (encA [.v 6, .sv 1] [c, l, f, r, h, k, heat] [] [s]) hp0).run = some (tempV [c, l, f, r, h, k, heat] [] [s], hp0) := by
 have hh : (evFun Tryz.prog (tabOf tb_step) modes 100 75 (encA [.v 6, .sv 1] [c, l, f, r, h, k, heat] [] [s]) hp0).run =
  (Tree.node (tE c l f r h k heat s != 0) (.leaf (.tup [(false, [ci 0]), (false, [ci (tE c l f r h k heat s)])], hp0)) (.need (!(c == 0)) (.leaf (.tup [(false, [ci (degW c heat)]), (false, [ci 0])], hp0)))).run := by kernel_rfl
 rw [hh]
 unfold tempV
 cases he : tE c l f r h k heat s != 0 with
 | true => simp only [Tree.run, he]
 | false =>
  have h0 := ne0 he
  have hc := rules_c (first0 h0).1
  simp only [Tree.run, hc, h0]
  rfl
theorem temp_ok : SpecOk Tryz.prog 75 (specI [.v 6, .sv 1] (fun _ _ _ => true) tempV) := specI_ok (fun l m n => by unfold tempV; split <;> rfl) fun l m n hl hm hn _ => match l, m, n, hl, hm, hn with
 | [c, l, f, r, h, k, heat], [], [s], _, _, _ => call_ev tb_step_ok (temp_run c l f r h k heat s)
def tb_temp : List (FuncId × Spec) := (75, specI [.v 6, .sv 1] (fun _ _ _ => true) tempV) :: tb_step
theorem tb_temp_ok : TabOk Tryz.prog (tabOf tb_temp) := tab_cons tb_step_ok temp_ok
def hE0 (c l f r h k heat : Int) (s : ByteArray) : Int := firstZ [rulesErr c l f r h k, recvErr s heat, errIf (s.toList == sEmpty.toList) 22]
def spareW (c f heat : Int) : Int := w64 (heat - w64 (f * c))
def hE1 (c f heat : Int) (lz : Bool) : Int := firstZ [errIf (decide (spareW c f heat < 0)) 31, errIf (match lz with | true => true | false => f == 0) 7]
def hE (c l f r h k heat : Int) (s : ByteArray) : Int := match hE0 c l f r h k heat s != 0 with | true => hE0 c l f r h k heat s | false => hE1 c f heat (l == 0)
def holdV : List Int → List Bool → List ByteArray → A
 | [c, l, f, r, h, k, heat], [], [s] => .tup [(false, [ci (match hE c l f r h k heat s != 0 with | true => 0 | false => w64 ((spareW c f heat).tdiv l))]), (false, [ci (hE c l f r h k heat s)])]
 | _, _, _ => int 0
def holdT (c l f heat : Int) (lz : Bool) : Tree (A × Hp) := .node (hE1 c f heat lz != 0) (.leaf (.tup [(false, [ci 0]), (false, [ci (hE1 c f heat lz)])], hp0)) (.need (!(l == 0)) (.leaf (.tup [(false, [ci (w64 ((spareW c f heat).tdiv l))]), (false, [ci 0])], hp0)))
theorem hold_run (c l f r h k heat : Int) (s : ByteArray) : (evFun Tryz.prog (tabOf tb_temp) modes 100 67 (encA [.v 6, .sv 1] [c, l, f, r, h, k, heat] [] [s]) hp0).run = some (holdV [c, l, f, r, h, k, heat] [] [s], hp0) := by
 have hh : (evFun Tryz.prog (tabOf tb_temp) modes 100 67 (encA [.v 6, .sv 1] [c, l, f, r, h, k, heat] [] [s]) hp0).run =
  (Tree.node (hE0 c l f r h k heat s != 0) (.leaf (.tup [(false, [ci 0]), (false, [ci (hE0 c l f r h k heat s)])], hp0)) (.node (l == 0) (holdT c l f heat true) (holdT c l f heat false))).run := by kernel_rfl
 rw [hh]
 unfold holdV hE
 cases he : hE0 c l f r h k heat s != 0 with
 | true => simp only [Tree.run, he]
 | false =>
  simp only [Tree.run]
  cases hl : l == 0 with
  | true =>
   simp only [holdT, hl]
   have h1 : (hE1 c f heat true != 0) = true := by
    unfold hE1
    cases decide (spareW c f heat < 0) <;> rfl
   simp only [he, h1, Tree.run]
  | false =>
   simp only [holdT, hl]
   cases h1 : hE1 c f heat false != 0 with
   | true => simp only [Tree.run, he, h1]
   | false =>
    simp only [Tree.run, he, ne0 h1, Bool.not_false]
    rfl
theorem hold_ok : SpecOk Tryz.prog 67 (specI [.v 6, .sv 1] (fun _ _ _ => true) holdV) := specI_ok (fun l m n => by unfold holdV; split <;> rfl) fun l m n hl hm hn _ => match l, m, n, hl, hm, hn with
 | [c, l, f, r, h, k, heat], [], [s], _, _, _ => call_ev tb_temp_ok (hold_run c l f r h k heat s)
def tb_hold : List (FuncId × Spec) := (67, specI [.v 6, .sv 1] (fun _ _ _ => true) holdV) :: tb_temp
theorem tb_hold_ok : TabOk Tryz.prog (tabOf tb_hold) := tab_cons tb_temp_ok hold_ok
end Go.Ev
