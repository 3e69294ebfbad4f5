/- SaltSteps: the law's tree is true for every input; its call. Conditions: the two variables that awake() reads. -/
import Derived.Test.YtgedcolkjjdjmaaGreatDoorLaw2
namespace Go.Ev
open Go Go.Proofs

theorem yes_t {b : Bool} {x y : Tree Bool} (h : b = true) (hx : x.goes id = true) : (Tree.node b x y).goes id = true := by subst h; exact hx
theorem beq_of {a b : Int} (h : a = b) : (a == b) = true := by subst h; simp
theorem degW_lt {c f heat : Int} (hc : 1 ≤ c ∧ c ≤ 1000) (hf : 0 ≤ f ∧ f ≤ 1000) (hh : 0 ≤ heat ∧ heat ≤ 1000000000) : decide (spareW c f heat < 0) = decide (degW c heat < f) := by
  obtain ⟨h1, h2, h3, h4⟩ := tdiv_bd hh.1 hc.1
  have hfc0 : 0 ≤ f * c := Int.mul_nonneg hf.1 (by omega)
  have hfc : f * c ≤ 1000 * 1000 := Int.le_trans (Int.mul_le_mul_of_nonneg_left hc.2 hf.1) (Int.mul_le_mul_of_nonneg_right hf.2 (by decide))
  unfold spareW degW
  rw [w64_id (n := f * c) (by omega) (by omega), w64_id (n := heat - f * c) (by omega) (by omega), w64_id (n := heat.tdiv c) (by omega) (by omega)]
  rw [Bool.eq_iff_iff]
  simp only [decide_eq_true_eq]
  constructor
  · intro h
    rcases Int.lt_or_le (heat.tdiv c) f with h' | h'
    · exact h'
    · have := Int.mul_le_mul_of_nonneg_right h' (show 0 ≤ c by omega)
      omega
  · intro h
    have : (heat.tdiv c + 1) * c ≤ f * c := Int.mul_le_mul_of_nonneg_right (by omega) (by omega)
    omega
theorem hold_q {c l f r h k heat : Int} {s : ByteArray} (h1 : rulesErr c l f r h k = 0) (h2 : recvErr s heat = 0) : hE c l f r h k heat s = qhE c f heat s (l == 0) := by
  obtain ⟨hc, _, hf, _⟩ := rules0 h1
  obtain ⟨_, hh⟩ := recv0 h2
  unfold hE hE0 hE1 qhE
  rw [h1, h2, degW_lt hc hf hh, show (s.toList == sEmpty.toList) = eqS s sEmpty from rfl]
  cases eqS s sEmpty <;> cases decide (degW c heat < f) <;> rfl
theorem hold_bad {c l f r h k heat : Int} {s : ByteArray} (hn : lwOne c l f r h k heat s ≠ 0) : hE c l f r h k heat s = lwOne c l f r h k heat s := by
  have e : hE0 c l f r h k heat s = lwOne c l f r h k heat s := by
    unfold hE0
    rw [first3, show firstZ [rulesErr c l f r h k, recvErr s heat] = tE c l f r h k heat s from rfl, one_q]
    have : (lwOne c l f r h k heat s != 0) = true := by simpa using hn
    simp only [firstZ, this]
  unfold hE
  rw [e]
  have : (lwOne c l f r h k heat s != 0) = true := by simpa using hn
  rw [this]
theorem end_ok {c l f r h k heat light flow : Int} {s act : ByteArray} {tq hq three out tk ls two : Int} {ns : ByteArray}
    (h1 : (match tE c l f r h k heat s != 0 with | true => 0 | false => degW c heat) = tq) (h2 : sif (pE c l f r h k heat light flow s act) (actNs s act) = ns)
    (h3 : zif (pE c l f r h k heat light flow s act) (outW c l k heat light flow) = out) (h4 : zif (pE c l f r h k heat light flow s act) (takenW c k heat flow) = tk) (h5 : zif (pE c l f r h k heat light flow s act) (lostW l (heat1W c k heat light flow)) = ls)
    (h6 : pE c l f r h k heat light flow s act = two) (h7 : (match hE c l f r h k heat s != 0 with | true => 0 | false => w64 ((spareW c f heat).tdiv l)) = hq) (h8 : hE c l f r h k heat s = three) :
    (lwEnd c l f r h k heat light flow s act tq hq three ns out tk ls two).goes id = true := by
  unfold lwEnd
  refine yes_t (beq_of (rules_q ..)) (yes_t (beq_of (recv_q ..)) (yes_t (beq_of h1) (yes_t (beq_of (one_q ..)) (yes_t ?_ (yes_t ?_ (yes_t (beq_of h6) (yes_t (beq_of h7) (yes_t (beq_of h8) rfl))))))))
  · rw [h2, h3]; simp
  · rw [h4, h5]; simp
theorem two_of (c l f r h k heat light flow : Int) (s act : ByteArray) (hn : lwOne c l f r h k heat s ≠ 0) : lwTwo c l f r h k heat light flow s act ≠ 0 := by
  unfold lwTwo
  have : (lwOne c l f r h k heat s != 0) = true := by simpa using hn
  simp only [firstZ, this]
  exact hn
theorem one0 {c l f r h k heat : Int} {s : ByteArray} (hn : lwOne c l f r h k heat s = 0) : rulesErr c l f r h k = 0 ∧ recvErr s heat = 0 := by
  unfold lwOne at hn
  rw [← rules_q, ← recv_q] at hn
  obtain ⟨h1, h2⟩ := first0 hn
  exact ⟨h1, (first0 h2).1⟩
theorem stp_ok {c l f r h k heat light flow : Int} {s act : ByteArray} {tq hq three : Int}
    (h1 : (match tE c l f r h k heat s != 0 with | true => 0 | false => degW c heat) = tq) (h7 : (match hE c l f r h k heat s != 0 with | true => 0 | false => w64 ((spareW c f heat).tdiv l)) = hq) (h8 : hE c l f r h k heat s = three) :
    (lwStep c l f r h k heat light flow s act tq hq three).goes id = true := by
  unfold lwStep
  cases h0 : lwTwo c l f r h k heat light flow s act == 0 with
  | false =>
    have hb : (lwTwo c l f r h k heat light flow s act != 0) = true := by rw [bne, h0]; rfl
    have hp : pE c l f r h k heat light flow s act = lwTwo c l f r h k heat light flow s act := by
      unfold pE
      rw [two_q, hb]
    have hs : ∀ x, sif (lwTwo c l f r h k heat light flow s act) x = emptyB := fun x => by unfold sif; rw [hb]
    have hz : ∀ x, zif (lwTwo c l f r h k heat light flow s act) x = 0 := fun x => by unfold zif; rw [hb]
    exact end_ok h1 (by rw [hp, hs]) (by rw [hp, hz]) (by rw [hp, hz]) (by rw [hp, hz]) hp h7 h8
  | true =>
    have h0 : lwTwo c l f r h k heat light flow s act = 0 := by simpa using h0
    have hone : lwOne c l f r h k heat s = 0 := by
      rcases Int.decEq (lwOne c l f r h k heat s) 0 with h' | h'
      · exact absurd h0 (two_of _ _ _ _ _ _ _ _ _ _ _ h')
      · exact h'
    obtain ⟨hr, hv⟩ := one0 hone
    have h0' := h0
    unfold lwTwo at h0'
    obtain ⟨_, h0'⟩ := first0 h0'
    have hst := (first0 h0').1
    rw [← step_q] at hst
    obtain ⟨q1, q2⟩ := stepped_q (heat := heat) (light := light) (flow := flow) (s := s) (act := act) hr hv hst
    have hp : pE c l f r h k heat light flow s act = qErr c l f r h k heat light flow s act := by
      unfold pE
      rw [two_q, h0, q1]
      rfl
    have hc := rules_c hr
    show (Tree.need (!(c == 0)) _).goes id = true
    rw [hc]
    show (lwEnd c l f r h k heat light flow s act tq hq three _ _ _ _ _).goes id = true
    refine end_ok h1 ?_ ?_ ?_ ?_ hp h7 h8 <;> rw [hp]
    all_goals
      cases he : qErr c l f r h k heat light flow s act != 0 with
      | true => simp only [sif, zif, he]
      | false =>
        have he := ne0 he
        obtain ⟨e1, e2⟩ := q2 he
        rw [he]
        simp only [sif, zif, outW, heat1W, outT, qH, heatT, ← e1, ← e2]
        try rfl
theorem steps_law (c l f r h k heat light flow : Int) (s act : ByteArray) : (lwT c l f r h k heat light flow s act).goes id = true := by
  unfold lwT
  cases decide ((s.size : Int) > 40) with
  | true => rfl
  | false =>
  cases decide ((act.size : Int) > 40) with
  | true => rfl
  | false =>
  show (Tree.node (lwOne c l f r h k heat s == 0) _ _).goes id = true
  cases h0 : lwOne c l f r h k heat s == 0 with
  | false =>
    have h0 : lwOne c l f r h k heat s ≠ 0 := by simpa using h0
    have hb : (lwOne c l f r h k heat s != 0) = true := by simpa using h0
    refine stp_ok ?_ ?_ ?_
    · rw [one_q, hb]
    · rw [hold_bad h0, hb]
    · exact hold_bad h0
  | true =>
    have h0 : lwOne c l f r h k heat s = 0 := by simpa using h0
    obtain ⟨hr, hv⟩ := one0 h0
    have hc := rules_c hr
    show (Tree.need (!(c == 0)) (Tree.need (!(c == 0)) _)).goes id = true
    rw [hc]
    refine stp_ok ?_ ?_ ?_
    · rw [one_q, h0]; rfl
    · rw [hold_q hr hv]; rfl
    · exact hold_q hr hv
theorem steps_call (c l f r h k heat light flow : Int) (s act : ByteArray) : CallAt Tryz.prog 3 (encA [.v 6, .sv 1, .sv 2] [c, l, f, r, h, k, heat, light, flow] [] [s, act]) hpS (boo true) hpS :=
  call_goes tbA_ok Tryz.func3 (by kernel_rfl) (false, false) (by kernel_rfl) (by rw [law_tree]; exact steps_law ..)
end Go.Ev
