/- The checks with which SunWays begins. Conditions: none. -/
import Derived.Test.YtfdfpfojiilcgaaGreatDoorLaw6
namespace Go.Ev
open Go

theorem nAW {α : Type} {Ψ : α → Prop} {a : α} {b : Bool} {t : Tree α} (ha : Ψ a) (h : b = false → t.All Ψ) : (Tree.node b (.leaf a) t).All Ψ := by
  cases b with
  | true => exact ha
  | false => exact h rfl
theorem nF {α : Type} {Ψ : α → Prop} {n : Nat} {b : Bool} {t : Tree α} (hb : b = false) (h : t.All Ψ) : (Tree.node b (.fail n) t).All Ψ := by subst hb; exact h
theorem only_zero {e a : Int} (h : e = 0) : only0 e a = a := by subst h; rfl
theorem qdir_ok {M : Nat} {x y z : Int} (h : Bd M x y z) (hM : M ≤ 1048576) (h0 : ¬ (x = 0 ∧ y = 0 ∧ z = 0)) : qdirErr x y z = 0 := by
  rw [← dir_eq]
  exact dir_zero.2 ⟨h.mono hM, h0⟩
/-- what the checks tell -/
structure WFacts (x y z num den ax ay az bx b2 bz : Int) : Prop where
  c : ConeOk x y z num den
  a : Ray ax ay az
  b : Ray bx b2 bz
  A : Bd 40 ax ay az
  B : Bd 40 bx b2 bz
  o : oppW ax ay az bx b2 bz = false
theorem beg_ok {x y z num den ax ay az bx b2 bz : Int} {Ψ : Unit ⊕ (List Bool × St) → Prop} {t : Tree (Unit ⊕ (List Bool × St))} (h0 : Ψ (.inl ())) (ht : WFacts x y z num den ax ay az bx b2 bz → t.All Ψ) : (wBeg x y z num den ax ay az bx b2 bz t).All Ψ := by
  unfold wBeg
  refine nAW h0 fun hc => nAW h0 fun t1 => nAW h0 fun t2 => nAW h0 fun t3 => ?_
  have hc' : qconeErr x y z num den = 0 := by simpa using hc
  obtain ⟨rc, bc⟩ := tin_of (by simpa using t1 : tinW x y z = true)
  obtain ⟨ra, ba⟩ := tin_of (by simpa using t2 : tinW ax ay az = true)
  obtain ⟨rb, bb⟩ := tin_of (by simpa using t3 : tinW bx b2 bz = true)
  refine ⟨by rw [ra.in3, rb.in3]; rfl, ?_⟩
  refine nAW h0 fun hopp => ?_
  have ho : oppW ax ay az bx b2 bz = false := by rw [opp_eq ra.2 rb.2 (ra.1.mono (by decide)) (rb.1.mono (by decide))]; exact hopp
  have hcone : ConeOk x y z num den := by
    rw [← cone_eq] at hc'
    unfold coneErr at hc'
    rw [firstZ_zero] at hc'
    simp only [List.mem_cons, List.not_mem_nil, or_false, forall_eq_or_imp, forall_eq, wW_zero] at hc'
    exact ⟨rc, bc.mono (by decide), hc'.2.2.1, hc'.2.2.2, hc'.2.1.1, hc'.2.1.2⟩
  have facts : WFacts x y z num den ax ay az bx b2 bz := ⟨hcone, ra, rb, ba, bb, ho⟩
  have er : rayErr ax ay az = 0 := ray_zero.2 ra
  obtain ⟨s0, sb, sa⟩ := sd_law ra ba
  obtain ⟨p, q, r, f1, f2, f3, f0, fb, fa, fs⟩ := fr_law ra ba
  have bA := ba.mono (show 40 ≤ 256 by decide)
  have bB := bb.mono (show 40 ≤ 256 by decide)
  have ho' : oppW bx b2 bz ax ay az = false := by
    obtain ⟨u1, u2, u3, hU⟩ := red_ex ra.2
    obtain ⟨v1, v2, v3, hV⟩ := red_ex rb.2
    rw [Bool.eq_false_iff]
    intro e
    have := (opp_red rb ra hV hU).1 e
    have := (opp_red ra rb hU hV).2 ⟨by omega, by omega, by omega⟩
    rw [ho] at this; cases this
  obtain ⟨E1, M1⟩ := meet_iff hcone ra rb bA bB ho
  obtain ⟨E2, M2⟩ := meet_iff hcone rb ra bB bA ho'
  obtain ⟨E3, M3⟩ := meet_iff hcone.half ra rb bA bB ho
  have hn0 := hcone.num0
  have hn1 := hcone.num1
  have hd1 := hcone.den1
  have hsym : coMeets x y z num den bx b2 bz ax ay az = coMeets x y z num den ax ay az bx b2 bz := by
    rw [Bool.eq_iff_iff, M1, M2]
    exact ⟨MeetP.symm, MeetP.symm⟩
  have z1 : fr1 ax ay az = sd1 ax ay az := only_zero er
  have z2 : fr2 ax ay az = sd2 ax ay az := only_zero er
  have z3 : fr3 ax ay az = sd3 ax ay az := only_zero er
  have z4 : fr4 ax ay az = p := (only_zero er).trans f1
  have z5 : fr5 ax ay az = q := (only_zero er).trans f2
  have z6 : fr6 ax ay az = r := (only_zero er).trans f3
  rw [z1, z2, z3, z4, z5, z6]
  refine nF (bne_zero er) (nF (bne_zero (qdir_ok sb (by decide) s0)) (nF (bne_zero (qdir_ok fb (by decide) f0)) (nF (bne_zero ?_) (nF (bne_zero ?_) (nF (bne_zero ?_) (nF (bne_zero E1) (nF (bne_zero E2) (nF (bne_zero E3) (nF ?_ ?_)))))))))
  · rw [(dot_eq sb fb (by decide)).1]; exact fs
  · rw [(dot_eq sb ba (by decide)).1]; exact sa
  · rw [(dot_eq fb ba (by decide)).1]; exact fa
  · rw [hsym]; simp
  · cases hM : coMeets x y z num den ax ay az bx b2 bz with
    | false => exact ht facts
    | true =>
      refine nF ?_ (ht facts)
      rw [M3.2 ((M1.1 hM).less (half_le hn0 (by omega)).2)]
      rfl
end Go.Ev
