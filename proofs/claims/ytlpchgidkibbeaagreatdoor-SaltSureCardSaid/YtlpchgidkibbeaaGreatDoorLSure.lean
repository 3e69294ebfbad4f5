/- SaltSure: its run by a sketch; it is true; its call. Conditions: the two variables that awake() reads; the list of told steps is a table. -/
import Derived.Test.YtlpchgidkibbeaaGreatDoorSure0
import Derived.Test.YtlpchgidkibbeaaGreatDoorSk1
import Derived.Test.YtlpchgidkibbeaaGreatDoorQSureS
namespace Go.Ev
open Go Go.Proofs

theorem told_q (c lo hi flow : Int) (s : ByteArray) : toldErr c lo hi flow s = qtoldErr c lo hi flow s := by
  unfold toldErr qtoldErr
  rw [isAct_q]
theorem told0 {c lo hi flow : Int} {s : ByteArray} (h : toldErr c lo hi flow s = 0) : stepErr c lo flow s = 0 ∧ stepErr c hi flow s = 0 := by
  unfold toldErr at h
  obtain ⟨h1, h⟩ := first0 h
  obtain ⟨h2, h⟩ := first0 h
  obtain ⟨h3, h⟩ := first0 h
  obtain ⟨_, h⟩ := first0 h
  obtain ⟨h5, _⟩ := first0 h
  unfold stepErr
  rw [h1, h2, h3, h5]
  exact ⟨rfl, rfl⟩
section
variable {z0 : Nat → ByteArray} {z1 z2 z3 : Nat → Int} {r0 r1 r2 r3 r4 r5 : Int}
/-- one step: the same error; where there is none, the same receiver, which keeps to the checks -/
theorem one_go (h1 : rulesErr r0 r1 r2 r3 r4 r5 = 0) (k : Nat) {s : ByteArray} {heat : Int} (h2 : recvErr s heat = 0) (h3 : stepErr r0 (z1 k) (z2 k) (z0 k) = 0) :
    se z0 z1 z2 r0 r1 r2 r3 r4 r5 k s heat = qe z0 z1 z2 r0 r1 r2 r3 r4 r5 k s heat ∧ (qe z0 z1 z2 r0 r1 r2 r3 r4 r5 k s heat = 0 → ss1 z0 z1 z2 r0 r1 r2 r3 r4 r5 k s heat = qs1 z0 z1 z2 r0 r1 r2 r3 r4 r5 k s heat ∧ sh1 z0 z1 z2 r0 r1 r2 r3 r4 r5 k s heat = qh1 z0 z1 z2 r0 r1 r2 r3 r4 r5 k s heat ∧ recvErr (qs1 z0 z1 z2 r0 r1 r2 r3 r4 r5 k s heat) (qh1 z0 z1 z2 r0 r1 r2 r3 r4 r5 k s heat) = 0) := by
  obtain ⟨q1, q2⟩ := stepped_q (heat := heat) (light := z1 k) (flow := z2 k) (s := s) (act := z0 k) h1 h2 h3
  have he : se z0 z1 z2 r0 r1 r2 r3 r4 r5 k s heat = qe z0 z1 z2 r0 r1 r2 r3 r4 r5 k s heat := q1
  refine ⟨he, fun h0 => ?_⟩
  obtain ⟨e1, e2⟩ := q2 h0
  have s1 : ss1 z0 z1 z2 r0 r1 r2 r3 r4 r5 k s heat = actNs s (z0 k) := by unfold ss1 sif; rw [he, h0]; rfl
  have s2 : sh1 z0 z1 z2 r0 r1 r2 r3 r4 r5 k s heat = outW r0 r1 r5 heat (z1 k) (z2 k) := by unfold sh1 zif; rw [he, h0]; rfl
  have g1 : ss1 z0 z1 z2 r0 r1 r2 r3 r4 r5 k s heat = qs1 z0 z1 z2 r0 r1 r2 r3 r4 r5 k s heat := by unfold ss1 qs1; rw [he, e1]
  have g2 : sh1 z0 z1 z2 r0 r1 r2 r3 r4 r5 k s heat = qh1 z0 z1 z2 r0 r1 r2 r3 r4 r5 k s heat := by
    unfold sh1 qh1; rw [he]; simp only [outW, heat1W, outT, qH, heatT, ← e2]
  refine ⟨g1, g2, ?_⟩
  rw [← g1, ← g2, s1, s2]
  exact recv_of (actNs_known (recv0 h2).1 (step0 h3).1) (out_nonneg h1 h2 h3) (eW0 (show eW _ _ _ _ _ _ _ _ _ _ _ = 0 from he.trans h0))
theorem su_q (h1 : rulesErr r0 r1 r2 r3 r4 r5 = 0) : ∀ (m k : Nat) (s1 : ByteArray) (g1 : Int) (s2 : ByteArray) (g2 : Int), (∀ j, k ≤ j → j < k + m → toldErr r0 (z1 j) (z2 j) (z3 j) (z0 j) = 0) → recvErr s1 g1 = 0 → recvErr s2 g2 = 0 →
    suQ (suGo z0 z1 z2 z3 r0 r1 r2 r3 r4 r5 m k s1 g1 s2 g2) = suQ (quGo z0 z1 z2 z3 r0 r1 r2 r3 r4 r5 m k s1 g1 s2 g2)
  | 0, _, _, _, _, _, _, _, _ => rfl
  | m + 1, k, s1, g1, s2, g2, hst, h2, h3 => by
    obtain ⟨t1, t2⟩ := told0 (hst k (Nat.le_refl k) (by omega))
    obtain ⟨a1, a2⟩ := one_go (z0 := z0) (z1 := z1) (z2 := z3) h1 k h2 t1
    obtain ⟨b1, b2⟩ := one_go (z0 := z0) (z1 := z2) (z2 := z3) h1 k h3 t2
    have hF : firstZ [qe z0 z1 z3 r0 r1 r2 r3 r4 r5 k s1 g1, qe z0 z2 z3 r0 r1 r2 r3 r4 r5 k s2 g2] = (match qe z0 z1 z3 r0 r1 r2 r3 r4 r5 k s1 g1 != 0 with | true => qe z0 z1 z3 r0 r1 r2 r3 r4 r5 k s1 g1 | false => qe z0 z2 z3 r0 r1 r2 r3 r4 r5 k s2 g2) := by
      unfold firstZ firstZ firstZ
      cases hb : qe z0 z2 z3 r0 r1 r2 r3 r4 r5 k s2 g2 != 0 with
      | true => rfl
      | false => rw [ne0 hb]; rfl
    unfold suGo quGo
    rw [a1, b1, show quE z0 z1 z2 z3 r0 r1 r2 r3 r4 r5 k s1 g1 s2 g2 = _ from hF]
    cases ha : qe z0 z1 z3 r0 r1 r2 r3 r4 r5 k s1 g1 != 0 with
    | true => simp only [ha]
    | false =>
      simp only []
      cases hb : qe z0 z2 z3 r0 r1 r2 r3 r4 r5 k s2 g2 != 0 with
      | true => rfl
      | false =>
        obtain ⟨c1, c2, c3⟩ := a2 (ne0 ha)
        obtain ⟨d1, d2, d3⟩ := b2 (ne0 hb)
        simp only []
        rw [c1, c2, d1, d2]
        exact su_q h1 m (k + 1) _ _ _ _ (fun j hj1 hj2 => hst j (by omega) (by omega)) c3 d3
end
end Go.Ev
namespace Go.Ev
open Go Go.Proofs
set_option maxRecDepth 100000

noncomputable def lsT (n : Nat) (z0 : Nat → ByteArray) (z1 z2 z3 : Nat → Int) (r0 r1 r2 r3 r4 r5 : Int) (s : ByteArray) (heat : Int) : Tree ((Bool × A × Hp) ⊕ (List Bool × St)) := preA Tryz.prog (tabOf tbSu) Tryz.f3 [.agg (rulesC r0 r1 r2 r3 r4 r5), .agg [cs s, ci heat], slT 0 4 n] (hpL1 n (st4 z0 z1 z2 z3)) (false, true)
section
variable (H : Hp)
/-- the comparisons of what Sure handed back -/
def eqSk4 (p q : R4) : SkL := .node (p.1 == q.1 && (p.2.1 == q.2.1 && true)) (.node (p.2.2.1 == q.2.2.1) (.node (p.2.2.2 == q.2.2.2) (lfT H true) (lfT H false)) (.ff (lfT H false))) (.ff (.ff (lfT H false)))
variable (n : Nat) (z0 : Nat → ByteArray) (z1 z2 z3 : Nat → Int) (r0 r1 r2 r3 r4 r5 : Int) (s : ByteArray) (heat : Int)
def bad4 (e : Int) : R4 := (0, 0, 0, e)
def lsA (p : R4) : SkL := .need (okN n) (.need (Nat.ble n 1000000 && !(r0 == 0)) (eqSk4 H p (suQ (quGo z0 z1 z2 z3 r0 r1 r2 r3 r4 r5 n 0 s heat s heat))))
def lsB (p : R4) : SkL := .node (one2 r0 r1 r2 r3 r4 r5 s heat == 0)
  (.need (okN n) (.need (Nat.ble n 9223372036854775807) (.node (qplanE n (qtC z0 z1 z2 z3 r0) == 0) (lsA H n z0 z1 z2 z3 r0 r1 r2 r3 r4 r5 s heat p) (eqSk4 H p (bad4 (qplanE n (qtC z0 z1 z2 z3 r0)))))))
  (.node (one2 r0 r1 r2 r3 r4 r5 s heat == 0) (lsA H n z0 z1 z2 z3 r0 r1 r2 r3 r4 r5 s heat p) (eqSk4 H p (bad4 (one2 r0 r1 r2 r3 r4 r5 s heat))))
def surP (n : Nat) (z0 : Nat → ByteArray) (z1 z2 z3 : Nat → Int) (r0 r1 r2 r3 r4 r5 : Int) (s : ByteArray) (heat : Int) : R4 := suP (sureE n z0 z1 z2 z3 r0 r1 r2 r3 r4 r5 s heat) (suGo z0 z1 z2 z3 r0 r1 r2 r3 r4 r5 n 0 s heat s heat)
def lsS : SkL := .node (decide ((s.size : Int) > 40)) (.tt (lfT H true)) (.need (okN n) (.need (Nat.ble n 9223372036854775807) (.node (!shortB n z0) (lfT H true) (.need (okN n) (.need (Nat.ble n 1000000) (.node (Nat.beq n 0)
  (lsB H n z0 z1 z2 z3 r0 r1 r2 r3 r4 r5 s heat (surP 0 (fun _ => ⟨#[]⟩) (fun _ => 0) (fun _ => 0) (fun _ => 0) r0 r1 r2 r3 r4 r5 s heat))
  (.need (okN n) (.need (Nat.ble n 1000000) (lsB H n z0 z1 z2 z3 r0 r1 r2 r3 r4 r5 s heat (surP n z0 z1 z2 z3 r0 r1 r2 r3 r4 r5 s heat))))))))))
end
section
variable (n : Nat) (z0 : Nat → ByteArray) (z1 z2 z3 : Nat → Int) (r0 r1 r2 r3 r4 r5 : Int) (s : ByteArray) (heat : Int)
theorem ls_into : lsT n z0 z1 z2 z3 r0 r1 r2 r3 r4 r5 s heat = into (lsT n z0 z1 z2 z3 r0 r1 r2 r3 r4 r5 s heat) (lsS (hpL1 n (st4 z0 z1 z2 z3)) n z0 z1 z2 z3 r0 r1 r2 r3 r4 r5 s heat) := by kernel_rfl
theorem ls_fits : fits (lsT n z0 z1 z2 z3 r0 r1 r2 r3 r4 r5 s heat) (lsS (hpL1 n (st4 z0 z1 z2 z3)) n z0 z1 z2 z3 r0 r1 r2 r3 r4 r5 s heat) = true := by kernel_rfl
end
theorem eqSk4_ok (H : Hp) {p q : R4} (h : p = q) : (eqSk4 H p q).All (isTrueL H) := by
  subst h
  obtain ⟨a, b, c, d⟩ := p
  have h1 : (a == a && (b == b && true)) = true := by simp
  have h3 : (c == c) = true := by simp
  have h4 : (d == d) = true := by simp
  unfold eqSk4
  simp only [h1, h3, h4, Sk.All, lfT]
  rfl
section
variable {z0 : Nat → ByteArray} {z1 z2 z3 : Nat → Int} {r0 r1 r2 r3 r4 r5 : Int}
/-- the errors of Sure's arguments -/
theorem sure_E (n : Nat) (s : ByteArray) (heat : Int) : sureE n z0 z1 z2 z3 r0 r1 r2 r3 r4 r5 s heat = (match firstZ [qrulesErr r0 r1 r2 r3 r4 r5, qrecvErr s heat] != 0 with
    | true => firstZ [qrulesErr r0 r1 r2 r3 r4 r5, qrecvErr s heat]
    | false => qplanE n (qtC z0 z1 z2 z3 r0)) := by
  have hC : mapTC0 z0 z1 z2 z3 r0 r1 r2 r3 r4 r5 = qtC z0 z1 z2 z3 r0 := by
    funext k
    show toldErr r0 (z1 k) (z2 k) (z3 k) (z0 k) = qtoldErr r0 (z1 k) (z2 k) (z3 k) (z0 k)
    rw [told_q]
  have hF : ∀ x, firstZ [x] = x := fun x => by
    unfold firstZ
    cases hx : x != 0 with
    | true => rfl
    | false => rw [ne0 hx]; rfl
  unfold sureE qplanE
  rw [hC, rules_q, recv_q]
  generalize qrulesErr r0 r1 r2 r3 r4 r5 = a
  generalize qrecvErr s heat = b
  generalize (fnz (qtC z0 z1 z2 z3 r0) n 0).getD 0 = d
  have e1 : firstZ [a, b] = (match a != 0 with | true => a | false => b) := by
    unfold firstZ
    rw [hF]
    cases a != 0 <;> rfl
  have e2 : firstZ [a, b, errIf (decide ((n : Int) > 256)) 5, d] = (match a != 0 with | true => a | false => match b != 0 with | true => b | false => match errIf (decide ((n : Int) > 256)) 5 != 0 with | true => errIf (decide ((n : Int) > 256)) 5 | false => d) := by
    unfold firstZ firstZ firstZ
    rw [hF]
    cases a != 0 <;> cases b != 0 <;> cases errIf (decide ((n : Int) > 256)) 5 != 0 <;> rfl
  rw [e1, e2]
  cases ha : a != 0 with
  | true => simp only [ha]
  | false =>
    simp only []
    cases hb : b != 0 with
    | true => simp only []
    | false => cases decide ((n : Int) > 256) <;> rfl
end
section
variable (H : Hp) (n : Nat) (z0 : Nat → ByteArray) (z1 z2 z3 : Nat → Int) (r0 r1 r2 r3 r4 r5 : Int) (s : ByteArray) (heat : Int)
theorem lsB_ok (hn : n ≤ 1000000) {p : R4} (hp : p = surP n z0 z1 z2 z3 r0 r1 r2 r3 r4 r5 s heat) : (lsB H n z0 z1 z2 z3 r0 r1 r2 r3 r4 r5 s heat p).All (isTrueL H) := by
  subst hp
  have hle : Nat.ble n 1000000 = true := by rw [Nat.ble_eq]; exact hn
  have hle2 : Nat.ble n 9223372036854775807 = true := by rw [Nat.ble_eq]; omega
  have hE := sure_E (z0 := z0) (z1 := z1) (z2 := z2) (z3 := z3) (r0 := r0) (r1 := r1) (r2 := r2) (r3 := r3) (r4 := r4) (r5 := r5) n s heat
  unfold lsB
  cases h1 : one2 r0 r1 r2 r3 r4 r5 s heat == 0 with
  | false =>
    have hb : (firstZ [qrulesErr r0 r1 r2 r3 r4 r5, qrecvErr s heat] != 0) = true := bne_eq h1
    have hx : sureE n z0 z1 z2 z3 r0 r1 r2 r3 r4 r5 s heat = one2 r0 r1 r2 r3 r4 r5 s heat := by rw [hE, hb]; rfl
    refine eqSk4_ok H ?_
    unfold surP suP
    rw [hx, show (one2 r0 r1 r2 r3 r4 r5 s heat != 0) = true from hb]
    rfl
  | true =>
    have hb : (firstZ [qrulesErr r0 r1 r2 r3 r4 r5, qrecvErr s heat] != 0) = false := bne_eq h1
    have hx : sureE n z0 z1 z2 z3 r0 r1 r2 r3 r4 r5 s heat = qplanE n (qtC z0 z1 z2 z3 r0) := by rw [hE, hb]
    refine ⟨okN_ok n, hle2, ?_⟩
    cases h2 : qplanE n (qtC z0 z1 z2 z3 r0) == 0 with
    | false =>
      refine eqSk4_ok H ?_
      unfold surP suP
      rw [hx, show (qplanE n (qtC z0 z1 z2 z3 r0) != 0) = true from bne_eq h2]
      rfl
    | true =>
      have h0 : sureE n z0 z1 z2 z3 r0 r1 r2 r3 r4 r5 s heat = 0 := by rw [hx]; simpa using h2
      obtain ⟨a1, a2, a3, a4⟩ := sure_facts n z0 z1 z2 z3 r0 r1 r2 r3 r4 r5 h0
      refine ⟨okN_ok n, by rw [hle, rules_c a1]; rfl, eqSk4_ok H ?_⟩
      unfold surP suP
      rw [h0]
      exact su_q a1 n 0 s heat s heat (fun j _ hj => a4 j (by omega)) a2 a2
theorem ls_law (hn : n ≤ 9223372036854775807) : (lsS H n z0 z1 z2 z3 r0 r1 r2 r3 r4 r5 s heat).All (isTrueL H) := by
  have hle2 : Nat.ble n 9223372036854775807 = true := by rw [Nat.ble_eq]; exact hn
  unfold lsS
  cases decide ((s.size : Int) > 40) with
  | true => rfl
  | false =>
    refine ⟨okN_ok n, hle2, ?_⟩
    cases hs : shortB n z0 with
    | false => rfl
    | true =>
      have hn2 : n ≤ 1000000 := by
        unfold shortB at hs
        split at hs
        · cases hs
        · split at hs
          · rename_i h
            have := of_decide_eq_true h
            omega
          · have : (n : Int) = 257 := by simpa using hs
            omega
      have hle : Nat.ble n 1000000 = true := by rw [Nat.ble_eq]; exact hn2
      refine ⟨okN_ok n, hle, ?_⟩
      cases h0 : Nat.beq n 0 with
      | true =>
        refine lsB_ok H n z0 z1 z2 z3 r0 r1 r2 r3 r4 r5 s heat hn2 ?_
        obtain rfl := Nat.eq_of_beq_eq_true h0
        rfl
      | false => exact ⟨okN_ok n, hle, lsB_ok H n z0 z1 z2 z3 r0 r1 r2 r3 r4 r5 s heat hn2 rfl⟩
end
/-- the law's word -/
theorem sure_call (n : Nat) (z0 : Nat → ByteArray) (z1 z2 z3 : Nat → Int) (r0 r1 r2 r3 r4 r5 : Int) (s : ByteArray) (heat : Int) (hn : n ≤ 9223372036854775807) :
    CallAt Tryz.prog 3 [.agg (rulesC r0 r1 r2 r3 r4 r5), .agg [cs s, ci heat], slT 0 4 n] (hpL1 n (st4 z0 z1 z2 z3)) (boo true) (hpL1 n (st4 z0 z1 z2 z3)) :=
  call_sk tbSu_ok Tryz.func3 (by kernel_rfl) (false, true) (by kernel_rfl) (ls_into n z0 z1 z2 z3 r0 r1 r2 r3 r4 r5 s heat) (ls_fits n z0 z1 z2 z3 r0 r1 r2 r3 r4 r5 s heat) (ls_law (hpL1 n (st4 z0 z1 z2 z3)) n z0 z1 z2 z3 r0 r1 r2 r3 r4 r5 s heat hn)
end Go.Ev
