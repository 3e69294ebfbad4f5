/- SaltRuns: its law is true, its call. Conditions: the two variables that awake() reads; the list of steps is a table. -/
import Derived.Test.YtlpchgidkibbeaaGreatDoorLRuns
namespace Go.Ev
open Go Go.Proofs
set_option maxRecDepth 100000

def isTrueL (H : Hp) (o : (Bool × A × Hp) ⊕ (List Bool × St)) : Prop := match o with | .inl r => r.2 = (boo true, H) | .inr _ => False
theorem eqSk_ok (H : Hp) {p q : R6} (h : p = q) : (eqSk H p q).All (isTrueL H) := by
  subst h
  obtain ⟨a, b, c, d, e, f⟩ := p
  have h1 : (a.toList == a.toList && (b == b && true)) = true := by simp
  have h2 : (c == c && (d == d && true)) = true := by simp
  have h3 : (e == e) = true := by simp
  have h4 : (f == f) = true := by simp
  unfold eqSk
  simp only [h1, h2, h3, h4, Sk.All, lfT]
  rfl
theorem okN_ok (n : Nat) : okN n = true := by unfold okN; rw [ble_self]; rfl
section
variable (H : Hp) (n : Nat) (z0 : Nat → ByteArray) (z1 z2 : Nat → Int) (r0 r1 r2 r3 r4 r5 : Int) (s : ByteArray) (heat : Int)
theorem bne_eq {a : Int} {b : Bool} (h : (a == 0) = b) : (a != 0) = !b := by rw [bne, h]
theorem lrB_ok (hn : n ≤ 1000000) {p : R6} (hp : p = runP n z0 z1 z2 r0 r1 r2 r3 r4 r5 s heat) : (lrB H n z0 z1 z2 r0 r1 r2 r3 r4 r5 s heat p).All (isTrueL H) := by
  subst hp
  have hle : Nat.ble n 1000000 = true := by rw [Nat.ble_eq]; exact hn
  have hle2 : Nat.ble n 9223372036854775807 = true := by rw [Nat.ble_eq]; omega
  have hE := run_E (z0 := z0) (z1 := z1) (z2 := z2) (r0 := r0) (r1 := r1) (r2 := r2) (r3 := r3) (r4 := r4) (r5 := r5) n s heat
  unfold lrB
  cases h1 : one2 r0 r1 r2 r3 r4 r5 s heat == 0 with
  | false =>
    have hb : (firstZ [qrulesErr r0 r1 r2 r3 r4 r5, qrecvErr s heat] != 0) = true := bne_eq h1
    have hx : srunE n z0 z1 z2 r0 r1 r2 r3 r4 r5 s heat = one2 r0 r1 r2 r3 r4 r5 s heat := by rw [hE, hb]; rfl
    refine eqSk_ok H ?_
    unfold runP rvS
    rw [hx, show (one2 r0 r1 r2 r3 r4 r5 s heat != 0) = true from hb]
    rfl
  | true =>
    have hb : (firstZ [qrulesErr r0 r1 r2 r3 r4 r5, qrecvErr s heat] != 0) = false := bne_eq h1
    have hx : srunE n z0 z1 z2 r0 r1 r2 r3 r4 r5 s heat = qplanE n (qpC z0 z1 z2 r0) := by rw [hE, hb]
    refine ⟨okN_ok n, hle2, ?_⟩
    cases h2 : qplanE n (qpC z0 z1 z2 r0) == 0 with
    | false =>
      refine eqSk_ok H ?_
      unfold runP rvS
      rw [hx, show (qplanE n (qpC z0 z1 z2 r0) != 0) = true from bne_eq h2]
      rfl
    | true =>
      have h0 : srunE n z0 z1 z2 r0 r1 r2 r3 r4 r5 s heat = 0 := by rw [hx]; simpa using h2
      obtain ⟨a1, a2, a3, a4⟩ := srun_facts n z0 z1 z2 r0 r1 r2 r3 r4 r5 h0
      refine ⟨okN_ok n, by rw [hle, rules_c a1]; rfl, eqSk_ok H ?_⟩
      unfold runP rvS
      rw [h0, go_q a1 n 0 s heat 0 0 (fun j _ hj => a4 j (by omega)) a2]
      rfl
theorem lr_law (hn : n ≤ 9223372036854775807) : (lrS H n z0 z1 z2 r0 r1 r2 r3 r4 r5 s heat).All (isTrueL H) := by
  have hle2 : Nat.ble n 9223372036854775807 = true := by rw [Nat.ble_eq]; exact hn
  unfold lrS
  cases decide ((s.size : Int) > 40) with
  | true => rfl
  | false =>
    refine ⟨okN_ok n, hle2, ?_⟩
    cases hs : shortB n z0 with
    | false => rfl
    | true =>
      have hn2 : n ≤ 1000000 := by
        unfold shortB at hs
        split at hs
        · cases hs
        · split at hs
          · rename_i h
            have := of_decide_eq_true h
            omega
          · have : (n : Int) = 257 := by simpa using hs
            omega
      have hle : Nat.ble n 1000000 = true := by rw [Nat.ble_eq]; exact hn2
      refine ⟨okN_ok n, hle, ?_⟩
      cases h0 : Nat.beq n 0 with
      | true =>
        refine lrB_ok H n z0 z1 z2 r0 r1 r2 r3 r4 r5 s heat hn2 ?_
        obtain rfl := Nat.eq_of_beq_eq_true h0
        rfl
      | false => exact ⟨okN_ok n, hle, lrB_ok H n z0 z1 z2 r0 r1 r2 r3 r4 r5 s heat hn2 rfl⟩
end
/-- the law's word -/
theorem runs_call (n : Nat) (z0 : Nat → ByteArray) (z1 z2 : Nat → Int) (r0 r1 r2 r3 r4 r5 : Int) (s : ByteArray) (heat : Int) (hn : n ≤ 9223372036854775807) :
    CallAt Tryz.prog 8 [.agg (rulesC r0 r1 r2 r3 r4 r5), .agg [cs s, ci heat], slT 0 3 n] (hpL1 n (st3 z0 z1 z2)) (boo true) (hpL1 n (st3 z0 z1 z2)) :=
  call_sk tbR_ok Tryz.func8 (by kernel_rfl) (false, true) (by kernel_rfl) (lr_into n z0 z1 z2 r0 r1 r2 r3 r4 r5 s heat) (lr_fits n z0 z1 z2 r0 r1 r2 r3 r4 r5 s heat) (lr_law (hpL1 n (st3 z0 z1 z2)) n z0 z1 z2 r0 r1 r2 r3 r4 r5 s heat hn)
end Go.Ev
