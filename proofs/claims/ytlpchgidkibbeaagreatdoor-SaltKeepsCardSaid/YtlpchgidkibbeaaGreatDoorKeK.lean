/- Layers that are put together: sums, order (plain). Conditions: amounts and heats in range. -/
import Derived.Test.YtlpchgidkibbeaaGreatDoorTog0
import Derived.Test.YtlpchgidkibbeaaGreatDoorMvD
import Derived.Test.YtlpchgidkibbeaaGreatDoorTankX
namespace Go.Ev
open Go Go.Proofs
set_option maxRecDepth 100000
theorem w64_in {n : Int} (h0 : -9223372036854775808 ≤ n) (h1 : n ≤ 9223372036854775807) : w64 n = n := wrap_id h0 h1
def sumN (f : Nat → Int) : Nat → Int
 | 0 => 0
 | k + 1 => sumN f k + f k
theorem sumN_succ (f : Nat → Int) (k : Nat) : sumN f (k + 1) = sumN f k + f k := rfl
theorem sumN_cong {f f' : Nat → Int} : ∀ k, (∀ i, i < k → f i = f' i) → sumN f k = sumN f' k
 | 0, _ => rfl
 | k + 1, h => by rw [sumN_succ, sumN_succ, sumN_cong k fun i hi => h i (by omega), h k (by omega)]
theorem sumN_nn {f : Nat → Int} : ∀ k, (∀ i, i < k → 0 ≤ f i) → 0 ≤ sumN f k
 | 0, _ => Int.le_refl _
 | k + 1, h => by
  have := sumN_nn k fun i hi => h i (by omega)
  have := h k (by omega)
  rw [sumN_succ]; omega
theorem sumN_mono {f : Nat → Int} {k : Nat} : ∀ n, k ≤ n → (∀ i, i < n → 0 ≤ f i) → sumN f k ≤ sumN f n
 | 0, h, _ => by rw [show k = 0 by omega]; exact Int.le_refl _
 | n + 1, h, hf => by
  rcases Nat.eq_or_lt_of_le h with e | e
  ·rw [e]; exact Int.le_refl _
  ·have := sumN_mono (k := k) n (by omega) fun i hi => hf i (by omega)
   have := hf n (by omega)
   rw [sumN_succ]; omega
theorem sumN_at {f : Nat → Int} {n k : Nat} (hk : k < n) (hf : ∀ i, i < n → 0 ≤ f i) : f k ≤ sumN f n := by
 have h1 := sumN_mono (k := k + 1) n (by omega) hf
 have h2 := sumN_nn (f := f) k fun i hi => hf i (by omega)
 rw [sumN_succ] at h1
 omega
theorem sumA_N {f : Nat → Int} {n : Nat} (hf : ∀ i, i < n → 0 ≤ f i) (hb : sumN f n ≤ 1000000000000000000) : ∀ k, k ≤ n → sumA f k = sumN f k
 | 0, _ => rfl
 | k + 1, hk => by
  have ih := sumA_N hf hb k (by omega)
  have h1 := sumN_mono (k := k + 1) n hk hf
  have h2 := sumN_nn (f := f) (k + 1) fun i hi => hf i (by omega)
  show w64 (sumA f k + f k) = _
  rw [ih, ← sumN_succ]
  exact w64_in (by omega) (by omega)
theorem put_at {α : Type} (f : Nat → α) (i : Nat) (x : α) : putF f i x i = x := by unfold putF; simp
theorem put_off {α : Type} (f : Nat → α) {i j : Nat} (x : α) (h : j ≠ i) : putF f i x j = f j := by
 unfold putF
 rw [show Nat.beq j i = false by cases g : Nat.beq j i with | true => exact absurd (Nat.eq_of_beq_eq_true g) h | false => rfl]
theorem sumN_out {f : Nat → Int} {i : Nat} {x : Int} : ∀ n, n ≤ i → sumN (putF f i x) n = sumN f n := fun n h => sumN_cong n fun j hj => put_off f x (by omega)
theorem sumN_put {f : Nat → Int} {i : Nat} {x : Int} : ∀ n, i < n → sumN (putF f i x) n = sumN f n - f i + x
 | 0, h => by omega
 | n + 1, h => by
  rw [sumN_succ, sumN_succ]
  by_cases e : i = n
  ·subst e
   rw [sumN_out i (Nat.le_refl _), put_at]; omega
  ·rw [sumN_put n (by omega), put_off f x (by omega)]; omega
theorem prodB {a h : Int} (h1 : 0 ≤ a) (h2 : a ≤ 1000000) (h3 : 0 ≤ h) (h4 : h ≤ 1000000000) : 0 ≤ h * a ∧ h * a ≤ 1000000000000000 := by
 refine ⟨Int.mul_nonneg h3 h1, ?_⟩
 have := Int.mul_le_mul h4 h2 h1 (by decide)
 omega
structure Rng (s : T3) (A H : Int) : Prop where
 pos : ∀ i, i < s.1 → 1 ≤ s.2.1 i ∧ 0 ≤ s.2.2 i
 sa : sumN s.2.1 s.1 = A
 sh : sumN s.2.2 s.1 = H
 bA : A ≤ 1000000
 bH : H ≤ 1000000000
def lt2 (a h : Nat → Int) (i : Nat) : Prop := h i * a (i + 1) < h (i + 1) * a i
theorem Rng.row {s : T3} {A H : Int} (hr : Rng s A H) {i : Nat} (hi : i < s.1) : (1 ≤ s.2.1 i ∧ s.2.1 i ≤ 1000000) ∧ 0 ≤ s.2.2 i ∧ s.2.2 i ≤ 1000000000 := by
 have h1 := hr.pos i hi
 have h2 := sumN_at (f := s.2.1) hi fun j hj => by have := hr.pos j hj; omega
 have h3 := sumN_at (f := s.2.2) hi fun j hj => by have := hr.pos j hj; omega
 rw [hr.sa] at h2
 rw [hr.sh] at h3
 have := hr.bA
 have := hr.bH
 omega
theorem Rng.cold {s : T3} {A H : Int} (hr : Rng s A H) {i k : Nat} (hi : i < s.1) (hk : k < s.1) : Ev.cold s.2.1 s.2.2 i k = decide (s.2.2 i * s.2.1 k < s.2.2 k * s.2.1 i) := by
 have h1 := hr.row hi
 have h2 := hr.row hk
 have p1 := prodB (a := s.2.1 k) (h := s.2.2 i) (by omega) (by omega) (by omega) (by omega)
 have p2 := prodB (a := s.2.1 i) (h := s.2.2 k) (by omega) (by omega) (by omega) (by omega)
 unfold Ev.cold
 rw [w64_in (by omega) (by omega), w64_in (by omega) (by omega)]
theorem mergeT_is (m : Nat) (a h : Nat → Int) : mergeT (m + 2, a, h) = (m + 1, putF a m (w64 (a m + a (m + 1))), putF h m (w64 (h m + h (m + 1)))) := rfl
theorem merge_rng {m : Nat} {a h : Nat → Int} {A H : Int} (hr : Rng (m + 2, a, h) A H) : Rng (mergeT (m + 2, a, h)) A H := by
 have r1 := hr.row (i := m) (show m < m + 2 by omega)
 have r2 := hr.row (i := m + 1) (show m + 1 < m + 2 by omega)
 have hsa : sumN a (m + 2) = A := hr.sa
 have hsh : sumN h (m + 2) = H := hr.sh
 rw [sumN_succ, sumN_succ] at hsa hsh
 have r1 : (1 ≤ a m ∧ a m ≤ 1000000) ∧ 0 ≤ h m ∧ h m ≤ 1000000000 := r1
 have r2 : (1 ≤ a (m + 1) ∧ a (m + 1) ≤ 1000000) ∧ 0 ≤ h (m + 1) ∧ h (m + 1) ≤ 1000000000 := r2
 rw [mergeT_is, w64_in (by omega) (by omega), w64_in (by omega) (by omega)]
 refine ⟨fun i hi => ?_, ?_, ?_, hr.bA, hr.bH⟩
 ·have hi : i < m + 1 := hi
  show 1 ≤ putF a m (a m + a (m + 1)) i ∧ 0 ≤ putF h m (h m + h (m + 1)) i
  by_cases e : i = m
  ·subst e
   rw [put_at, put_at]; omega
  ·rw [put_off _ _ e, put_off _ _ e]
   exact hr.pos i (show i < m + 2 by omega)
 ·show sumN (putF a m (a m + a (m + 1))) (m + 1) = A
  rw [sumN_put (m + 1) (by omega), sumN_succ]; omega
 ·show sumN (putF h m (h m + h (m + 1))) (m + 1) = H
  rw [sumN_put (m + 1) (by omega), sumN_succ]; omega
theorem mergeN_good {A H : Int} : ∀ (f : Nat) (s : T3), s.1 ≤ f → Rng s A H → (∀ i, i + 2 < s.1 → lt2 s.2.1 s.2.2 i) → Rng (mergeN f s) A H ∧ ∀ i, i + 1 < (mergeN f s).1 → lt2 (mergeN f s).2.1 (mergeN f s).2.2 i
 | 0, s, h0, hr, _ => ⟨hr, fun i hi => absurd (show i + 1 < s.1 from hi) (by omega)⟩
 | f + 1, (0, a, h), _, hr, _ => ⟨hr, fun i hi => absurd (show i + 1 < 0 from hi) (by omega)⟩
 | f + 1, (1, a, h), _, hr, _ => ⟨hr, fun i hi => absurd (show i + 1 < 1 from hi) (by omega)⟩
 | f + 1, (m + 2, a, h), h0, hr, hc => by
  have h0 : m + 2 ≤ f + 1 := h0
  have hc : ∀ i, i + 2 < m + 2 → lt2 a h i := hc
  have hcan : canM (m + 2, a, h) = !(cold a h m (m + 1)) := by
   unfold canM
   rw [show decide ((((m + 2, a, h) : T3).1 : Int) > 1) = true from decide_eq_true (show ((m + 2 : Nat) : Int) > 1 by omega)]
   rfl
  have hcold := hr.cold (i := m) (k := m + 1) (show m < m + 2 by omega) (show m + 1 < m + 2 by omega)
  have hcold : cold a h m (m + 1) = decide (h m * a (m + 1) < h (m + 1) * a m) := hcold
  cases g : cold a h m (m + 1) with
  | true =>
   rw [g] at hcan
   have e : mergeN (f + 1) (m + 2, a, h) = (m + 2, a, h) := by
    show (match canM (m + 2, a, h) with | true => mergeN f (mergeT (m + 2, a, h)) | false => (m + 2, a, h)) = _
    rw [hcan]; rfl
   rw [e]
   refine ⟨hr, fun i hi => ?_⟩
   have hi : i + 1 < m + 2 := hi
   by_cases ei : i = m
   ·subst ei
    rw [g] at hcold
    have hlt := of_decide_eq_true hcold.symm
    exact hlt
   ·exact hc i (by omega)
  | false =>
   rw [g] at hcan
   have e : mergeN (f + 1) (m + 2, a, h) = mergeN f (mergeT (m + 2, a, h)) := by
    show (match canM (m + 2, a, h) with | true => mergeN f (mergeT (m + 2, a, h)) | false => (m + 2, a, h)) = _
    rw [hcan]; rfl
   rw [e]
   refine mergeN_good f (mergeT (m + 2, a, h)) (show m + 1 ≤ f by omega) (merge_rng hr) fun i hi => ?_
   have hi : i + 2 < m + 1 := hi
   show putF h m _ i * putF a m _ (i + 1) < putF h m _ (i + 1) * putF a m _ i
   rw [put_off _ _ (by omega), put_off _ _ (by omega), put_off _ _ (by omega), put_off _ _ (by omega)]
   exact hc i (by omega)
theorem push_rng {s : T3} {A H x y : Int} (hr : Rng s A H) (hx : 1 ≤ x) (hy : 0 ≤ y) (bA : A + x ≤ 1000000) (bH : H + y ≤ 1000000000) : Rng (pushT s x y) (A + x) (H + y) := by
 refine ⟨fun i hi => ?_, ?_, ?_, bA, bH⟩
 ·have hi : i < s.1 + 1 := hi
  show 1 ≤ putF s.2.1 s.1 x i ∧ 0 ≤ putF s.2.2 s.1 y i
  by_cases e : i = s.1
  ·rw [e, put_at, put_at]; exact ⟨hx, hy⟩
  ·rw [put_off _ _ e, put_off _ _ e]
   exact hr.pos i (by omega)
 ·show sumN (putF s.2.1 s.1 x) (s.1 + 1) = _
  rw [sumN_succ, sumN_out _ (Nat.le_refl _), put_at, hr.sa]
 ·show sumN (putF s.2.2 s.1 y) (s.1 + 1) = _
  rw [sumN_succ, sumN_out _ (Nat.le_refl _), put_at, hr.sh]
section
variable {n : Nat} {z1 z2 : Nat → Int} (hp : ∀ i, i < n → 1 ≤ z1 i ∧ 0 ≤ z2 i) (bA : sumN z1 n ≤ 1000000) (bH : sumN z2 n ≤ 1000000000)
include hp bA bH
theorem togS_good : ∀ k, k ≤ n → Rng (togS z1 z2 k) (sumN z1 k) (sumN z2 k) ∧ ∀ i, i + 1 < (togS z1 z2 k).1 → lt2 (togS z1 z2 k).2.1 (togS z1 z2 k).2.2 i
 | 0, _ => ⟨⟨fun i hi => absurd (show i < 0 from hi) (by omega), rfl, rfl, (show (0 : Int) ≤ 1000000 by decide), (show (0 : Int) ≤ 1000000000 by decide)⟩, fun i hi => absurd (show i + 1 < 0 from hi) (by omega)⟩
 | k + 1, hk => by
  obtain ⟨h1, h2⟩ := togS_good k (by omega)
  have hk1 := hp k (by omega)
  have m1 := sumN_mono (f := z1) (k := k + 1) n hk fun i hi => by have := hp i hi; omega
  have m2 := sumN_mono (f := z2) (k := k + 1) n hk fun i hi => by have := hp i hi; omega
  rw [sumN_succ] at m1 m2
  have hr := push_rng (x := z1 k) (y := z2 k) h1 hk1.1 hk1.2 (by omega) (by omega)
  refine mergeN_good ((togS z1 z2 k).1 + 1) (pushT (togS z1 z2 k) (z1 k) (z2 k)) (Nat.le_refl _) hr fun i hi => ?_
  have hi : i + 2 < (togS z1 z2 k).1 + 1 := hi
  show putF _ _ _ i * putF _ _ _ (i + 1) < putF _ _ _ (i + 1) * putF _ _ _ i
  rw [put_off _ _ (by omega), put_off _ _ (by omega), put_off _ _ (by omega), put_off _ _ (by omega)]
  exact h2 i (by omega)
end
theorem togS_id {n : Nat} {z1 z2 : Nat → Int} (hc : ∀ i, i + 1 < n → cold z1 z2 i (i + 1) = true) : ∀ k, k ≤ n → (togS z1 z2 k).1 = k ∧ ∀ i, i < k → (togS z1 z2 k).2.1 i = z1 i ∧ (togS z1 z2 k).2.2 i = z2 i
 | 0, _ => ⟨rfl, fun i hi => by omega⟩
 | k + 1, hk => by
  obtain ⟨h1, h2⟩ := togS_id hc k (by omega)
  have h3 : ∀ i, i < k + 1 → putF (togS z1 z2 k).2.1 (togS z1 z2 k).1 (z1 k) i = z1 i ∧ putF (togS z1 z2 k).2.2 (togS z1 z2 k).1 (z2 k) i = z2 i := fun i hi => by
   by_cases e : i = k
   ·rw [h1, e, put_at, put_at]; exact ⟨rfl, rfl⟩
   ·rw [put_off _ _ (by omega), put_off _ _ (by omega)]
    exact h2 i (by omega)
  have hcan : canM (pushT (togS z1 z2 k) (z1 k) (z2 k)) = false := by
   unfold canM
   split
   ·rename_i hg
    have hg : (((togS z1 z2 k).1 + 1 : Nat) : Int) > 1 := of_decide_eq_true hg
    have hk0 : 0 < k := by omega
    show (!(cold (putF (togS z1 z2 k).2.1 (togS z1 z2 k).1 (z1 k)) (putF (togS z1 z2 k).2.2 (togS z1 z2 k).1 (z2 k)) ((togS z1 z2 k).1 + 1 - 2) ((togS z1 z2 k).1 + 1 - 1))) = false
    rw [show (togS z1 z2 k).1 + 1 - 2 = k - 1 by omega, show (togS z1 z2 k).1 + 1 - 1 = k by omega]
    have hh := hc (k - 1) (by omega)
    rw [show k - 1 + 1 = k by omega] at hh
    unfold cold at hh ⊢
    rw [(h3 (k - 1) (by omega)).1, (h3 (k - 1) (by omega)).2, (h3 k (by omega)).1, (h3 k (by omega)).2, hh]
    rfl
   ·rfl
  have e : togS z1 z2 (k + 1) = pushT (togS z1 z2 k) (z1 k) (z2 k) := by
   show (match canM (pushT (togS z1 z2 k) (z1 k) (z2 k)) with | true => mergeN (togS z1 z2 k).1 (mergeT (pushT (togS z1 z2 k) (z1 k) (z2 k))) | false => pushT (togS z1 z2 k) (z1 k) (z2 k)) = _
   rw [hcan]
  rw [e]
  exact ⟨by show (togS z1 z2 k).1 + 1 = _; omega, h3⟩
theorem wW_ok {n lo hi : Int} (h1 : lo ≤ n) (h2 : n ≤ hi) : wW n lo hi = 0 := by
 unfold wW
 rw [show (decide (n < lo) || decide (hi < n)) = false by rw [decide_eq_false (by omega), decide_eq_false (by omega)]; rfl]
 rfl
theorem first_z {z : Int} {l : List Int} (h : z = 0) (hl : firstZ l = 0) : firstZ (z :: l) = 0 := by
 subst h
 exact hl
theorem errIf_no {b : Bool} {e : Int} (h : b = false) : errIf b e = 0 := by rw [h]; rfl
theorem errIf_zero {b : Bool} {e : Int} (he : e ≠ 0) (h : errIf b e = 0) : b = false := by
 cases b with
 | false => rfl
 | true => exact absurd h he
theorem fnz_none {g : Nat → Int} : ∀ (m k : Nat), (∀ j, k ≤ j → j < k + m → g j = 0) → fnz g m k = none
 | 0, _, _ => rfl
 | m + 1, k, h => by
  unfold fnz
  rw [show (g k != 0) = false by simp [h k (Nat.le_refl _) (by omega)]]
  exact fnz_none m (k + 1) fun j h1 h2 => h j (by omega) (by omega)
theorem tank_zero {m : Nat} {a h : Nat → Int} {A H room : Int} (hr : Rng (m, a, h) A H) (hc : ∀ i, i + 1 < m → lt2 a h i) (hm : m ≤ 16) (h1 : 1 ≤ room) (h2 : room ≤ 1000000) (hA : A ≤ room) : tankE m room a h = 0 := by
 have hsa : sumN a m = A := hr.sa
 have hsh : sumN h m = H := hr.sh
 have hp : ∀ i, i < m → 1 ≤ a i ∧ 0 ≤ h i := hr.pos
 have hbA := hr.bA
 have hbH := hr.bH
 have e1 := sumA_N (f := a) (n := m) (fun i hi => by have := hp i hi; omega) (by omega) m (Nat.le_refl _)
 have e2 := sumA_N (f := h) (n := m) (fun i hi => by have := hp i hi; omega) (by omega) m (Nat.le_refl _)
 unfold tankE
 rw [show headE m room = 0 from first_z (wW_ok h1 h2) (first_z (errIf_no (decide_eq_false (by omega))) rfl)]
 show (match fnz (layE a h) m 0 with | some e => e | none => endE m room a h) = 0
 rw [fnz_none m 0 fun j _ hj => ?_]
 ·exact first_z (errIf_no (decide_eq_false (by rw [e1, hsa]; omega))) (first_z (errIf_no (decide_eq_false (by rw [e2, hsh]; omega))) rfl)
 ·have hj : j < m := by omega
  have hrow := hr.row (i := j) hj
  unfold layE
  rw [show rowE a h j = 0 from first_z (wW_ok hrow.1.1 hrow.1.2) (first_z (wW_ok hrow.2.1 hrow.2.2) rfl)]
  show (match decide ((j : Int) > 0) with | true => (match cold a h (j - 1) j with | true => (0 : Int) | false => 11) | false => 0) = 0
  split
  ·rename_i hg
   have hg := of_decide_eq_true hg
   have hcc := hr.cold (i := j - 1) (k := j) (show j - 1 < m by omega) hj
   have hl := hc (j - 1) (by omega)
   unfold lt2 at hl
   rw [show j - 1 + 1 = j by omega] at hl
   rw [show cold a h (j - 1) j = true from hcc.trans (decide_eq_true hl)]
  ·rfl
theorem tank_facts {n : Nat} {a h : Nat → Int} {room : Int} (hT : tankE n room a h = 0) : (n ≤ 16 ∧ 1 ≤ room ∧ room ≤ 1000000) ∧ (∀ i, i + 1 < n → cold a h i (i + 1) = true) ∧ sumN a n ≤ room ∧ sumA a n = sumN a n ∧ sumA h n = sumN h n ∧ Rng (n, a, h) (sumN a n) (sumN h n) := by
 have hrow := tank_rows hT
 have hn0 : headE n room = 0 ∧ (∀ k, k < n → layE a h k = 0) ∧ endE n room a h = 0 := by
  unfold tankE at hT
  split at hT
  ·rename_i g; rw [hT] at g; cases g
  ·rename_i g
   refine ⟨by simpa using g, ?_⟩
   split at hT
   ·rename_i e he
    subst hT
    have := tank_fnz (g := layE a h) (m := n) (k := 0) (by rw [he]; rfl)
    exfalso
    rw [fnz_none n 0 fun j h1 h2 => this j h1 h2] at he
    cases he
   ·rename_i he
    exact ⟨fun k hk => tank_fnz (g := layE a h) (m := n) (k := 0) (by rw [he]; rfl) k (Nat.zero_le _) (by omega), hT⟩
 obtain ⟨hh, hl, he⟩ := hn0
 have hw : (1 ≤ room ∧ room ≤ 1000000) ∧ n ≤ 16 := by
  have h2 : wW room 1 1000000 = 0 ∧ errIf (decide ((n : Int) > 16)) 5 = 0 := by
   unfold headE firstZ firstZ at hh
   split at hh
   ·rename_i g; rw [hh] at g; cases g
   ·rename_i g
    refine ⟨by simpa using g, ?_⟩
    split at hh
    ·rename_i g2; rw [hh] at g2; cases g2
    ·rename_i g2; simpa using g2
  obtain ⟨h3, h4⟩ := h2
  have g1 := errIf_zero (e := 3) (by decide) h3
  have g2 := of_decide_eq_false (errIf_zero (by decide) h4)
  simp only [Bool.or_eq_false_iff, decide_eq_false_iff_not] at g1
  omega
 have hn : n ≤ 16 := hw.2
 have b1 : sumN a n ≤ 1000000000 ∧ sumN h n ≤ 1000000000000 := by
  have : ∀ k, k ≤ n → sumN a k ≤ k * 1000000 ∧ sumN h k ≤ k * 1000000000 := fun k => by
   induction k with
   | zero => intro _; exact ⟨by show (0 : Int) ≤ _; omega, by show (0 : Int) ≤ _; omega⟩
   | succ k ih =>
    intro hk
    have := ih (by omega)
    have := hrow k (by omega)
    rw [sumN_succ, sumN_succ]
    omega
  have := this n (Nat.le_refl _)
  omega
 have e1 := sumA_N (f := a) (n := n) (fun i hi => by have := hrow i hi; omega) (by omega) n (Nat.le_refl _)
 have e2 := sumA_N (f := h) (n := n) (fun i hi => by have := hrow i hi; omega) (by omega) n (Nat.le_refl _)
 have hs : sumA a n ≤ room ∧ sumA h n ≤ 1000000000 := by
  unfold endE firstZ firstZ at he
  split at he
  ·rename_i g; rw [he] at g; cases g
  ·rename_i g
   have g : errIf (decide (sumA a n > room)) 4 = 0 := by simpa using g
   have g2 : errIf (decide (sumA h n > 1000000000)) 23 = 0 := by
    split at he
    ·rename_i g2; rw [he] at g2; cases g2
    ·rename_i g2; simpa using g2
   have g3 := of_decide_eq_false (errIf_zero (by decide) g)
   have g4 := of_decide_eq_false (errIf_zero (by decide) g2)
   omega
 refine ⟨⟨hn, hw.1⟩, fun i hi => ?_, by omega, e1, e2, ⟨fun i hi => by have := hrow i hi; exact ⟨this.1.1, this.2.1⟩, rfl, rfl, by omega, by omega⟩⟩
 have hli := hl (i + 1) hi
 unfold layE at hli
 split at hli
 ·rename_i g; rw [hli] at g; cases g
 ·rw [show decide (((i + 1 : Nat) : Int) > 0) = true from decide_eq_true (by omega)] at hli
  simp only [Nat.add_sub_cancel] at hli
  cases g : cold a h i (i + 1) with
  | true => rfl
  | false => rw [g] at hli; cases hli
end Go.Ev
namespace Go.Ev
open Go Go.Proofs
set_option maxRecDepth 100000
theorem bltN {a b : Nat} (h : b ≤ a) : Nat.blt a b = false := by
 cases g : Nat.blt a b with
 | true => rw [Nat.blt_eq] at g; omega
 | false => rfl
theorem beqY (a : Nat) : Nat.beq a a = true := by
 cases g : Nat.beq a a with
 | true => rfl
 | false => exact absurd rfl (Nat.ne_of_beq_eq_false g)
theorem beqN {a b : Nat} (h : a ≠ b) : Nat.beq a b = false := by
 cases g : Nat.beq a b with
 | true => exact absurd (Nat.eq_of_beq_eq_true g) h
 | false => rfl
theorem insF_lt {z : Nat → Int} {i k : Nat} {x : Int} (h : k < i) : insF z i x k = z k := by
 unfold insF
 rw [show Nat.blt k i = true by rw [Nat.blt_eq]; exact h]
theorem insF_at {z : Nat → Int} {i : Nat} {x : Int} : insF z i x i = x := by
 unfold insF
 rw [bltN (Nat.le_refl i), beqY i]
theorem insF_gt {z : Nat → Int} {i k : Nat} {x : Int} (h : i < k) : insF z i x k = z (k - 1) := by
 unfold insF
 rw [bltN (show i ≤ k by omega), beqN (show k ≠ i by omega)]
theorem sumN_ins {z : Nat → Int} {i : Nat} {x : Int} : ∀ n, i ≤ n → sumN (insF z i x) (n + 1) = sumN z n + x
 | 0, h => by
  rw [show i = 0 by omega, sumN_succ]
  show 0 + insF z 0 x 0 = 0 + x
  rw [insF_at]
 | n + 1, h => by
  rw [sumN_succ (insF z i x) (n + 1), sumN_succ z n]
  rcases Nat.eq_or_lt_of_le h with e | e
  ·rw [e, insF_at, sumN_succ, insF_lt (Nat.lt_succ_self n), sumN_cong (f := insF z (n + 1) x) (f' := z) n fun j hj => insF_lt (by omega)]
  ·have ih := sumN_ins (z := z) (i := i) (x := x) n (by omega)
   rw [ih, insF_gt (by omega), Nat.add_sub_cancel]; omega
theorem ins_all {p : Int → Prop} {z : Nat → Int} {i n : Nat} {x : Int} (hi : i ≤ n) (hx : p x) (hz : ∀ k, k < n → p (z k)) : ∀ k, k < n + 1 → p (insF z i x k) := fun k hk => by
 rcases Nat.lt_trichotomy k i with h | h | h
 ·rw [insF_lt h]; exact hz k (by omega)
 ·rw [h, insF_at]; exact hx
 ·rw [insF_gt h]; exact hz (k - 1) (by omega)
section
variable {n : Nat} {room am ht : Int} {z1 z2 : Nat → Int} (hT : tankE n room z1 z2 = 0) (ha : 1 ≤ am) (hh : 0 ≤ ht)
include hT ha hh
theorem charged_ok (hA : sumN z1 n + am ≤ room) (hH : sumN z2 n + ht ≤ 1000000000) : Rng (chL togS n am ht z1 z2) (sumN z1 n + am) (sumN z2 n + ht) ∧ (∀ i, i + 1 < (chL togS n am ht z1 z2).1 → lt2 (chL togS n am ht z1 z2).2.1 (chL togS n am ht z1 z2).2.2 i) ∧ (chL togS n am ht z1 z2).1 ≤ n + 1 ∧ 1 ≤ (chL togS n am ht z1 z2).1 := by
 obtain ⟨⟨h1, h2, h3⟩, hc, hr, e1, e2, hR⟩ := tank_facts hT
 have hi := atI_le z1 z2 n am ht
 have s1 := sumN_ins (z := z1) (x := am) n hi
 have s2 := sumN_ins (z := z2) (x := ht) n hi
 obtain ⟨g1, g2⟩ := togS_good (n := n + 1) (z1 := insF z1 (atI z1 z2 n am ht) am) (z2 := insF z2 (atI z1 z2 n am ht) ht) (fun i hi' => ⟨ins_all (p := fun x => 1 ≤ x) hi ha (fun k hk => (hR.pos k hk).1) i hi', ins_all (p := fun x => 0 ≤ x) hi hh (fun k hk => (hR.pos k hk).2) i hi'⟩) (by rw [s1]; omega) (by rw [s2]; omega) (n + 1) (Nat.le_refl _)
 rw [s1, s2] at g1
 obtain ⟨b1, b2⟩ := togS_bd (insF z1 (atI z1 z2 n am ht) am) (insF z2 (atI z1 z2 n am ht) ht) (n + 1)
 exact ⟨g1, g2, b1, b2 (by omega)⟩
end
theorem take_bd {a h p : Int} (ha : 1 ≤ a) (ha2 : a ≤ 1000000) (hh : 0 ≤ h) (hh2 : h ≤ 1000000000) (hp : 0 ≤ p) (hp2 : p ≤ a) : 0 ≤ w64 ((w64 (h * p)).tdiv a) ∧ w64 ((w64 (h * p)).tdiv a) ≤ h ∧ (p = a → w64 ((w64 (h * p)).tdiv a) = h) ∧ (p = 0 → w64 ((w64 (h * p)).tdiv a) = 0) ∧ w64 ((w64 (h * p)).tdiv a) * a ≤ h * p := by
 have pb := prodB (a := p) (h := h) hp (by omega) hh hh2
 have e : h * p ≤ h * a := Int.mul_le_mul_of_nonneg_left hp2 hh
 have e2 : h * a / a = h := Int.mul_ediv_cancel h (by omega)
 have t0 : 0 ≤ h * p / a := Int.ediv_nonneg pb.1 (by omega)
 have t1 : h * p / a ≤ h * a / a := Int.ediv_le_ediv (by omega) e
 rw [w64_in (n := h * p) (by omega) (by omega), Int.tdiv_eq_ediv_of_nonneg pb.1, w64_in (n := h * p / a) (by omega) (by omega)]
 refine ⟨t0, by omega, fun h1 => by rw [h1]; exact e2, fun h1 => by rw [h1]; simp, Int.ediv_mul_le _ (by omega)⟩
theorem minZ_bd {a x : Int} (ha : 1 ≤ a) (hx : 0 ≤ x) : 0 ≤ minZ a x ∧ minZ a x ≤ a ∧ minZ a x ≤ x ∧ (minZ a x = a ∨ minZ a x = x) := by
 unfold minZ
 split <;> omega
theorem ix_in {top : Bool} {n k : Nat} (h : k < n) : ixT top n k < n := by cases top <;> (unfold ixT; simp only; omega)
theorem ix_eq {top : Bool} {n i k : Nat} (hi : i < n) (hk : k < n) (e : ixT top n i = ixT top n k) : i = k := by cases top <;> (unfold ixT at e; simp only at e; omega)
structure DrS (n : Nat) (am : Int) (top : Bool) (z1 z2 : Nat → Int) (k : Nat) (s : DS) : Prop where
 x0 : 0 ≤ s.1
 x1 : s.1 ≤ am
 h0 : 0 ≤ s.2.1
 rows : ∀ j, j < n → (0 ≤ s.2.2.1 j ∧ 0 ≤ s.2.2.2 j) ∧ (s.2.2.1 j = 0 → s.2.2.2 j = 0)
 later : ∀ j, k ≤ j → j < n → s.2.2.1 (ixT top n j) = z1 (ixT top n j) ∧ s.2.2.2 (ixT top n j) = z2 (ixT top n j)
 empty : 0 < s.1 → ∀ j, j < k → s.2.2.1 (ixT top n j) = 0
 sa : sumN s.2.2.1 n = sumN z1 n - (am - s.1)
 sh : sumN s.2.2.2 n = sumN z2 n - s.2.1
section
variable {n : Nat} {am : Int} {top : Bool} {z1 z2 : Nat → Int} (hR : Rng (n, z1, z2) (sumN z1 n) (sumN z2 n)) (ha : 0 ≤ am) (ha2 : am ≤ 1000000)
include hR ha ha2
theorem dr_inv : ∀ k, k ≤ n → DrS n am top z1 z2 k (drN top n am z1 z2 k)
 | 0, _ => ⟨ha, Int.le_refl _, Int.le_refl _, fun j hj => by
   have h : 1 ≤ z1 j ∧ 0 ≤ z2 j := hR.pos j hj
   show (0 ≤ z1 j ∧ 0 ≤ z2 j) ∧ (z1 j = 0 → z2 j = 0)
   omega, fun j _ _ => ⟨rfl, rfl⟩, fun _ j hj => by omega, by show sumN z1 n = sumN z1 n - (am - am); omega, by show sumN z2 n = sumN z2 n - 0; omega⟩
 | k + 1, hk => by
  have ih := dr_inv k (by omega)
  have hix := ix_in (top := top) (show k < n by omega)
  have hrow : (1 ≤ z1 (ixT top n k) ∧ z1 (ixT top n k) ≤ 1000000) ∧ 0 ≤ z2 (ixT top n k) ∧ z2 (ixT top n k) ≤ 1000000000 := hR.row hix
  obtain ⟨l1, l2⟩ := ih.later k (Nat.le_refl _) (by omega)
  have hx0 := ih.x0
  have hx1 := ih.x1
  have hh0 := ih.h0
  have hsa := ih.sa
  have hsh := ih.sh
  have hrows := ih.rows
  have hlater := ih.later
  have hempty := ih.empty
  rcases hD : drN top n am z1 z2 k with ⟨x, H, f, g⟩
  rw [hD] at l1 l2 hx0 hx1 hh0 hsa hsh hrows hlater hempty
  simp only at l1 l2 hx0 hx1 hh0 hsa hsh hrows hlater hempty
  have hm := minZ_bd hrow.1.1 hx0
  have ht := take_bd hrow.1.1 hrow.1.2 hrow.2.1 hrow.2.2 hm.1 hm.2.1
  have hH : 0 ≤ sumN g n := sumN_nn n fun j hj => (hrows j hj).1.2
  have hH2 : sumN z2 n ≤ 1000000000 := hR.bH
  obtain ⟨p, hp⟩ : ∃ p, p = minZ (z1 (ixT top n k)) x := ⟨_, rfl⟩
  obtain ⟨t, htt⟩ : ∃ t, t = w64 ((w64 (z2 (ixT top n k) * p)).tdiv (z1 (ixT top n k))) := ⟨_, rfl⟩
  rw [← hp] at hm ht
  rw [← htt] at ht
  have hst : drN top n am z1 z2 (k + 1) = (w64 (x - p), w64 (H + t), putF f (ixT top n k) (w64 (z1 (ixT top n k) - p)), putF g (ixT top n k) (w64 (z2 (ixT top n k) - t))) := by
   show drSt z1 z2 (drN top n am z1 z2 k) (ixT top n k) = _
   rw [hD, htt, hp]
   rfl
  have hsg := sumN_at (f := g) hix fun j hj => (hrows j hj).1.2
  rw [hst, w64_in (by omega) (by omega), w64_in (by omega) (by omega), w64_in (by omega) (by omega), w64_in (by omega) (by omega)]
  refine ⟨by show 0 ≤ x - p; omega, by show x - p ≤ am; omega, by show 0 ≤ H + t; omega, fun j hj => ?_, fun j h1 h2 => ?_, fun h0 j hj => ?_, ?_, ?_⟩
  ·show (0 ≤ putF f _ _ j ∧ 0 ≤ putF g _ _ j) ∧ (putF f _ _ j = 0 → putF g _ _ j = 0)
   by_cases e : j = ixT top n k
   ·rw [e, put_at, put_at]
    refine ⟨⟨by omega, by omega⟩, fun h1 => ?_⟩
    have := ht.2.2.1 (by omega)
    omega
   ·rw [put_off _ _ e, put_off _ _ e]
    exact hrows j hj
  ·show putF f _ _ _ = _ ∧ putF g _ _ _ = _
   have e : ixT top n j ≠ ixT top n k := fun e => by have := ix_eq h2 (by omega) e; omega
   rw [put_off _ _ e, put_off _ _ e]
   exact hlater j (by omega) h2
  ·have h0 : 0 < x - p := h0
   show putF f _ _ _ = 0
   by_cases e : j = k
   ·rw [e, put_at]; omega
   ·rw [put_off _ _ fun e2 => e (ix_eq (by omega) (by omega) e2)]
    exact hempty (by omega) j (by omega)
  ·show sumN (putF f _ _) n = sumN z1 n - (am - (x - p))
   rw [sumN_put n hix, l1, hsa]; omega
  ·show sumN (putF g _ _) n = sumN z2 n - (H + t)
   rw [sumN_put n hix, l2, hsh]; omega
theorem dr_done (hs : am ≤ sumN z1 n) : (drN top n am z1 z2 n).1 = 0 := by
 have ih := dr_inv (top := top) hR ha ha2 n (Nat.le_refl _)
 have h0 := ih.x0
 rcases Int.lt_or_eq_of_le h0 with h | h
 ·exfalso
  have hz : ∀ j, j < n → (drN top n am z1 z2 n).2.2.1 j = 0 := fun j hj => by
   have h1 := ih.empty h (ixT top n j) (ix_in hj)
   rw [show ixT top n (ixT top n j) = j by cases top with | true => (unfold ixT; simp only; omega) | false => rfl] at h1
   exact h1
  have h2 : sumN (drN top n am z1 z2 n).2.2.1 n = 0 := by
   rw [sumN_cong (f' := fun _ => 0) n hz]
   have : ∀ m, sumN (fun _ => (0 : Int)) m = 0 := fun m => by
    induction m with
    | zero => rfl
    | succ m ih => rw [sumN_succ, ih]; rfl
   exact this n
  have h3 := ih.sa
  omega
 ·exact h.symm
end
theorem delS_rng {f h : Nat → Int} {n : Nat} (hr : ∀ j, j < n → (0 ≤ f j ∧ 0 ≤ h j) ∧ (f j = 0 → h j = 0)) : ∀ k, k ≤ n → (∀ i, i < (delS f h k).1 → 1 ≤ (delS f h k).2.1 i ∧ 0 ≤ (delS f h k).2.2 i) ∧ sumN (delS f h k).2.1 (delS f h k).1 = sumN f k ∧ sumN (delS f h k).2.2 (delS f h k).1 = sumN h k ∧ (delS f h k).1 ≤ k
 | 0, _ => ⟨fun i hi => absurd (show i < 0 from hi) (by omega), rfl, rfl, Nat.le_refl _⟩
 | k + 1, hk => by
  obtain ⟨a1, a2, a3, a4⟩ := delS_rng hr k (by omega)
  have hk1 := hr k (by omega)
  cases g : nilP f h k with
  | true =>
   have e : delS f h (k + 1) = delS f h k := by
    show (match nilP f h k with | true => delS f h k | false => pushT (delS f h k) (f k) (h k)) = _
    rw [g]
   have hz : f k = 0 ∧ h k = 0 := by
    unfold nilP at g
    simpa using g
   rw [e, sumN_succ, sumN_succ, hz.1, hz.2]
   exact ⟨a1, by omega, by omega, by omega⟩
  | false =>
   have e : delS f h (k + 1) = pushT (delS f h k) (f k) (h k) := by
    show (match nilP f h k with | true => delS f h k | false => pushT (delS f h k) (f k) (h k)) = _
    rw [g]
   have hz : f k ≠ 0 := fun hz => by
    have := hk1.2 hz
    unfold nilP at g
    simp [hz, this] at g
   rw [e]
   refine ⟨fun i hi => ?_, ?_, ?_, ?_⟩
   ·have hi : i < (delS f h k).1 + 1 := hi
    show 1 ≤ putF _ _ _ i ∧ 0 ≤ putF _ _ _ i
    by_cases ei : i = (delS f h k).1
    ·rw [ei, put_at, put_at]; omega
    ·rw [put_off _ _ ei, put_off _ _ ei]
     exact a1 i (by omega)
   ·show sumN (putF _ _ _) ((delS f h k).1 + 1) = _
    rw [sumN_succ, sumN_out _ (Nat.le_refl _), put_at, a2, sumN_succ]
   ·show sumN (putF _ _ _) ((delS f h k).1 + 1) = _
    rw [sumN_succ, sumN_out _ (Nat.le_refl _), put_at, a3, sumN_succ]
   ·show (delS f h k).1 + 1 ≤ k + 1
    omega
section
variable {n : Nat} {room am : Int} {top : Bool} {z1 z2 : Nat → Int} (hT : tankE n room z1 z2 = 0) (ha : 1 ≤ am) (hs : am ≤ sumN z1 n)
include hT ha hs
theorem drw_ok : Rng (drL delS n am top z1 z2 n) (sumN z1 n - am) (sumN z2 n - drH n am top z1 z2) ∧ Rng (drK togS (drL delS n am top z1 z2 n)) (sumN z1 n - am) (sumN z2 n - drH n am top z1 z2) ∧ (∀ i, i + 1 < (drK togS (drL delS n am top z1 z2 n)).1 → lt2 (drK togS (drL delS n am top z1 z2 n)).2.1 (drK togS (drL delS n am top z1 z2 n)).2.2 i) ∧ (drL delS n am top z1 z2 n).1 ≤ n ∧ (drK togS (drL delS n am top z1 z2 n)).1 ≤ n ∧ 0 ≤ drH n am top z1 z2 := by
 obtain ⟨⟨h1, h2, h3⟩, hc, hr, e1, e2, hR⟩ := tank_facts hT
 have hb0 := hR.bA
 have hI := dr_inv (am := am) (top := top) hR (by omega) (by omega) n (Nat.le_refl _)
 have hD := dr_done (am := am) (top := top) hR (by omega) (by omega) hs
 obtain ⟨d1, d2, d3, d4⟩ := delS_rng (n := n) hI.rows n (Nat.le_refl _)
 have hsa := hI.sa
 have hsh := hI.sh
 rw [hD] at hsa
 have hH : drH n am top z1 z2 = (drN top n am z1 z2 n).2.1 := rfl
 have h0 := hI.h0
 have hb1 := hR.bA
 have hb2 := hR.bH
 have r1 : Rng (drL delS n am top z1 z2 n) (sumN z1 n - am) (sumN z2 n - drH n am top z1 z2) := ⟨d1, d2.trans (by omega), by rw [hH]; exact d3.trans hsh, by omega, by rw [hH]; omega⟩
 have hpos : ∀ i, i < (drL delS n am top z1 z2 n).1 → 1 ≤ (drL delS n am top z1 z2 n).2.1 i ∧ 0 ≤ (drL delS n am top z1 z2 n).2.2 i := d1
 obtain ⟨g1, g2⟩ := togS_good (n := (drL delS n am top z1 z2 n).1) hpos (by rw [r1.sa]; exact r1.bA) (by rw [r1.sh]; exact r1.bH) (drL delS n am top z1 z2 n).1 (Nat.le_refl _)
 rw [r1.sa, r1.sh] at g1
 have hb := (togS_bd (drL delS n am top z1 z2 n).2.1 (drL delS n am top z1 z2 n).2.2 (drL delS n am top z1 z2 n).1).1
 exact ⟨r1, g1, g2, d4, Nat.le_trans hb d4, h0⟩
end
theorem rng_zero {s : T3} {H : Int} (hr : Rng s 0 H) : s.1 = 0 ∧ H = 0 := by
 rcases Nat.eq_zero_or_pos s.1 with h | h
 ·refine ⟨h, ?_⟩
  have := hr.sh
  rw [h] at this
  exact this.symm
 ·exfalso
  have h1 := sumN_at (f := s.2.1) h fun j hj => by have := hr.pos j hj; omega
  have h2 := (hr.pos 0 h).1
  rw [hr.sa] at h1
  omega
section
variable {n : Nat} {top : Bool} {z1 z2 : Nat → Int} (hR : Rng (n, z1, z2) (sumN z1 n) (sumN z2 n))
include hR
theorem dr_one : ∀ k, k + 1 ≤ n → (drN top n (z1 (ixT top n 0)) z1 z2 (k + 1)).1 = 0 ∧ (drN top n (z1 (ixT top n 0)) z1 z2 (k + 1)).2.1 = z2 (ixT top n 0) ∧ ∀ j, j < n → (drN top n (z1 (ixT top n 0)) z1 z2 (k + 1)).2.2.1 j = (if j = ixT top n 0 then 0 else z1 j) ∧ (drN top n (z1 (ixT top n 0)) z1 z2 (k + 1)).2.2.2 j = (if j = ixT top n 0 then 0 else z2 j)
 | 0, hk => by
  have hix := ix_in (top := top) (show 0 < n by omega)
  have hrow : (1 ≤ z1 (ixT top n 0) ∧ z1 (ixT top n 0) ≤ 1000000) ∧ 0 ≤ z2 (ixT top n 0) ∧ z2 (ixT top n 0) ≤ 1000000000 := hR.row hix
  have hm : minZ (z1 (ixT top n 0)) (z1 (ixT top n 0)) = z1 (ixT top n 0) := by unfold minZ; split <;> rfl
  have ht := (take_bd hrow.1.1 hrow.1.2 hrow.2.1 hrow.2.2 (p := z1 (ixT top n 0)) (by omega) (Int.le_refl _)).2.2.1 rfl
  have hst : drN top n (z1 (ixT top n 0)) z1 z2 (0 + 1) = (w64 (z1 (ixT top n 0) - z1 (ixT top n 0)), w64 (0 + z2 (ixT top n 0)), putF z1 (ixT top n 0) (w64 (z1 (ixT top n 0) - z1 (ixT top n 0))), putF z2 (ixT top n 0) (w64 (z2 (ixT top n 0) - z2 (ixT top n 0)))) := by
   show (w64 (z1 (ixT top n 0) - minZ (z1 (ixT top n 0)) (z1 (ixT top n 0))), w64 (0 + takeZ z1 z2 (z1 (ixT top n 0)) (ixT top n 0)), putF z1 (ixT top n 0) (w64 (z1 (ixT top n 0) - minZ (z1 (ixT top n 0)) (z1 (ixT top n 0)))), putF z2 (ixT top n 0) (w64 (z2 (ixT top n 0) - takeZ z1 z2 (z1 (ixT top n 0)) (ixT top n 0)))) = _
   unfold takeZ
   rw [hm, ht]
  rw [hst, Int.sub_self, Int.sub_self, Int.zero_add, w64_in (by omega) (by omega), w64_in (by omega) (by omega)]
  refine ⟨rfl, rfl, fun j hj => ?_⟩
  show putF z1 _ _ j = _ ∧ putF z2 _ _ j = _
  by_cases e : j = ixT top n 0
  ·rw [if_pos e, if_pos e, e, put_at, put_at]; exact ⟨rfl, rfl⟩
  ·rw [if_neg e, if_neg e, put_off _ _ e, put_off _ _ e]; exact ⟨rfl, rfl⟩
 | k + 1, hk => by
  obtain ⟨i1, i2, i3⟩ := dr_one k (by omega)
  have hix := ix_in (top := top) (show k + 1 < n by omega)
  have hne : ixT top n (k + 1) ≠ ixT top n 0 := fun e => by have := ix_eq (top := top) (n := n) (by omega) (by omega) e; omega
  have hrow : (1 ≤ z1 (ixT top n (k + 1)) ∧ z1 (ixT top n (k + 1)) ≤ 1000000) ∧ 0 ≤ z2 (ixT top n (k + 1)) ∧ z2 (ixT top n (k + 1)) ≤ 1000000000 := hR.row hix
  have hrow0 : (1 ≤ z1 (ixT top n 0) ∧ z1 (ixT top n 0) ≤ 1000000) ∧ 0 ≤ z2 (ixT top n 0) ∧ z2 (ixT top n 0) ≤ 1000000000 := hR.row (ix_in (by omega))
  rcases hD : drN top n (z1 (ixT top n 0)) z1 z2 (k + 1) with ⟨x, H, f, g⟩
  rw [hD] at i1 i2 i3
  simp only at i1 i2 i3
  have hm : minZ (z1 (ixT top n (k + 1))) 0 = 0 := by unfold minZ; rw [if_neg (by omega)]
  have ht := (take_bd hrow.1.1 hrow.1.2 hrow.2.1 hrow.2.2 (p := 0) (Int.le_refl _) (by omega)).2.2.2.1 rfl
  have hst : drN top n (z1 (ixT top n 0)) z1 z2 (k + 1 + 1) = (w64 (0 - 0), w64 (z2 (ixT top n 0) + 0), putF f (ixT top n (k + 1)) (w64 (z1 (ixT top n (k + 1)) - 0)), putF g (ixT top n (k + 1)) (w64 (z2 (ixT top n (k + 1)) - 0))) := by
   show drSt z1 z2 (drN top n (z1 (ixT top n 0)) z1 z2 (k + 1)) (ixT top n (k + 1)) = _
   rw [hD, i1, i2]
   unfold drSt takeZ
   simp only
   rw [hm, ht]
  rw [hst, Int.sub_zero, Int.sub_zero, Int.add_zero, Int.sub_zero, w64_in (n := z2 (ixT top n 0)) (by omega) (by omega), w64_in (n := z1 (ixT top n (k + 1))) (by omega) (by omega), w64_in (n := z2 (ixT top n (k + 1))) (by omega) (by omega)]
  refine ⟨rfl, rfl, fun j hj => ?_⟩
  show putF f _ _ j = _ ∧ putF g _ _ j = _
  by_cases e : j = ixT top n (k + 1)
  ·rw [e, put_at, put_at, if_neg hne, if_neg hne]; exact ⟨rfl, rfl⟩
  ·rw [put_off _ _ e, put_off _ _ e]; exact i3 j hj
end
def offT : Bool → Nat
 | true => 0
 | false => 1
theorem del_one {f h z1 z2 : Nat → Int} {n : Nat} {top : Bool} (hn : 0 < n) (hz : ∀ j, j < n → 1 ≤ z1 j) (hf : ∀ j, j < n → f j = (if j = ixT top n 0 then 0 else z1 j) ∧ h j = (if j = ixT top n 0 then 0 else z2 j)) : (delS f h n).1 = n - 1 ∧ ∀ i, i < n - 1 → (delS f h n).2.1 i = z1 (i + offT top) ∧ (delS f h n).2.2 i = z2 (i + offT top) := by
 have hstep : ∀ k, (nilP f h k = true → delS f h (k + 1) = delS f h k) ∧ (nilP f h k = false → delS f h (k + 1) = pushT (delS f h k) (f k) (h k)) := fun k => by
  constructor <;> intro g
  ·show (match nilP f h k with | true => delS f h k | false => pushT (delS f h k) (f k) (h k)) = _
   rw [g]
  ·show (match nilP f h k with | true => delS f h k | false => pushT (delS f h k) (f k) (h k)) = _
   rw [g]
 have hnil : nilP f h (ixT top n 0) = true := by
  obtain ⟨a, b⟩ := hf _ (ix_in hn)
  rw [if_pos rfl] at a b
  unfold nilP
  rw [a, b]; rfl
 have hno : ∀ j, j < n → j ≠ ixT top n 0 → nilP f h j = false ∧ f j = z1 j ∧ h j = z2 j := fun j hj e => by
  obtain ⟨a, b⟩ := hf j hj
  rw [if_neg e] at a b
  refine ⟨?_, a, b⟩
  unfold nilP
  have := hz j hj
  rw [a, show (z1 j == 0) = false by rw [beq_eq_false_iff_ne]; omega]; rfl
 cases top with
 | true =>
  have e : ixT true n 0 = n - 1 := by unfold ixT; simp
  rw [e] at hnil hno
  have main : ∀ k, k ≤ n - 1 → (delS f h k).1 = k ∧ ∀ i, i < k → (delS f h k).2.1 i = z1 i ∧ (delS f h k).2.2 i = z2 i := fun k => by
   induction k with
   | zero => intro _; exact ⟨rfl, fun i hi => by omega⟩
   | succ k ih =>
    intro hk
    obtain ⟨i1, i2⟩ := ih (by omega)
    obtain ⟨a, b, c⟩ := hno k (by omega) (by omega)
    rw [(hstep k).2 a, b, c]
    refine ⟨by show (delS f h k).1 + 1 = _; omega, fun i hi => ?_⟩
    show putF _ _ _ i = _ ∧ putF _ _ _ i = _
    by_cases ei : i = k
    ·rw [i1, ei, put_at, put_at]; exact ⟨rfl, rfl⟩
    ·rw [put_off _ _ (by omega), put_off _ _ (by omega)]; exact i2 i (by omega)
  obtain ⟨m1, m2⟩ := main (n - 1) (Nat.le_refl _)
  have hl := (hstep (n - 1)).1 hnil
  rw [show n - 1 + 1 = n by omega] at hl
  rw [hl]
  exact ⟨m1, m2⟩
 | false =>
  have e : ixT false n 0 = 0 := rfl
  rw [e] at hnil hno
  have main : ∀ k, k + 1 ≤ n → (delS f h (k + 1)).1 = k ∧ ∀ i, i < k → (delS f h (k + 1)).2.1 i = z1 (i + 1) ∧ (delS f h (k + 1)).2.2 i = z2 (i + 1) := fun k => by
   induction k with
   | zero => intro _; rw [(hstep 0).1 hnil]; exact ⟨rfl, fun i hi => by omega⟩
   | succ k ih =>
    intro hk
    obtain ⟨i1, i2⟩ := ih (by omega)
    obtain ⟨a, b, c⟩ := hno (k + 1) (by omega) (by omega)
    rw [(hstep (k + 1)).2 a, b, c]
    refine ⟨by show (delS f h (k + 1)).1 + 1 = _; omega, fun i hi => ?_⟩
    show putF _ _ _ i = _ ∧ putF _ _ _ i = _
    by_cases ei : i = k
    ·rw [i1, ei, put_at, put_at]; exact ⟨rfl, rfl⟩
    ·rw [put_off _ _ (by omega), put_off _ _ (by omega)]; exact i2 i (by omega)
  have := main (n - 1) (by omega)
  rw [show n - 1 + 1 = n by omega] at this
  exact this
section
variable {n : Nat} {room : Int} {top : Bool} {z1 z2 : Nat → Int} (hT : tankE n room z1 z2 = 0) (hn : 0 < n)
include hT hn
theorem end_drawn : drH n (z1 (ixT top n 0)) top z1 z2 = z2 (ixT top n 0) ∧ (drL delS n (z1 (ixT top n 0)) top z1 z2 n).1 = n - 1 ∧ (drK togS (drL delS n (z1 (ixT top n 0)) top z1 z2 n)).1 = n - 1 := by
 obtain ⟨⟨h1, h2, h3⟩, hc, hr, e1, e2, hR⟩ := tank_facts hT
 obtain ⟨a, b, c⟩ := dr_one (top := top) hR (n - 1) (by omega)
 rw [show n - 1 + 1 = n by omega] at a b c
 obtain ⟨d1, d2⟩ := del_one (top := top) hn (fun j hj => (hR.pos j hj).1) c
 refine ⟨b, d1, ?_⟩
 have d1' : (drL delS n (z1 (ixT top n 0)) top z1 z2 n).1 = n - 1 := d1
 have d2' : ∀ i, i < n - 1 → (drL delS n (z1 (ixT top n 0)) top z1 z2 n).2.1 i = z1 (i + offT top) ∧ (drL delS n (z1 (ixT top n 0)) top z1 z2 n).2.2 i = z2 (i + offT top) := d2
 have hid := (togS_id (n := n - 1) (z1 := (drL delS n (z1 (ixT top n 0)) top z1 z2 n).2.1) (z2 := (drL delS n (z1 (ixT top n 0)) top z1 z2 n).2.2) (fun i hi => by
  have hcc := hc (i + offT top) (by cases top <;> (unfold offT; simp only; omega))
  unfold cold at hcc ⊢
  rw [(d2' i (by omega)).1, (d2' i (by omega)).2, (d2' (i + 1) hi).1, (d2' (i + 1) hi).2, show i + 1 + offT top = i + offT top + 1 by omega]
  exact hcc) (n - 1) (Nat.le_refl _)).1
 show (togS _ _ (drL delS n (z1 (ixT top n 0)) top z1 z2 n).1).1 = n - 1
 rw [d1']
 exact hid
end
section
variable {n : Nat} {room num den : Int} {z1 z2 : Nat → Int} (hT : tankE n room z1 z2 = 0) (h0 : 0 ≤ num) (h1 : num ≤ den) (h2 : 1 ≤ den) (h3 : den ≤ 1000)
include hT h0 h1 h2 h3
theorem coolN_bd {k : Nat} (hk : k < n) : 0 ≤ coolN z2 num den k ∧ coolN z2 num den k ≤ z2 k ∧ coolN z2 num den k * den ≤ z2 k * num ∧ coolH z2 num den k = z2 k - coolN z2 num den k := by
 have hrow := tank_rows hT k hk
 have ht := take_bd (a := den) (h := z2 k) (p := num) h2 (by omega) hrow.2.1 hrow.2.2 h0 h1
 refine ⟨ht.1, ht.2.1, ht.2.2.2.2, ?_⟩
 have a : 0 ≤ coolN z2 num den k := ht.1
 have b : coolN z2 num den k ≤ z2 k := ht.2.1
 unfold coolH
 exact w64_in (by omega) (by omega)
theorem cool_sums : ∀ k, k ≤ n → 0 ≤ sumN (coolN z2 num den) k ∧ sumN (coolN z2 num den) k * den ≤ sumN z2 k * num ∧ sumN (coolH z2 num den) k = sumN z2 k - sumN (coolN z2 num den) k
 | 0, _ => ⟨Int.le_refl _, by show (0 : Int) * den ≤ 0 * num; omega, rfl⟩
 | k + 1, hk => by
  obtain ⟨a, b, c⟩ := cool_sums k (by omega)
  obtain ⟨d, e, f, g⟩ := coolN_bd hT h0 h1 h2 h3 (show k < n by omega)
  rw [sumN_succ, sumN_succ, sumN_succ, Int.add_mul, Int.add_mul]
  omega
theorem cooled_ok : Rng (coolT n z1 z2 num den) (sumN z1 n) (sumN z2 n - sumA (coolN z2 num den) n) ∧ (∀ i, i + 1 < (coolT n z1 z2 num den).1 → lt2 (coolT n z1 z2 num den).2.1 (coolT n z1 z2 num den).2.2 i) ∧ (coolT n z1 z2 num den).1 ≤ n ∧ 0 ≤ sumA (coolN z2 num den) n ∧ sumA (coolN z2 num den) n ≤ 1000000000 ∧ sumA (coolN z2 num den) n * den ≤ sumN z2 n * num := by
 obtain ⟨⟨b1, b2, b3⟩, hc, hr, e1, e2, hR⟩ := tank_facts hT
 obtain ⟨a, b, c⟩ := cool_sums hT h0 h1 h2 h3 n (Nat.le_refl _)
 have hb1 := hR.bA
 have hb2 := hR.bH
 have hnn : ∀ i, i < n → 0 ≤ coolH z2 num den i := fun i hi => by
  obtain ⟨d, e, f, g⟩ := coolN_bd hT h0 h1 h2 h3 hi
  omega
 have hs := sumN_nn (f := coolH z2 num den) n hnn
 have hA := sumA_N (f := coolN z2 num den) (n := n) (fun i hi => (coolN_bd hT h0 h1 h2 h3 hi).1) (by omega) n (Nat.le_refl _)
 obtain ⟨g1, g2⟩ := togS_good (n := n) (z1 := z1) (z2 := coolH z2 num den) (fun i hi => ⟨(hR.pos i hi).1, hnn i hi⟩) hb1 (by omega) n (Nat.le_refl _)
 rw [hA]
 rw [c] at g1
 exact ⟨g1, g2, (togS_bd z1 (coolH z2 num den) n).1, a, by omega, b⟩
end
end Go.Ev
