/- Bending, plainly. Conditions: air that is right, rays. -/
import Derived.Test.YtkalcencblhlgaaGreatDoorAir7
import Derived.Test.YtkalcencblhlgaaGreatDoorVec4
namespace Go.Ev
open Go Go.Proofs
structure AirOk (n : Nat) (f l : Nat → Int) : Prop where
 few : n ≤ 16
 from_ : ∀ k, k < n → -100000 ≤ f k ∧ f k ≤ 100000
 lift : ∀ k, k < n → 0 ≤ l k ∧ l k ≤ 16
theorem air_ok {n : Nat} {f l : Nat → Int} (h : airE n f l = 0) : AirOk n f l := by
 unfold airE at h
 cases hn : decide ((n : Int) > 16) with
 | true => rw [hn] at h; cases h
 | false =>
  rw [hn] at h
  rw [decide_eq_false_iff_not] at hn
  have hr : ∀ k, k < n → wW (f k) (-100000) 100000 = 0 ∧ wW (l k) 0 16 = 0 := fun k hk => by
   have := fnz_none h k (Nat.zero_le _) (by omega)
   unfold aiR aiE at this
   rw [firstZ_zero] at this
   exact ⟨this _ (by simp), this _ (by simp)⟩
  exact ⟨by omega, fun k hk => wW_zero.1 (hr k hk).1, fun k hk => wW_zero.1 (hr k hk).2⟩
def fl1 (x y : Int) : Int := (x.natAbs : Int) + (y.natAbs : Int)
theorem max_abs {x : Int} (h : x.natAbs ≤ 1000000000000) : max2 x (w64 (0 - x)) = (x.natAbs : Int) := by
 rw [w64_id (by omega)]
 unfold max2
 split <;> omega
theorem flW_eq {x y : Int} (hx : x.natAbs ≤ 1000000000000) (hy : y.natAbs ≤ 1000000000000) : flW x y = fl1 x y := by
 unfold flW fl1
 rw [max_abs hx, max_abs hy, w64_id (by omega)]
theorem fl1_mul (g x y : Int) (hg : 0 < g) : fl1 (g * x) (g * y) = g * fl1 x y := by
 unfold fl1
 rw [Int.natAbs_mul, Int.natAbs_mul, Int.natCast_mul, Int.natCast_mul, Int.natAbs_of_nonneg (Int.le_of_lt hg), ← Int.mul_add]
theorem fl1_nn (x y : Int) : 0 ≤ fl1 x y := by unfold fl1; omega
theorem fl1_zero {x y : Int} : fl1 x y = 0 ↔ x = 0 ∧ y = 0 := by unfold fl1; omega
theorem fl1_bd {x y : Int} {M : Nat} (hx : x.natAbs ≤ M) (hy : y.natAbs ≤ M) : fl1 x y ≤ 2 * M := by unfold fl1; omega
section
variable {n : Nat} {f l : Nat → Int} (ha : AirOk n f l)
include ha
theorem cnd_iff {x y z : Int} {M : Nat} (hM : M ≤ 1000000000) (hb : Bd M x y z) {k : Nat} (hk : k < n) : cnd f x y z k = true ↔ f k * fl1 x y ≤ 64 * z := by
 obtain ⟨hx, hy, hz⟩ := hb
 have hf := ha.from_ k hk
 have h1 := fl1_bd hx hy
 have h2 := fl1_nn x y
 have hp := mul_bd (a := f k) (b := fl1 x y) (s := 100000) (t := 2 * M) (by omega) (by omega)
 unfold cnd
 rw [flW_eq (by omega) (by omega), decide_eq_true_eq]
 show w64 (f k * fl1 x y) ≤ w64 (64 * z) ↔ _
 rw [w64_id (by omega), w64_id (by omega)]
theorem ofJ_line {x y z p q r g : Int} {M : Nat} (hM : M ≤ 1000000000) (hb : Bd M x y z) (hb' : Bd M p q r) (hg : 0 < g) (ex : x = g * p) (ey : y = g * q) (ez : z = g * r) : ∀ m, m ≤ n → ofJ f x y z m = ofJ f p q r m
 | 0, _ => rfl
 | m + 1, hm => by
  have ih := ofJ_line hM hb hb' hg ex ey ez m (by omega)
  have hc : cnd f x y z m = cnd f p q r m := by
   rw [Bool.eq_iff_iff, cnd_iff ha hM hb (by omega), cnd_iff ha hM hb' (by omega), ex, ey, ez, fl1_mul g p q hg]
   have e1 : f m * (g * fl1 p q) = g * (f m * fl1 p q) := by grind
   have e2 : 64 * (g * r) = g * (64 * r) := by grind
   rw [e1, e2]
   exact ⟨fun h => Int.le_of_mul_le_mul_left h hg, fun h => Int.mul_le_mul_of_nonneg_left h (by omega)⟩
  show (match cnd f x y z m with | true => m + 1 | false => ofJ f x y z m) = (match cnd f p q r m with | true => m + 1 | false => ofJ f p q r m)
  rw [hc, ih]
omit ha in
theorem ofJ_le (x y z : Int) : ∀ m, ofJ f x y z m ≤ m
 | 0 => Nat.le_refl _
 | m + 1 => by
  have := ofJ_le x y z m
  show (match cnd f x y z m with | true => m + 1 | false => ofJ f x y z m) ≤ m + 1
  cases cnd f x y z m with
  | true => exact Nat.le_refl _
  | false => exact Nat.le_succ_of_le this
theorem lift_in {k : Nat} (hk : k ≤ n) : 0 ≤ zg0 l k ∧ zg0 l k ≤ 16 := by
 cases k with
 | zero => exact ⟨Int.le_refl _, show (0 : Int) ≤ 16 by decide⟩
 | succ k => exact ha.lift k (by omega)
theorem bent_is {x y z : Int} (hr : Ray x y z) (hE : airE n f l = 0) : bnO airE oB n f l x y z = true ∧ ∃ p q r, Red (64 * x) (64 * y) (64 * z + zg0 l (ofJ f x y z n) * fl1 x y) p q r ∧ bnV oB p1 n f l x y z = p ∧ bnV oB p2 n f l x y z = q ∧ bnV oB p3 n f l x y z = r := by
 have hb := hr.1
 obtain ⟨hx, hy, hz⟩ := hb
 have hL := lift_in ha (ofJ_le (f := f) x y z n)
 have h1 := fl1_bd hx hy
 have h2 := fl1_nn x y
 have hfl : flW x y = fl1 x y := flW_eq (by omega) (by omega)
 have hp := mul_bd (a := zg0 l (ofJ f x y z n)) (b := fl1 x y) (s := 16) (t := 2 * 4096) (by omega) (by omega)
 have eX : w64 (64 * x) = 64 * x := w64_id (by omega)
 have eY : w64 (64 * y) = 64 * y := w64_id (by omega)
 have eZ : bnZ oB n f l x y z = 64 * z + zg0 l (ofJ f x y z n) * fl1 x y := by
  show w64 (w64 (64 * z) + w64 (zg0 l (ofJ f x y z n) * flW x y)) = _
  rw [hfl, w64_id (n := 64 * z) (by omega), w64_id (n := zg0 l (ofJ f x y z n) * fl1 x y) (by omega), w64_id (by omega)]
 have hB : Bd 400000 (64 * x) (64 * y) (64 * z + zg0 l (ofJ f x y z n) * fl1 x y) := ⟨by omega, by omega, by omega⟩
 have hne : ¬ (64 * x = 0 ∧ 64 * y = 0 ∧ 64 * z + zg0 l (ofJ f x y z n) * fl1 x y = 0) := by
  rintro ⟨a, b, c⟩
  have x0 : x = 0 := by omega
  have y0 : y = 0 := by omega
  subst x0; subst y0
  have : fl1 0 0 = 0 := rfl
  rw [this, Int.mul_zero] at c
  exact hr.2 ⟨rfl, rfl, by omega⟩
 refine ⟨?_, ?_⟩
 ·unfold bnO
  rw [eX, eY, eZ, hr.in3, hB.in3 (by decide), hE, ray_zero.2 hr]
  have := ha.few
  rw [show Nat.ble n 1000000 = true by rw [Nat.ble_eq]; omega]
  rfl
 ·obtain ⟨p, q, r, hR⟩ := red_ex hne
  refine ⟨p, q, r, hR, ?_⟩
  cases hf : flW x y == 0 with
  | true =>
   have e : ∀ s, bnV oB s n f l x y z = redA x y z (s x y z) := fun s => by unfold bnV; rw [hf]
   rw [e, e, e]
   rw [beq_iff_eq, hfl, fl1_zero] at hf
   obtain ⟨rfl, rfl⟩ := hf
   have hR2 : Red 0 0 z p q r := hR.line (l := 64) (m := 1) (by decide) (by decide) (by omega) (by omega) (by
    have : fl1 0 0 = 0 := rfl
    rw [this, Int.mul_zero]
    omega)
   exact redA_of (M := 4096) ⟨hx, hy, hz⟩ (by decide) hR2
  | false =>
   have e : ∀ s, bnV oB s n f l x y z = redA (64 * x) (64 * y) (64 * z + zg0 l (ofJ f x y z n) * fl1 x y) (s (64 * x) (64 * y) (64 * z + zg0 l (ofJ f x y z n) * fl1 x y)) := fun s => by unfold bnV; rw [hf, eX, eY, eZ]
   rw [e, e, e]
   exact redA_of hB (by decide) hR
theorem uW_is {x y z : Int} (hr : Ray x y z) (hf : fl1 x y ≠ 0) {k : Nat} (hk : k ≤ n) : in3 (w64 (64 * x)) (w64 (64 * y)) (uZ l x y z k) = true ∧ ∃ p q r, Red (64 * x) (64 * y) (64 * z - zg0 l k * fl1 x y) p q r ∧ Bd 400000 p q r ∧ uW l x y z p1 k = p ∧ uW l x y z p2 k = q ∧ uW l x y z p3 k = r := by
 obtain ⟨hx, hy, hz⟩ := hr.1
 have hL := lift_in ha hk
 have h1 := fl1_bd hx hy
 have h2 := fl1_nn x y
 have hfl : flW x y = fl1 x y := flW_eq (by omega) (by omega)
 have hp := mul_bd (a := zg0 l k) (b := fl1 x y) (s := 16) (t := 2 * 4096) (by omega) (by omega)
 have eX : w64 (64 * x) = 64 * x := w64_id (by omega)
 have eY : w64 (64 * y) = 64 * y := w64_id (by omega)
 have eZ : uZ l x y z k = 64 * z - zg0 l k * fl1 x y := by
  unfold uZ
  rw [show ixN k = k from idx_nat k, hfl, w64_id (n := 64 * z) (by omega), w64_id (n := zg0 l k * fl1 x y) (by omega), w64_id (by omega)]
 have hB : Bd 400000 (64 * x) (64 * y) (64 * z - zg0 l k * fl1 x y) := ⟨by omega, by omega, by omega⟩
 have hne : ¬ (64 * x = 0 ∧ 64 * y = 0 ∧ 64 * z - zg0 l k * fl1 x y = 0) := by
  rintro ⟨a, b, c⟩
  exact hf (fl1_zero.2 ⟨by omega, by omega⟩)
 obtain ⟨p, q, r, hR⟩ := red_ex hne
 refine ⟨by rw [eX, eY, eZ]; exact hB.in3 (by decide), p, q, r, hR, hR.bd hB, ?_⟩
 unfold uW
 rw [eX, eY, eZ]
 exact redA_of hB (by decide) hR
end
theorem fiV_ge (p : Nat → Bool) : ∀ (m k : Nat), 0 ≤ fiV p m k → ∃ i, k ≤ i ∧ i < k + m ∧ p i = true
 | 0, k, h => by
  have h : (0 : Int) ≤ -1 := h
  omega
 | m + 1, k, h => by
  cases hp : p k with
  | true => exact ⟨k, Nat.le_refl _, by omega, hp⟩
  | false =>
   have e : fiV p (m + 1) k = fiV p m (k + 1) := by
    show (match p k with | true => (k : Int) | false => fiV p m (k + 1)) = _
    rw [hp]
   rw [e] at h
   obtain ⟨i, h1, h2, h3⟩ := fiV_ge p m (k + 1) h
   exact ⟨i, by omega, by omega, h3⟩
theorem zg2_inj {i j : Nat} (h : zg2 i = zg2 j) : i = j := by
 cases i with
 | zero =>
  cases j with
  | zero => rfl
  | succ j =>
   have h : (-1 : Int) = (j : Int) := h
   omega
 | succ i =>
  cases j with
  | zero =>
   have h : (i : Int) = -1 := h
   omega
  | succ j =>
   have h : (i : Int) = (j : Int) := h
   omega
section
variable (n : Nat) (f l : Nat → Int) (x y z : Int)
theorem uC1_iff (k : Nat) : uC1 oA oB oC n f l x y z k = true ↔ ofJ f (uW l x y z p1 k) (uW l x y z p2 k) (uW l x y z p3 k) n = k := by
 unfold uC1 oA oB oC
 simp only [Bool.and_eq_true, beq_iff_eq, and_true, show ixN k = k from idx_nat k]
 constructor
 ·rintro ⟨_, h⟩
  exact zg2_inj h
 ·intro h
  rw [h]
  exact ⟨⟨rfl, rfl⟩, rfl⟩
def elU (s : Ul) (i : Nat) (p q r : Int) : Prop := s.u0 i = p ∧ s.u1 i = q ∧ s.u2 i = r
def wkU (k : Nat) (s : Ul) (i : Nat) : Prop := elU s i (uW l x y z p1 k) (uW l x y z p2 k) (uW l x y z p3 k)
theorem uRec_spec : ∀ K, (∀ i, i < (uRec n f l x y z K).m → ∃ k, k < K ∧ uC1 oA oB oC n f l x y z k = true ∧ wkU l x y z k (uRec n f l x y z K) i) ∧ (∀ k, k < K → uC1 oA oB oC n f l x y z k = true → ∃ i, i < (uRec n f l x y z K).m ∧ wkU l x y z k (uRec n f l x y z K) i)
 | 0 => ⟨fun i h => absurd h (Nat.not_lt_zero _), fun k h => absurd h (Nat.not_lt_zero _)⟩
 | K + 1 => by
  obtain ⟨h1, h2⟩ := uRec_spec K
  have hS : uRec n f l x y z (K + 1) = uStep n f l x y z (uRec n f l x y z K) K := rfl
  rw [hS]
  generalize uRec n f l x y z K = s at h1 h2
  unfold uStep
  cases hc : uC1 oA oB oC n f l x y z K && uC2 iV l x y z s.m s.u0 s.u1 s.u2 K with
  | true =>
   rw [Bool.and_eq_true] at hc
   have old : ∀ {k i : Nat}, i < s.m → wkU l x y z k s i → wkU l x y z k (uAdd l x y z s K) i := fun {k i} hi h => by
    unfold wkU elU at h ⊢
    unfold uAdd
    simp only
    rw [putF_other _ _ (by omega), putF_other _ _ (by omega), putF_other _ _ (by omega)]
    exact h
   have new : wkU l x y z K (uAdd l x y z s K) s.m := by
    unfold wkU elU uAdd
    simp only
    exact ⟨putF_same _ _ _, putF_same _ _ _, putF_same _ _ _⟩
   refine ⟨fun i hi => ?_, fun k hk hck => ?_⟩
   ·have hi : i < s.m + 1 := hi
    by_cases e : i = s.m
    ·subst e
     exact ⟨K, by omega, hc.1, new⟩
    ·obtain ⟨k, a, b, c⟩ := h1 i (by omega)
     exact ⟨k, by omega, b, old (by omega) c⟩
   ·by_cases e : k = K
    ·subst e
     exact ⟨s.m, Nat.lt_succ_self _, new⟩
    ·obtain ⟨i, a, b⟩ := h2 k (by omega) hck
     exact ⟨i, Nat.lt_succ_of_lt a, old a b⟩
  | false =>
   refine ⟨fun i hi => ?_, fun k hk hck => ?_⟩
   ·obtain ⟨k, a, b, c⟩ := h1 i hi
    exact ⟨k, by omega, b, c⟩
   ·by_cases e : k = K
    ·subst e
     rw [hck, Bool.true_and] at hc
     unfold uC2 iV at hc
     simp only [Bool.not_eq_false', decide_eq_true_eq] at hc
     obtain ⟨i, _, hi, hv⟩ := fiV_ge _ _ _ hc
     unfold veqB at hv
     simp only [Bool.and_eq_true, beq_iff_eq, and_true] at hv
     exact ⟨i, (show i < s.m by omega), hv.1.symm, hv.2.1.symm, hv.2.2.symm⟩
    ·exact h2 k (by omega) hck
end
end Go.Ev
namespace Go.Ev
open Go Go.Proofs
theorem uz_in3 {n : Nat} {f l : Nat → Int} (ha : AirOk n f l) {x y z : Int} (hr : Ray x y z) {k : Nat} (hk : k ≤ n) : in3 (w64 (64 * x)) (w64 (64 * y)) (uZ l x y z k) = true := by
 obtain ⟨hx, hy, hz⟩ := hr.1
 have hL := lift_in ha hk
 have h1 := fl1_bd hx hy
 have h2 := fl1_nn x y
 have hfl : flW x y = fl1 x y := flW_eq (by omega) (by omega)
 have hp := mul_bd (a := zg0 l k) (b := fl1 x y) (s := 16) (t := 2 * 4096) (by omega) (by omega)
 have eX : w64 (64 * x) = 64 * x := w64_id (by omega)
 have eY : w64 (64 * y) = 64 * y := w64_id (by omega)
 have eZ : uZ l x y z k = 64 * z - zg0 l k * fl1 x y := by
  unfold uZ
  rw [show ixN k = k from idx_nat k, hfl, w64_id (n := 64 * z) (by omega), w64_id (n := zg0 l k * fl1 x y) (by omega), w64_id (by omega)]
 have hB : Bd 400000 (64 * x) (64 * y) (64 * z - zg0 l k * fl1 x y) := ⟨by omega, by omega, by omega⟩
 rw [eX, eY, eZ]
 exact hB.in3 (by decide)
structure BendOk (n : Nat) (f l : Nat → Int) (x y z b1 b2 b3 : Int) : Prop where
 ray : Ray b1 b2 b3
 par : ∃ g : Int, 0 < g ∧ 64 * x = g * b1 ∧ 64 * y = g * b2 ∧ 64 * z + zg0 l (ofJ f x y z n) * fl1 x y = g * b3
 key : unK n f l b1 b2 b3 = true
 few : uM n f l b1 b2 b3 ≤ n
 each : ∀ i, i < uM n f l b1 b2 b3 + 1 → qdirErr (uU0 n f l b1 b2 b3 i) (uU1 n f l b1 b2 b3 i) (uU2 n f l b1 b2 b3 i) = 0 ∧ (qrayErr (uU0 n f l b1 b2 b3 i) (uU1 n f l b1 b2 b3 i) (uU2 n f l b1 b2 b3 i) = 0 →
  bnO airE oB n f l (uU0 n f l b1 b2 b3 i) (uU1 n f l b1 b2 b3 i) (uU2 n f l b1 b2 b3 i) = true ∧ bnV oB p1 n f l (uU0 n f l b1 b2 b3 i) (uU1 n f l b1 b2 b3 i) (uU2 n f l b1 b2 b3 i) = b1 ∧ bnV oB p2 n f l (uU0 n f l b1 b2 b3 i) (uU1 n f l b1 b2 b3 i) (uU2 n f l b1 b2 b3 i) = b2 ∧ bnV oB p3 n f l (uU0 n f l b1 b2 b3 i) (uU1 n f l b1 b2 b3 i) (uU2 n f l b1 b2 b3 i) = b3)
 there : ∃ i, i < uM n f l b1 b2 b3 + 1 ∧ uU0 n f l b1 b2 b3 i = redA x y z x ∧ uU1 n f l b1 b2 b3 i = redA x y z y ∧ uU2 n f l b1 b2 b3 i = redA x y z z
theorem bend_ok {n : Nat} {f l : Nat → Int} (hE : airE n f l = 0) {x y z : Int} (hr : Ray x y z) (h40 : Bd 40 x y z) : BendOk n f l x y z (bnV oB p1 n f l x y z) (bnV oB p2 n f l x y z) (bnV oB p3 n f l x y z) := by
 have ha := air_ok hE
 have hfew := ha.few
 obtain ⟨_, p, q, r, hR, e1, e2, e3⟩ := bent_is ha hr hE
 rw [e1, e2, e3]
 obtain ⟨a1, a2, a3, hA⟩ := red_ex hr.2
 obtain ⟨hA1, hA2, hA3⟩ := redA_of hr.1 (by decide) hA
 have hAb := hA.bd h40
 have hk0 := ofJ_le (f := f) x y z n
 have hL := lift_in ha hk0
 have hF := fl1_bd h40.1 h40.2.1
 have hF0 := fl1_nn x y
 have hLF := mul_bd (a := zg0 l (ofJ f x y z n)) (b := fl1 x y) (s := 16) (t := 2 * 40) (by omega) (by omega)
 have hB : Bd 4096 (64 * x) (64 * y) (64 * z + zg0 l (ofJ f x y z n) * fl1 x y) := by
  obtain ⟨b1, b2, b3⟩ := h40
  exact ⟨by omega, by omega, by omega⟩
 have hray : Ray p q r := ⟨hR.bd hB, hR.ne⟩
 obtain ⟨g, hg, g1, g2, g3, hgc⟩ := hR
 have hRb : Red p q r p q r := ⟨1, by decide, by omega, by omega, by omega, hgc⟩
 have hgF : g * fl1 p q = 64 * fl1 x y := by rw [← fl1_mul g p q hg, ← g1, ← g2, fl1_mul 64 x y (by decide)]
 have hfq : flW p q = fl1 p q := flW_eq (by have := hray.1.1; omega) (by have := hray.1.2.1; omega)
 -- the bent ray of a vector of the list
 have back : ∀ {p' q' r' h : Int} {k : Nat}, Ray p' q' r' → ofJ f p' q' r' n = k → 0 < h → 64 * p = h * p' → 64 * q = h * q' → 64 * r - zg0 l k * fl1 p q = h * r' →
   bnO airE oB n f l p' q' r' = true ∧ bnV oB p1 n f l p' q' r' = p ∧ bnV oB p2 n f l p' q' r' = q ∧ bnV oB p3 n f l p' q' r' = r := fun {p' q' r' h k} hw hj hh h1 h2 h3 => by
  obtain ⟨hO, s, t, u, hS, s1, s2, s3⟩ := bent_is ha hw hE
  rw [hj] at hS
  have hhF : h * fl1 p' q' = 64 * fl1 p q := by rw [← fl1_mul h p' q' hh, ← h1, ← h2, fl1_mul 64 p q (by decide)]
  obtain ⟨rfl, rfl, rfl⟩ := hS.unique hRb (l := h) (m := 4096) hh (by decide) (by grind) (by grind) (by grind)
  exact ⟨hO, s1, s2, s3⟩
 have hkey : Nat.blt 0 (uAll n f l p q r).m = true → unK n f l p q r = true := fun hm => by
  unfold unK
  rw [hE, ray_zero.2 hray, hray.in3, hm, show Nat.ble n 1000 = true by rw [Nat.ble_eq]; omega, allK_of (f := fun k => in3 (w64 (64 * p)) (w64 (64 * q)) (uZ l p q r k)) (n := n + 1) fun k hk => uz_in3 ha hray (by omega)]
  rfl
 cases hf : flW p q == 0 with
 | true =>
  have hz : fl1 p q = 0 := by rw [beq_iff_eq, hfq] at hf; exact hf
  have hzx : fl1 x y = 0 := by
   rw [hz, Int.mul_zero] at hgF
   omega
  obtain ⟨rA1, rA2, rA3⟩ := redA_of hray.1 (by decide) hRb
  have hall : uAll n f l p q r = ⟨1, fun _ => p, fun _ => q, fun _ => r⟩ := by
   unfold uAll
   rw [hf, rA1, rA2, rA3]
  have hU0 : ∀ i, uU0 n f l p q r i = p := fun i => by unfold uU0; rw [hall]
  have hU1 : ∀ i, uU1 n f l p q r i = q := fun i => by unfold uU1; rw [hall]
  have hU2 : ∀ i, uU2 n f l p q r i = r := fun i => by unfold uU2; rw [hall]
  have hM : uM n f l p q r = 0 := by unfold uM; rw [hall]; rfl
  refine ⟨hray, ⟨g, hg, g1, g2, g3⟩, hkey (by rw [hall]; rfl), by omega, fun i _ => ?_, ⟨0, by omega, ?_⟩⟩
  ·rw [hU0, hU1, hU2]
   refine ⟨by rw [← dir_eq]; exact dir_zero.2 ⟨hray.1.mono (by decide), hray.2⟩, fun _ => back (h := 64) hray rfl (by decide) rfl rfl (by rw [hz, Int.mul_zero]; omega)⟩
  ·rw [hU0, hU1, hU2, hA1, hA2, hA3]
   exact hRb.unique hA (l := g) (m := 64) hg (by decide) (by omega) (by omega) (by rw [hzx, Int.mul_zero] at g3; omega)
 | false =>
  have hz : fl1 p q ≠ 0 := by rw [beq_eq_false_iff_ne, hfq] at hf; exact hf
  have hall : uAll n f l p q r = uRec n f l p q r (n + 1) := by unfold uAll; rw [hf]
  obtain ⟨s1, s2⟩ := uRec_spec n f l p q r (n + 1)
  have hle := uRec_le n f l p q r (n + 1)
  -- the ray itself
  have hthere : ∃ i, i < (uRec n f l p q r (n + 1)).m ∧ elU (uRec n f l p q r (n + 1)) i a1 a2 a3 := by
   obtain ⟨_, p', q', r', hW, _, w1, w2, w3⟩ := uW_is ha hray hz hk0
   obtain ⟨rfl, rfl, rfl⟩ := hW.unique hA (l := g) (m := 4096) hg (by decide) (by grind) (by grind) (by grind)
   obtain ⟨d, hd, d1, d2, d3, _⟩ := hA
   have hj : ofJ f x y z n = ofJ f p' q' r' n := ofJ_line ha (M := 40) (by decide) h40 hAb hd d1 d2 d3 n (Nat.le_refl _)
   obtain ⟨i, hi, hw⟩ := s2 _ (Nat.lt_succ_of_le hk0) ((uC1_iff n f l p q r _).2 (by rw [w1, w2, w3]; exact hj.symm))
   unfold wkU at hw
   rw [w1, w2, w3] at hw
   exact ⟨i, hi, hw⟩
  have hpos : 0 < (uRec n f l p q r (n + 1)).m := by obtain ⟨i, hi, _⟩ := hthere; omega
  have hM : uM n f l p q r + 1 = (uRec n f l p q r (n + 1)).m := by unfold uM; rw [hall]; omega
  refine ⟨hray, ⟨g, hg, g1, g2, g3⟩, hkey (by rw [hall, Nat.blt_eq]; exact hpos), by omega, fun i hi => ?_, ?_⟩
  ·rw [hM] at hi
   obtain ⟨k, hk, hc, v1, v2, v3⟩ := s1 i hi
   obtain ⟨_, p', q', r', ⟨h, hh, h1, h2, h3, hgc'⟩, hWb, w1, w2, w3⟩ := uW_is ha hray hz (Nat.le_of_lt_succ hk)
   have hj := (uC1_iff n f l p q r k).1 hc
   rw [w1] at v1; rw [w2] at v2; rw [w3] at v3; rw [w1, w2, w3] at hj
   have hU : uU0 n f l p q r i = p' ∧ uU1 n f l p q r i = q' ∧ uU2 n f l p q r i = r' := by
    unfold uU0 uU1 uU2
    rw [hall]
    exact ⟨v1, v2, v3⟩
   rw [hU.1, hU.2.1, hU.2.2]
   have hne : ¬ (p' = 0 ∧ q' = 0 ∧ r' = 0) := Red.ne (x := p') (y := q') (z := r') ⟨1, by decide, by omega, by omega, by omega, hgc'⟩
   refine ⟨by rw [← dir_eq]; exact dir_zero.2 ⟨hWb.mono (by decide), hne⟩, fun hw => ?_⟩
   rw [← ray_eq, ray_zero] at hw
   exact back hw hj hh h1 h2 h3
  ·obtain ⟨i, hi, v1, v2, v3⟩ := hthere
   refine ⟨i, by omega, ?_⟩
   unfold uU0 uU1 uU2
   rw [hall, hA1, hA2, hA3]
   exact ⟨v1, v2, v3⟩
theorem calm_ok (f l : Nat → Int) {x y z : Int} (hr : Ray x y z) : bnO airE oB 0 f l x y z = true ∧ bnV oB p1 0 f l x y z = redA x y z x ∧ bnV oB p2 0 f l x y z = redA x y z y ∧ bnV oB p3 0 f l x y z = redA x y z z := by
 have hE : airE 0 f l = 0 := rfl
 obtain ⟨hO, p, q, r, hR, e1, e2, e3⟩ := bent_is (air_ok hE) hr hE
 obtain ⟨a1, a2, a3, hA⟩ := red_ex hr.2
 obtain ⟨hA1, hA2, hA3⟩ := redA_of hr.1 (by decide) hA
 have h0 : zg0 l (ofJ f x y z 0) = 0 := rfl
 rw [h0, Int.zero_mul, Int.add_zero] at hR
 obtain ⟨rfl, rfl, rfl⟩ := hR.unique hA (l := 1) (m := 64) (by decide) (by decide) (by omega) (by omega) (by omega)
 exact ⟨hO, by rw [e1, hA1], by rw [e2, hA2], by rw [e3, hA3]⟩
end Go.Ev
