/- Plain laws of rays and reduced vectors: the program's formulas and the reference's come to the same. Conditions: parts of vectors in the ranges that the checks ask. -/
import Derived.Test.YtjckcdpjibfacaaGreatVec2
namespace Go.Ev
open Go
theorem w64_id {n : Int} (h : n.natAbs ≤ 9223372036854775807) : w64 n = n := wrap_id (by omega) (by omega)
theorem mul_bd {a b : Int} {s t : Nat} (ha : a.natAbs ≤ s) (hb : b.natAbs ≤ t) : (a * b).natAbs ≤ s * t := by
 rw [Int.natAbs_mul]; exact Nat.mul_le_mul ha hb
theorem sq_nonneg (a : Int) : 0 ≤ a * a := by
 rcases Int.le_total 0 a with h | h
 ·exact Int.mul_nonneg h h
 ·have := Int.mul_nonneg_of_nonpos_of_nonpos h h; exact this
theorem sq_pos {a : Int} (h : a ≠ 0) : 0 < a * a := by
 have h1 := sq_nonneg a
 have h2 : a * a ≠ 0 := Int.mul_ne_zero h h
 omega
theorem firstZ_zero : ∀ {l : List Int}, firstZ l = 0 ↔ ∀ a ∈ l, a = 0
 | [] => by simp [firstZ]
 | a :: l => by
  unfold firstZ
  cases h : a != 0 with
  | true =>
   have h : a ≠ 0 := by simpa using h
   simp [h]
  | false =>
   have h : a = 0 := by simpa using h
   simp [h, firstZ_zero]
theorem firstZ_cons0 {l : List Int} : firstZ (0 :: l) = firstZ l := rfl
theorem firstZ_cons1 {a : Int} {l : List Int} (h : a ≠ 0) : firstZ (a :: l) = a := by
 have : (a != 0) = true := by simpa using h
 simp [firstZ, this]
theorem errIf_zero {b : Bool} {e : Int} (he : e ≠ 0) : errIf b e = 0 ↔ b = false := by cases b <;> simp [errIf, he]
theorem wW_zero {n lo hi : Int} : wW n lo hi = 0 ↔ lo ≤ n ∧ n ≤ hi := by
 unfold wW
 rw [errIf_zero (by decide)]
 simp only [Bool.or_eq_false_iff, decide_eq_false_iff_not]
 omega
def Bd (m : Nat) (x y z : Int) : Prop := x.natAbs ≤ m ∧ y.natAbs ≤ m ∧ z.natAbs ≤ m
theorem vecErr_zero {x y z : Int} : vecErr x y z = 0 ↔ Bd 1048576 x y z := by
 unfold vecErr Bd
 rw [firstZ_zero]
 simp only [List.mem_cons, List.not_mem_nil, or_false, forall_eq_or_imp, forall_eq, wW_zero]
 omega
theorem z3_iff {x y z : Int} : z3 x y z = true ↔ x = 0 ∧ y = 0 ∧ z = 0 := by simp [z3]
theorem max2_lt {m a b : Int} : m < max2 a b ↔ m < a ∨ m < b := by unfold max2; split <;> omega
theorem far_lt {x y z : Int} (h : Bd 1048576 x y z) {m : Int} (hm : 0 ≤ m) : m < farW x y z ↔ ¬ (x.natAbs ≤ m ∧ y.natAbs ≤ m ∧ z.natAbs ≤ m) := by
 obtain ⟨h1, h2, h3⟩ := h
 unfold farW
 rw [w64_id (n := 0 - x) (by omega), w64_id (n := 0 - y) (by omega), w64_id (n := 0 - z) (by omega)]
 simp only [max2_lt]
 omega
theorem farErr_eq {x y z : Int} (h : Bd 1048576 x y z) {m : Int} (hm : 0 ≤ m) (hm' : m ≤ 1048576) : farErr x y z m = errIf (decide (m < farW x y z)) 3 := by
 have hw : ∀ n : Int, wW n (w64 (0 - m)) m = errIf (decide (¬ n.natAbs ≤ m)) 3 := fun n => by
  rw [w64_id (n := 0 - m) (by omega)]
  unfold wW
  congr 1
  by_cases h : (n.natAbs : Int) ≤ m
  ·rw [decide_eq_false (by omega : ¬ n < 0 - m), decide_eq_false (by omega : ¬ m < n), decide_eq_false (by simpa using h)]; rfl
  ·rw [decide_eq_true h]
   by_cases h' : m < n
   ·rw [decide_eq_true h', Bool.or_true]
   ·rw [decide_eq_true (by omega : n < 0 - m), Bool.true_or]
 unfold farErr
 rw [hw x, hw y, hw z]
 have hd : decide (m < farW x y z) = (decide (¬ (x.natAbs : Int) ≤ m) || (decide (¬ (y.natAbs : Int) ≤ m) || decide (¬ (z.natAbs : Int) ≤ m))) := by
  rw [Bool.eq_iff_iff]
  simp only [Bool.or_eq_true, decide_eq_true_eq, far_lt h hm]
  omega
 rw [hd]
 cases decide (¬ (x.natAbs : Int) ≤ m) <;> cases decide (¬ (y.natAbs : Int) ≤ m) <;> cases decide (¬ (z.natAbs : Int) ≤ m) <;> rfl
theorem dir_eq (x y z : Int) : dirErr x y z = qdirErr x y z := by
 unfold dirErr qdirErr
 cases h : vecErr x y z != 0 with
 | true => exact firstZ_cons1 (by simpa using h)
 | false =>
  have h : vecErr x y z = 0 := by simpa using h
  rw [h]
  cases z3 x y z <;> rfl
theorem dir_zero {x y z : Int} : dirErr x y z = 0 ↔ Bd 1048576 x y z ∧ ¬ (x = 0 ∧ y = 0 ∧ z = 0) := by
 unfold dirErr
 rw [firstZ_zero]
 simp only [List.mem_cons, List.not_mem_nil, or_false, forall_eq_or_imp, forall_eq, vecErr_zero, errIf_zero (show (6 : Int) ≠ 0 by decide)]
 rw [← z3_iff, Bool.not_eq_true]
theorem ray_eq (x y z : Int) : rayErr x y z = qrayErr x y z := by
 unfold rayErr qrayErr
 rw [← dir_eq]
 by_cases h : dirErr x y z = 0
 ·rw [h, firstZ_cons0, firstZ_cons0, farErr_eq (dir_zero.1 h).1 (by decide) (by decide)]
 ·rw [firstZ_cons1 h, firstZ_cons1 h]
def Ray (x y z : Int) : Prop := Bd 4096 x y z ∧ ¬ (x = 0 ∧ y = 0 ∧ z = 0)
theorem Bd.mono {m n : Nat} {x y z : Int} (h : Bd m x y z) (hmn : m ≤ n) : Bd n x y z := ⟨by have := h.1; omega, by have := h.2.1; omega, by have := h.2.2; omega⟩
theorem ray_zero {x y z : Int} : rayErr x y z = 0 ↔ Ray x y z := by
 unfold rayErr Ray
 rw [firstZ_zero]
 simp only [List.mem_cons, List.not_mem_nil, or_false, forall_eq_or_imp, forall_eq, dir_zero, errIf_zero (show (3 : Int) ≠ 0 by decide), decide_eq_false_iff_not]
 constructor
 ·rintro ⟨⟨h1, h2⟩, h3⟩
  rw [far_lt h1 (by decide), Decidable.not_not] at h3
  exact ⟨⟨by have := h3.1; omega, by have := h3.2.1; omega, by have := h3.2.2; omega⟩, h2⟩
 ·rintro ⟨h1, h2⟩
  refine ⟨⟨h1.mono (by decide), h2⟩, ?_⟩
  rw [far_lt (h1.mono (by decide)) (by decide), Decidable.not_not]
  exact ⟨by have := h1.1; omega, by have := h1.2.1; omega, by have := h1.2.2; omega⟩
theorem cone_eq (x y z num den : Int) : coneErr x y z num den = qconeErr x y z num den := by unfold coneErr qconeErr; rw [ray_eq]
theorem Ray.in3 {x y z : Int} (h : Ray x y z) : in3 x y z = true := by
 obtain ⟨⟨h1, h2, h3⟩, _⟩ := h
 unfold Ev.in3
 rw [Bool.and_eq_true, Bool.and_eq_true, in63_iff, in63_iff, in63_iff]
 omega
theorem dot_eq {M N : Nat} {ax ay az bx b2 bz : Int} (ha : Bd M ax ay az) (hb : Bd N bx b2 bz) (h : 3 * (M * N) ≤ 9223372036854775807) : dotW ax ay az bx b2 bz = ax * bx + ay * b2 + az * bz ∧ (ax * bx + ay * b2 + az * bz).natAbs ≤ 3 * (M * N) := by
 have h1 := mul_bd ha.1 hb.1
 have h2 := mul_bd ha.2.1 hb.2.1
 have h3 := mul_bd ha.2.2 hb.2.2
 unfold dotW
 generalize ax * bx = p at h1 ⊢
 generalize ay * b2 = q at h2 ⊢
 generalize az * bz = r at h3 ⊢
 generalize M * N = k at h h1 h2 h3 ⊢
 rw [w64_id (n := p) (by omega), w64_id (n := q) (by omega), w64_id (n := r) (by omega), w64_id (n := p + q) (by omega), w64_id (by omega)]
 exact ⟨rfl, by omega⟩
theorem diff_eq {M N : Nat} {a b c d : Int} (ha : a.natAbs ≤ M) (hb : b.natAbs ≤ N) (hc : c.natAbs ≤ M) (hd : d.natAbs ≤ N) (h : 2 * (M * N) ≤ 9223372036854775807) : w64 (w64 (a * b) - w64 (c * d)) = a * b - c * d ∧ (a * b - c * d).natAbs ≤ 2 * (M * N) := by
 have h1 := mul_bd ha hb
 have h2 := mul_bd hc hd
 generalize a * b = p at h1 ⊢
 generalize c * d = q at h2 ⊢
 generalize M * N = k at h h1 h2 ⊢
 rw [w64_id (n := p) (by omega), w64_id (n := q) (by omega), w64_id (by omega)]
 exact ⟨rfl, by omega⟩
theorem cross_zero {M : Nat} (hM : 2 * (M * M) ≤ 9223372036854775807) {ax ay az bx b2 bz : Int} (ha : Bd M ax ay az) (hb : Bd M bx b2 bz) :
  z3 (crX ax ay az bx b2 bz) (crY ax ay az bx b2 bz) (crZ ax ay az bx b2 bz) = true ↔ ay * bz - az * b2 = 0 ∧ az * bx - ax * bz = 0 ∧ ax * b2 - ay * bx = 0 := by
 rw [z3_iff]
 unfold crX crY crZ
 rw [(diff_eq ha.2.1 hb.2.2 ha.2.2 hb.2.1 hM).1, (diff_eq ha.2.2 hb.1 ha.1 hb.2.2 hM).1, (diff_eq ha.1 hb.2.1 ha.2.1 hb.1 hM).1]
def gcdN (x y z : Int) : Nat := Nat.gcd (Nat.gcd x.natAbs y.natAbs) z.natAbs
theorem gcdN_mul (k x y z : Int) : gcdN (k * x) (k * y) (k * z) = k.natAbs * gcdN x y z := by
 unfold gcdN
 rw [Int.natAbs_mul, Int.natAbs_mul, Int.natAbs_mul, Nat.gcd_mul_left, Nat.gcd_mul_left]
theorem gcdN_pos {x y z : Int} (h : ¬ (x = 0 ∧ y = 0 ∧ z = 0)) : 0 < gcdN x y z := by
 unfold gcdN
 rcases Nat.eq_zero_or_pos (Nat.gcd (Nat.gcd x.natAbs y.natAbs) z.natAbs) with h0 | h0
 ·rw [Nat.gcd_eq_zero_iff, Nat.gcd_eq_zero_iff] at h0
  exact absurd ⟨by omega, by omega, by omega⟩ h
 ·exact h0
theorem dvdN {n : Nat} {x : Int} (h : n ∣ x.natAbs) : (n : Int) ∣ x := Int.dvd_natAbs.1 (Int.natCast_dvd_natCast.2 h)
theorem gcdN_dvd (x y z : Int) : (gcdN x y z : Int) ∣ x ∧ (gcdN x y z : Int) ∣ y ∧ (gcdN x y z : Int) ∣ z := by
 unfold gcdN
 have h1 : Nat.gcd (Nat.gcd x.natAbs y.natAbs) z.natAbs ∣ Nat.gcd x.natAbs y.natAbs := Nat.gcd_dvd_left _ _
 exact ⟨dvdN (Nat.dvd_trans h1 (Nat.gcd_dvd_left _ _)), dvdN (Nat.dvd_trans h1 (Nat.gcd_dvd_right _ _)), dvdN (Nat.gcd_dvd_right _ _)⟩
theorem nsq_pos {x y z : Int} (h : ¬ (x = 0 ∧ y = 0 ∧ z = 0)) : 0 < x * x + y * y + z * z := by
 have h1 := sq_nonneg x
 have h2 := sq_nonneg y
 have h3 := sq_nonneg z
 by_cases hx : x = 0
 ·by_cases hy : y = 0
  ·have := sq_pos (fun e => h ⟨hx, hy, e⟩ : z ≠ 0); omega
  ·have := sq_pos hy; omega
 ·have := sq_pos hx; omega
theorem e3_iff {a b c d e f : Int} : e3 a b c d e f = true ↔ a = d ∧ b = e ∧ c = f := by simp [e3]
end Go.Ev
