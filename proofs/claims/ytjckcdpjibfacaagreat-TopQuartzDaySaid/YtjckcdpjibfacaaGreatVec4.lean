/- Contracts of the functions that reduce and add vectors. Conditions: as the entries say. (Printed by gen_vec4.py.) -/
import Derived.Test.YtjckcdpjibfacaaGreatLaw1
namespace Go.Ev
open Go Go.Proofs
def redA (x y z a : Int) : Int := redW (gcd3 x y z) a
def rdW (x y z a : Int) : Int := match dirErr x y z != 0 with | true => 0 | false => redA x y z a
def maxW (x y z : Int) : Int := max2 (max2 (max2 (max2 (max2 x (w64 (0 - x))) y) (w64 (0 - y))) z) (w64 (0 - z))
def tinW (x y z : Int) : Bool := (qrayErr x y z == 0) && decide (maxW x y z ≤ 40)
theorem Bd.in3 {M : Nat} {x y z : Int} (h : Bd M x y z) (hM : M ≤ 9223372036854775807) : in3 x y z = true := by
 obtain ⟨h1, h2, h3⟩ := h
 unfold Ev.in3
 rw [Bool.and_eq_true, Bool.and_eq_true, in63_iff, in63_iff, in63_iff]
 omega
theorem su_bd {s t M N : Nat} {x a y b : Int} (hx : x.natAbs ≤ s) (ha : a.natAbs ≤ M) (hy : y.natAbs ≤ t) (hb : b.natAbs ≤ N) (h : s * M + t * N ≤ 9223372036854775807) : suW x a y b = x * a + y * b ∧ (x * a + y * b).natAbs ≤ s * M + t * N := by
 have h1 := mul_bd hx ha
 have h2 := mul_bd hy hb
 unfold suW
 generalize x * a = p at h1 ⊢
 generalize y * b = q at h2 ⊢
 rw [w64_id (n := p) (by omega), w64_id (n := q) (by omega), w64_id (by omega)]
 exact ⟨rfl, by omega⟩
theorem ray_sq {M : Nat} {x y z : Int} (h : Bd M x y z) (h0 : ¬ (x = 0 ∧ y = 0 ∧ z = 0)) : 0 < x * x + y * y + z * z ∧ x * x + y * y + z * z ≤ 3 * (M * M) := by
 have a := sq_nonneg x
 have b := sq_nonneg y
 have c := sq_nonneg z
 have l1 := mul_bd h.1 h.1
 have l2 := mul_bd h.2.1 h.2.1
 have l3 := mul_bd h.2.2 h.2.2
 refine ⟨?_, by omega⟩
 by_cases hx : x = 0
 ·by_cases hy : y = 0
  ·by_cases hz : z = 0
   ·exact absurd ⟨hx, hy, hz⟩ h0
   ·have := sq_pos hz; omega
  ·have := sq_pos hy; omega
 ·have := sq_pos hx; omega
def redV : List Int → List Bool → A
 | [x, y, z], [] => vec (redA x y z x) (redA x y z y) (redA x y z z)
 | _, _ => int 0
def redK : List Int → List Bool → Bool
 | [x, y, z], [] => in3 x y z
 | _, _ => false
theorem red_run (x y z : Int) (hok : (in3 x y z) = true) : (evFun Tryz.prog (tabOf tb_btw) modes 100 73 (encA [.v 3] [x, y, z] []) hp0).run = some (vec (redA x y z x) (redA x y z y) (redA x y z z), hp0) := by
 obtain ⟨hx, hy, hz⟩ := in3_iff hok
 have h : (evFun Tryz.prog (tabOf tb_btw) modes 100 73 (encA [.v 3] [x, y, z] []) hp0).run = (Tree.need (Nat.blt (Int.gcd 0 x) 9223372036854775808) (.need (Nat.blt (Int.gcd (Int.gcd 0 x : Nat) y) 9223372036854775808) (.need (Nat.blt (Int.gcd (Int.gcd (Int.gcd 0 x : Nat) y : Nat) z) 9223372036854775808)
   (.node (gcd3 x y z == 0) (.leaf (vec x y z, hp0)) (.need (!(gcd3 x y z == 0)) (.need (!(gcd3 x y z == 0)) (.need (!(gcd3 x y z == 0)) (.leaf (vec (w64 (x.tdiv (gcd3 x y z))) (w64 (y.tdiv (gcd3 x y z))) (w64 (z.tdiv (gcd3 x y z))), hp0))))))))).run := by kernel_rfl
 rw [h]
 unfold redA redW
 simp only [Tree.run, gcd_blt in63_0 hx, gcd_blt (gcdc_in in63_0 hx) hy, gcd_blt (gcdc_in (gcdc_in in63_0 hx) hy) hz]
 cases (gcd3 x y z == 0) <;> rfl
theorem red_ok : SpecOk Tryz.prog 73 (specI [.v 3] (redK) redV) := specI_ok (fun l m => by unfold redV; split <;> rfl) fun l m hl hm hok => match l, m, hl, hm, hok with
 | [x, y, z], [], _, _, hok => call_ev tb_btw_ok (red_run x y z hok)
def tb_red : List (FuncId × Spec) := (73, specI [.v 3] (redK) redV) :: tb_btw
theorem tb_red_ok : TabOk Tryz.prog (tabOf tb_red) := tab_cons tb_btw_ok red_ok
def sumV : List Int → List Bool → A
 | [m, ax, ay, az, n, bx, by', bz], [] => vec (suW m ax n bx) (suW m ay n by') (suW m az n bz)
 | _, _ => int 0
theorem sum_run (m ax ay az n bx by' bz : Int) : (evFun Tryz.prog (tabOf tb_red) modes 100 61 (encA [.i, .v 3, .i, .v 3] [m, ax, ay, az, n, bx, by', bz] []) hp0).run = some (vec (suW m ax n bx) (suW m ay n by') (suW m az n bz), hp0) := by kernel_rfl
theorem sum_ok : SpecOk Tryz.prog 61 (specI [.i, .v 3, .i, .v 3] (fun _ _ => true) sumV) := specI_ok (fun l m => by unfold sumV; split <;> rfl) fun l m hl hm _ => match l, m, hl, hm with
 | [m, ax, ay, az, n, bx, by', bz], [], _, _ => call_ev tb_red_ok (sum_run m ax ay az n bx by' bz)
def tb_sum : List (FuncId × Spec) := (61, specI [.i, .v 3, .i, .v 3] (fun _ _ => true) sumV) :: tb_red
theorem tb_sum_ok : TabOk Tryz.prog (tabOf tb_sum) := tab_cons tb_red_ok sum_ok
abbrev tb_tiny : List (FuncId × Spec) := tb_sum
theorem tb_tiny_ok : TabOk Tryz.prog (tabOf tb_tiny) := tb_sum_ok
end Go.Ev
namespace Go.Ev
open Go
def Red (x y z p q r : Int) : Prop := ∃ g : Int, 0 < g ∧ x = g * p ∧ y = g * q ∧ z = g * r ∧ gcdN p q r = 1
theorem Red.bd {M : Nat} {x y z p q r : Int} (h : Red x y z p q r) (hb : Bd M x y z) : Bd M p q r := by
 obtain ⟨g, hg, rfl, rfl, rfl, _⟩ := h
 have key : ∀ a : Int, (g * a).natAbs ≤ M → a.natAbs ≤ M := fun a ha => by
  rw [Int.natAbs_mul] at ha
  exact Nat.le_trans (Nat.le_mul_of_pos_left _ (by omega)) ha
 exact ⟨key _ hb.1, key _ hb.2.1, key _ hb.2.2⟩
theorem Red.ne {x y z p q r : Int} (h : Red x y z p q r) : ¬ (p = 0 ∧ q = 0 ∧ r = 0) := by
 rintro ⟨rfl, rfl, rfl⟩
 obtain ⟨_, _, _, _, _, h⟩ := h
 simp [gcdN] at h
theorem Red.unique {x y z p q r x' y' z' p' q' r' l m : Int} (h : Red x y z p q r) (h' : Red x' y' z' p' q' r') (hl : 0 < l) (hm : 0 < m) (ex : l * x = m * x') (ey : l * y = m * y') (ez : l * z = m * z') : p = p' ∧ q = q' ∧ r = r' := by
 obtain ⟨g, hg, rfl, rfl, rfl, h1⟩ := h
 obtain ⟨k, hk, rfl, rfl, rfl, h2⟩ := h'
 have a1 : gcdN (l * (g * p)) (l * (g * q)) (l * (g * r)) = l.natAbs * g.natAbs := by rw [gcdN_mul, gcdN_mul, h1, Nat.mul_one]
 have a2 : gcdN (m * (k * p')) (m * (k * q')) (m * (k * r')) = m.natAbs * k.natAbs := by rw [gcdN_mul, gcdN_mul, h2, Nat.mul_one]
 rw [ex, ey, ez, a2] at a1
 rw [← Int.natAbs_mul, ← Int.natAbs_mul] at a1
 have hp' : 0 < m * k := Int.mul_pos hm hk
 have hp : 0 < l * g := Int.mul_pos hl hg
 have e : l * g = m * k := by omega
 have key : ∀ a b : Int, l * (g * a) = m * (k * b) → a = b := fun a b hab => by
  have : (l * g) * a = (l * g) * b := by rw [Int.mul_assoc, hab, e, Int.mul_assoc]
  exact Int.eq_of_mul_eq_mul_left (by omega) this
 exact ⟨key _ _ ex, key _ _ ey, key _ _ ez⟩
theorem Red.line {x y z p q r x' y' z' l m : Int} (h : Red x y z p q r) (hl : 0 < l) (hm : 0 < m) (ex : l * x' = m * x) (ey : l * y' = m * y) (ez : l * z' = m * z) : Red x' y' z' p q r := by
 have hne : ¬ (x' = 0 ∧ y' = 0 ∧ z' = 0) := by
  rintro ⟨rfl, rfl, rfl⟩
  obtain ⟨g, hg, rfl, rfl, rfl, h1⟩ := h
  have key : ∀ a : Int, l * 0 = m * (g * a) → a = 0 := fun a ha => by
   rw [Int.mul_zero] at ha
   rcases Int.mul_eq_zero.1 ha.symm with h | h
   ·omega
   ·rcases Int.mul_eq_zero.1 h with h | h
    ·omega
    ·exact h
  have e1 := key _ ex
  have e2 := key _ ey
  have e3 := key _ ez
  subst e1; subst e2; subst e3
  simp [gcdN] at h1
 have hp := gcdN_pos hne
 obtain ⟨⟨u, hx⟩, ⟨v, hy⟩, ⟨w, hz⟩⟩ := gcdN_dvd x' y' z'
 have h' : Red x' y' z' u v w := by
  refine ⟨(gcdN x' y' z' : Nat), by omega, hx, hy, hz, ?_⟩
  have := gcdN_mul (gcdN x' y' z' : Nat) u v w
  rw [← hx, ← hy, ← hz, Int.natAbs_natCast] at this
  exact Nat.eq_of_mul_eq_mul_left hp (by omega)
 obtain ⟨rfl, rfl, rfl⟩ := h'.unique h hl hm ex ey ez
 exact h'
theorem Red.neg {x y z p q r : Int} (h : Red x y z p q r) : Red (-x) (-y) (-z) (-p) (-q) (-r) := by
 obtain ⟨g, hg, rfl, rfl, rfl, h1⟩ := h
 exact ⟨g, hg, by grind, by grind, by grind, by simpa [gcdN] using h1⟩
theorem gcd3_eq (x y z : Int) : gcd3 x y z = (gcdN x y z : Int) := by
 unfold gcd3 gcdN
 simp only [Int.gcd_zero_left]
 rfl
theorem redA_of {M : Nat} {x y z p q r : Int} (hb : Bd M x y z) (hM : M ≤ 9223372036854775807) (h : Red x y z p q r) : redA x y z x = p ∧ redA x y z y = q ∧ redA x y z z = r := by
 have hpq := h.bd hb
 obtain ⟨g, hg, rfl, rfl, rfl, h1⟩ := h
 have e : gcd3 (g * p) (g * q) (g * r) = g := by
  rw [gcd3_eq, gcdN_mul, h1, Nat.mul_one]; omega
 have hz : (g == 0) = false := by rw [beq_eq_false_iff_ne]; omega
 unfold redA
 rw [e]
 unfold redW
 simp only [hz]
 rw [Int.mul_tdiv_cancel_left _ (by omega), Int.mul_tdiv_cancel_left _ (by omega), Int.mul_tdiv_cancel_left _ (by omega)]
 obtain ⟨b1, b2, b3⟩ := hpq
 exact ⟨w64_id (by omega), w64_id (by omega), w64_id (by omega)⟩
theorem red_ex {x y z : Int} (h : ¬ (x = 0 ∧ y = 0 ∧ z = 0)) : ∃ p q r, Red x y z p q r := by
 have hp := gcdN_pos h
 obtain ⟨⟨p, hx⟩, ⟨q, hy⟩, ⟨r, hz⟩⟩ := gcdN_dvd x y z
 refine ⟨p, q, r, (gcdN x y z : Nat), by omega, hx, hy, hz, ?_⟩
 have := gcdN_mul (gcdN x y z : Nat) p q r
 rw [← hx, ← hy, ← hz, Int.natAbs_natCast] at this
 exact Nat.eq_of_mul_eq_mul_left hp (by omega)
theorem Red.self {x y z p q r : Int} (h : Red x y z p q r) : Red p q r p q r := by
 obtain ⟨g, hg, rfl, rfl, rfl, h1⟩ := h
 exact ⟨1, by omega, by omega, by omega, by omega, h1⟩
theorem rd_of {x y z p q r : Int} (hd : dirErr x y z = 0) (h : Red x y z p q r) : rdW x y z x = p ∧ rdW x y z y = q ∧ rdW x y z z = r := by
 unfold rdW
 rw [hd]
 exact redA_of (dir_zero.1 hd).1 (by decide) h
theorem tin_of {x y z : Int} (h : tinW x y z = true) : Ray x y z ∧ Bd 40 x y z := by
 unfold tinW at h
 rw [Bool.and_eq_true, beq_iff_eq, ← ray_eq, ray_zero, decide_eq_true_eq] at h
 obtain ⟨hr, hm⟩ := h
 refine ⟨hr, ?_⟩
 obtain ⟨h1, h2, h3⟩ := hr.1
 unfold maxW at hm
 rw [w64_id (n := 0 - x) (by omega), w64_id (n := 0 - y) (by omega), w64_id (n := 0 - z) (by omega)] at hm
 have hm' : ¬ (40 < max2 (max2 (max2 (max2 (max2 x (0 - x)) y) (0 - y)) z) (0 - z)) := by omega
 simp only [max2_lt] at hm'
 unfold Bd
 omega
theorem tiny_of {x y z : Int} (hr : Ray x y z) (hb : Bd 40 x y z) : tinW x y z = true := by
 unfold tinW
 rw [Bool.and_eq_true, beq_iff_eq, ← ray_eq, ray_zero, decide_eq_true_eq]
 refine ⟨hr, ?_⟩
 obtain ⟨h1, h2, h3⟩ := hb
 unfold maxW
 rw [w64_id (n := 0 - x) (by omega), w64_id (n := 0 - y) (by omega), w64_id (n := 0 - z) (by omega)]
 have hm' : ¬ (40 < max2 (max2 (max2 (max2 (max2 x (0 - x)) y) (0 - y)) z) (0 - z)) := by
  simp only [max2_lt]; omega
 omega
end Go.Ev
