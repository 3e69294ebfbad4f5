/- SunDays, plain: what holds at a tick of a sky and at the same tick of the later sky. Conditions: as each says. -/
import Derived.Test.YtkalcencblhlgaaGreatDoorDy5
namespace Go.Ev
open Go Go.Proofs

theorem farErr_zero {x y z : Int} (h : Bd 1048576 x y z) : farErr x y z 1048576 = 0 := by
  unfold farErr
  rw [firstZ_zero]
  have e : w64 (0 - 1048576) = -1048576 := by decide
  obtain ⟨h1, h2, h3⟩ := h
  simp only [List.mem_cons, List.not_mem_nil, or_false, forall_eq_or_imp, forall_eq, e, wW_zero]
  omega
theorem z3_no {x y z : Int} (h : ¬ (x = 0 ∧ y = 0 ∧ z = 0)) : z3 x y z = false := by
  rw [← Bool.not_eq_true, z3_iff]
  exact h
theorem noneE_zero {x y z : Int} (h : ¬ (x = 0 ∧ y = 0 ∧ z = 0)) : noneE x y z = 0 := by unfold noneE; rw [z3_no h]; rfl
theorem rsB_eq (x y z : Int) : rsB x y z = !decide (z ≤ 0) := by
  unfold rsB
  by_cases h : z ≤ 0
  · rw [decide_eq_true h, decide_eq_false (show ¬ z > 0 by omega), Bool.and_false]; rfl
  · rw [decide_eq_false h, decide_eq_true (show z > 0 by omega), noneE_zero (by omega)]; rfl
section
variable {n : Nat} {g0 g1 g2 g3 : Nat → Int} (hs : SkyOk n g0 g1 g2 g3)
include hs
theorem lat_eq {b : Int} (hb : 0 ≤ b ∧ b < 65536) {i : Nat} (hi : i < n) : latT g0 b i = g0 i + b := by
  have := hs.tick i hi
  unfold latT
  rw [wrap_id (n := b) (by omega) (by omega), wrap_id (by omega) (by omega)]
theorem lat_tick {b t : Int} (hb : 0 ≤ b ∧ b < 65536) (h0 : g0 0 ≤ t) (h1 : t ≤ g0 (n - 1)) : IntKind.i64.wrap (t + IntKind.i64.wrap b) = t + b := by
  have := hs.two
  have a := hs.tick 0 (by omega)
  have c := hs.tick (n - 1) (by omega)
  rw [wrap_id (n := b) (by omega) (by omega), wrap_id (by omega) (by omega)]
theorem at_later {b t : Int} (hb : 0 ≤ b ∧ b < 65536) (h0 : g0 0 ≤ t) (h1 : t ≤ g0 (n - 1)) (ga : Nat → Int) : atV n (latT g0 b) ga (t + b) = atV n g0 ga t := by
  have hsh : atI (latT g0 b) (t + b) n 0 = atI g0 t n 0 := atI_shift fun j _ hj => lat_eq hs hb (by omega)
  obtain ⟨a1, _⟩ := at_where hs h0 h1
  unfold atV
  rw [hsh]
  generalize atI g0 t n 0 = i at *
  unfold atP
  rw [lat_eq hs hb a1, lat_eq hs hb (show i - 1 < n by omega)]
  have e1 : (g0 i + b == t + b) = (g0 i == t) := by
    by_cases h : g0 i = t
    · subst h; simp
    · have h2 : ¬ g0 i + b = t + b := by omega
      rw [show (g0 i == t) = false by simpa using h, show (g0 i + b == t + b) = false by simpa using h2]
  rw [e1, show g0 i + b - (t + b) = g0 i - t by omega, show t + b - (g0 (i - 1) + b) = t - g0 (i - 1) by omega]
theorem sv_later {b t : Int} (hb : 0 ≤ b ∧ b < 65536) (h0 : g0 0 ≤ t) (h1 : t ≤ g0 (n - 1)) (ga : Nat → Int) : svR n (latT g0 b) g1 g2 g3 ga (t + b) = svR n g0 g1 g2 g3 ga t := by
  unfold svR
  rw [at_later hs hb h0 h1, at_later hs hb h0 h1, at_later hs hb h0 h1, at_later hs hb h0 h1]
/-- a told tick -/
theorem told_v {k : Nat} (hk : k < n) (ga : Nat → Int) : atV n g0 ga (g0 k) = ga k := by
  unfold atV
  rw [at_told hs hk]
  unfold atP
  rw [show (g0 k == g0 k) = true by simp]
theorem told_sv {k : Nat} (hk : k < n) (ga : Nat → Int) : svR n g0 g1 g2 g3 ga (g0 k) = rdW (g1 k) (g2 k) (g3 k) (ga k) := by
  have hr := hs.ray k hk
  have hd : dirErr (g1 k) (g2 k) (g3 k) = 0 := dir_zero.2 ⟨hr.1.mono (by decide), hr.2⟩
  unfold svR rdW
  rw [told_v hs hk, told_v hs hk, told_v hs hk, told_v hs hk, hd]
  rfl
/-- between two told ticks -/
theorem mid_v {k : Nat} {t : Int} (hk : k + 1 < n) (h1 : g0 k < t) (h2 : t < g0 (k + 1)) (ga : Nat → Int) : atV n g0 ga t = (g0 (k + 1) - t) * ga k + (t - g0 k) * ga (k + 1) := by
  unfold atV
  rw [at_mid hs hk h1 (by omega)]
  unfold atP
  rw [show (g0 (k + 1) == t) = false by simp only [beq_eq_false_iff_ne]; omega]
  rfl
end
/-- a vector that is reduced: none, or one of the same direction -/
theorem red_cases {M : Nat} {x y z : Int} (hb : Bd M x y z) (hM : M ≤ 9223372036854775807) : (x = 0 ∧ y = 0 ∧ z = 0 ∧ redA x y z x = 0 ∧ redA x y z y = 0 ∧ redA x y z z = 0) ∨ Red x y z (redA x y z x) (redA x y z y) (redA x y z z) := by
  by_cases h : x = 0 ∧ y = 0 ∧ z = 0
  · obtain ⟨rfl, rfl, rfl⟩ := h
    exact .inl ⟨rfl, rfl, rfl, by decide, by decide, by decide⟩
  · obtain ⟨p, q, r, hr⟩ := red_ex h
    obtain ⟨e1, e2, e3⟩ := redA_of hb hM hr
    rw [e1, e2, e3]
    exact .inr hr
theorem Red.sign {x y z p q r : Int} (h : Red x y z p q r) : (0 < r ↔ 0 < z) := by
  obtain ⟨g, hg, _, _, rfl, _⟩ := h
  constructor
  · intro h; exact Int.mul_pos hg h
  · intro h
    rcases Int.lt_or_le 0 r with h1 | h1
    · exact h1
    · have := Int.mul_nonpos_of_nonneg_of_nonpos (Int.le_of_lt hg) h1
      omega
/-- what is asked at both ends -/
structure EndOk (x y z nn p1 p2 p3 : Int) : Prop where
  low : nn ≥ 0 → 0 ≤ dotW x y z p1 p2 p3
  none : nn > 0 → dotW x y z p1 p2 p3 ≠ 0
  ok : nn ≥ 0 → lowO [IntKind.i64.wrap (dotW x y z p1 p2 p3 * dotW x y z p1 p2 p3), dotW x y z x y z] [] = true ∧ lowO [IntKind.i64.wrap (nn * nn), dotW p1 p2 p3 p1 p2 p3] [] = true ∧ ¬ cmL x y z nn p1 p2 p3 < cmR x y z nn p1 p2 p3
theorem end_of {x y e ax ay az bx b2 bz g p q r : Int} (hx : 0 < x) (hy : 0 < y) (ha : ax * ax + ay * ay + az * az = e) (hb : bx * bx + b2 * b2 + bz * bz = e) (hg : 0 < g)
    (h1 : x * ax + y * bx = g * p) (h2 : x * ay + y * b2 = g * q) (h3 : x * az + y * bz = g * r) (hA : Bd 40 ax ay az) (hB : Bd 40 bx b2 bz) (hv : Bd 16000 p q r) (h0 : ¬ (p = 0 ∧ q = 0 ∧ r = 0)) (ha0 : ¬ (ax = 0 ∧ ay = 0 ∧ az = 0))
    {nn : Int} (hn : nn = ax * bx + ay * b2 + az * bz) : EndOk p q r nn ax ay az := by
  obtain ⟨d1, d2⟩ := dot_eq hv hA (by decide)
  obtain ⟨w1, w2⟩ := dot_eq hv hv (by decide)
  obtain ⟨e1, e2⟩ := dot_eq hA hA (by decide)
  obtain ⟨n1, n2⟩ := dot_eq hA hB (by decide)
  have wp := nsq_pos h0
  have ep := nsq_pos ha0
  rw [← hn] at n2
  have key : ∀ h : nn ≥ 0, g * (p * ax + q * ay + r * az) = x * e + y * nn ∧ nn * nn * (p * p + q * q + r * r) ≤ (p * ax + q * ay + r * az) * (p * ax + q * ay + r * az) * e := fun h => by
    have := mid_cos hx hy ha hb hg h1 h2 h3 (by rw [← hn]; exact h)
    rw [← hn] at this
    exact this
  rw [ha] at ep
  rw [ha] at e1 e2
  have dpos : nn ≥ 0 → 0 < p * ax + q * ay + r * az := fun h => by
    obtain ⟨k1, _⟩ := key h
    have hp : 0 < x * e := Int.mul_pos hx ep
    have hq : 0 ≤ y * nn := Int.mul_nonneg (Int.le_of_lt hy) h
    rcases Int.lt_or_le 0 (p * ax + q * ay + r * az) with h4 | h4
    · exact h4
    · have := Int.mul_nonpos_of_nonneg_of_nonpos (Int.le_of_lt hg) h4
      omega
  refine ⟨fun h => ?_, fun h => ?_, fun h => ?_⟩
  · rw [d1]; have := dpos h; omega
  · rw [d1]; have := dpos (by omega); omega
  · obtain ⟨_, k2⟩ := key h
    have dd := mul_bd d2 d2
    have nn2 := mul_bd n2 n2
    have ndd := Int.mul_nonneg (Int.le_of_lt (dpos h)) (Int.le_of_lt (dpos h))
    unfold cmL cmR lowO lowK
    rw [d1, w1, e1]
    generalize p * ax + q * ay + r * az = d at *
    generalize p * p + q * q + r * r = w at *
    have wd : IntKind.i64.wrap (d * d) = d * d := wrap_id (by omega) (by omega)
    have wn : IntKind.i64.wrap (nn * nn) = nn * nn := wrap_id (by omega) (by omega)
    rw [wd, wn]
    refine ⟨?_, ?_, ?_⟩
    · simp only [Bool.and_eq_true, decide_eq_true_eq, in63_iff]; omega
    · simp only [Bool.and_eq_true, decide_eq_true_eq, in63_iff]; omega
    · exact cmp_ok wp ep (by omega) (by omega) (by omega) (by omega) k2
end Go.Ev
