/- Plain laws of whole vectors and normals, and the tree of SunBisects. Conditions: as the laws say. -/
import Derived.Test.YtfdfpfojiilcgaaGreatDoorTwice
import Derived.Test.YtfdfpfojiilcgaaGreatDoorVec5
namespace Go.Ev
open Go

def bi (m : Int) : Int := (w64 m).tmod 4
def bS (a b c d : Int) : Int := w64 (w64 (w64 (w64 (0 + w64 (a * a)) + w64 (b * b)) + w64 (c * c)) + w64 (d * d))
def wX (a b c d : Int) : Int := only0 (whE a b c d) (whX a b c d)
def wY (a b c d : Int) : Int := only0 (whE a b c d) (whY a b c d)
def wZ (a b c d : Int) : Int := only0 (whE a b c d) (whZ a b c d)
section
variable (ax ay az bx b2 bz : Int)
/-- v0 = ax ay az, v1 = bx b2 bz; p q r and u v w: these, reduced; x y z: the normal -/
def biEnd (p q r u v w x y z : Int) : Tree Bool :=
  yes (yes (yes (yes (yes (yes (yes (yes (yes (.leaf true) (e2 (csR ax ay az x y z (coN ax ay az x y z)) (csR ax ay az x y z (coD ax ay az x y z)) (csR bx b2 bz x y z (coN bx b2 bz x y z)) (csR bx b2 bz x y z (coD bx b2 bz x y z)))) (csS bx b2 bz x y z == 1)) (csS ax ay az x y z == 1)) (raysErr bx b2 bz x y z == 0)) (raysErr ax ay az x y z == 0))
    (e3 (rfW bx b2 bz x y z bx x) (rfW bx b2 bz x y z b2 y) (rfW bx b2 bz x y z bz z) p q r)) (e3 (rfW ax ay az x y z ax x) (rfW ax ay az x y z ay y) (rfW ax ay az x y z az z) u v w)) (rfE bx b2 bz x y z == 0)) (rfE ax ay az x y z == 0)
def biNorm (p q r u v w x y z : Int) : Tree Bool :=
  no (no (no (no (no (no (biEnd ax ay az bx b2 bz p q r u v w x y z) (qrayErr x y z != 0)) (!(e3 (nmR p q r u v w p u) (nmR p q r u v w q v) (nmR p q r u v w r w) x y z))) (!(e3 (nmR bx b2 bz ax ay az bx ax) (nmR bx b2 bz ax ay az b2 ay) (nmR bx b2 bz ax ay az bz az) x y z)))
    (nmE p q r u v w != 0)) (nmE bx b2 bz ax ay az != 0)) (nmE ax ay az bx b2 bz != 0)
def biOpp (p q r u v w : Int) : Tree Bool := .node (e3 u v w (w64 (p * -1)) (w64 (q * -1)) (w64 (r * -1))) (yes (yes (yes (.leaf true) (nmE p q r u v w == 6)) (nmE bx b2 bz ax ay az == 6)) (nmE ax ay az bx b2 bz == 6))
  (biNorm ax ay az bx b2 bz p q r u v w (nmR ax ay az bx b2 bz ax bx) (nmR ax ay az bx b2 bz ay b2) (nmR ax ay az bx b2 bz az bz))
def biTwo (p q r u v w : Int) : Tree Bool := no (no (no (no (biOpp ax ay az bx b2 bz p q r u v w) (!(e3 (nmR ax ay az ax ay az ax ax) (nmR ax ay az ax ay az ay ay) (nmR ax ay az ax ay az az az) p q r))) (dirErr bx b2 bz != 0)) (dirErr ax ay az != 0)) (nmE ax ay az ax ay az != 0)
end
def biOne (t : Tree Bool) (a b c d x y z : Int) : Tree Bool := no (no (no (no t (lenN x y z != bS a b c d)) (lenE x y z != 0)) (!(tinW x y z))) (whE a b c d != 0)
def biVec (ax ay az bx b2 bz : Int) : Tree Bool := biTwo ax ay az bx b2 bz (rdW ax ay az ax) (rdW ax ay az ay) (rdW ax ay az az) (rdW bx b2 bz bx) (rdW bx b2 bz b2) (rdW bx b2 bz bz)
def biT (a b c d p q r s : Int) : Tree Bool := .node (bS a b c d == 0) (.leaf true) (.node (bS p q r s == 0) (.leaf true)
  (biOne (biOne (biVec (wX a b c d) (wY a b c d) (wZ a b c d) (wX p q r s) (wY p q r s) (wZ p q r s)) p q r s (wX p q r s) (wY p q r s) (wZ p q r s)) a b c d (wX a b c d) (wY a b c d) (wZ a b c d)))

/-! ### Four small integers -/
theorem bi_bd (m : Int) : (bi m).natAbs ≤ 3 := by
  unfold bi
  have h := Int.natAbs_tmod (w64 m) 4
  have h2 : (w64 m).natAbs % (4 : Int).natAbs < 4 := Nat.mod_lt _ (by decide)
  omega
theorem mul9 {a b : Int} (ha : a.natAbs ≤ 3) (hb : b.natAbs ≤ 3) : (a * b).natAbs ≤ 9 := mul_bd ha hb
section
variable {a b c d : Int} (ha : a.natAbs ≤ 3) (hb : b.natAbs ≤ 3) (hc : c.natAbs ≤ 3) (hd : d.natAbs ≤ 3)
include ha hb hc hd
theorem bS_eq : bS a b c d = a * a + b * b + c * c + d * d ∧ 0 ≤ a * a + b * b + c * c + d * d ∧ a * a + b * b + c * c + d * d ≤ 36 := by
  have h1 := mul9 ha ha
  have h2 := mul9 hb hb
  have h3 := mul9 hc hc
  have h4 := mul9 hd hd
  have g1 := sq_nonneg a
  have g2 := sq_nonneg b
  have g3 := sq_nonneg c
  have g4 := sq_nonneg d
  unfold bS
  generalize a * a = x at *
  generalize b * b = y at *
  generalize c * c = z at *
  generalize d * d = t at *
  rw [w64_id (n := x) (by omega), w64_id (n := y) (by omega), w64_id (n := z) (by omega), w64_id (n := t) (by omega), w64_id (n := 0 + x) (by omega), w64_id (n := 0 + x + y) (by omega), w64_id (n := 0 + x + y + z) (by omega), w64_id (n := 0 + x + y + z + t) (by omega)]
  exact ⟨by omega, by omega, by omega⟩
theorem wh_eq (h0 : bS a b c d ≠ 0) : whE a b c d = 0 ∧ wX a b c d = a * a + b * b - c * c - d * d ∧ wY a b c d = 2 * (a * d + b * c) ∧ wZ a b c d = 2 * (b * d - a * c) ∧ Bd 36 (wX a b c d) (wY a b c d) (wZ a b c d) := by
  have e0 : whE a b c d = 0 := by
    unfold whE
    rw [firstZ_zero]
    simp only [List.mem_cons, List.not_mem_nil, or_false, forall_eq_or_imp, forall_eq, firstZ_zero, wW_zero, errIf_zero (show (6 : Int) ≠ 0 by decide)]
    refine ⟨⟨by omega, by omega, by omega, by omega⟩, ?_⟩
    rw [Bool.eq_false_iff]
    intro hz
    have : a = 0 ∧ b = 0 ∧ c = 0 ∧ d = 0 := by simpa [z4] using hz
    obtain ⟨rfl, rfl, rfl, rfl⟩ := this
    exact h0 (by decide)
  have h1 := mul9 ha ha
  have h2 := mul9 hb hb
  have h3 := mul9 hc hc
  have h4 := mul9 hd hd
  have h5 := mul9 ha hd
  have h6 := mul9 hb hc
  have h7 := mul9 hb hd
  have h8 := mul9 ha hc
  have g1 := sq_nonneg a
  have g2 := sq_nonneg b
  have g3 := sq_nonneg c
  have g4 := sq_nonneg d
  refine ⟨e0, ?_⟩
  unfold wX wY wZ
  rw [e0]
  simp only [only0, show ((0 : Int) != 0) = false from rfl]
  unfold whX whY whZ
  generalize a * a = x1 at *
  generalize b * b = x2 at *
  generalize c * c = x3 at *
  generalize d * d = x4 at *
  generalize a * d = x5 at *
  generalize b * c = x6 at *
  generalize b * d = x7 at *
  generalize a * c = x8 at *
  rw [w64_id (n := x1) (by omega), w64_id (n := x2) (by omega), w64_id (n := x3) (by omega), w64_id (n := x4) (by omega), w64_id (n := x5) (by omega), w64_id (n := x6) (by omega), w64_id (n := x7) (by omega), w64_id (n := x8) (by omega),
    w64_id (n := x1 + x2) (by omega), w64_id (n := x1 + x2 - x3) (by omega), w64_id (n := x1 + x2 - x3 - x4) (by omega), w64_id (n := x5 + x6) (by omega), w64_id (n := 2 * (x5 + x6)) (by omega), w64_id (n := x7 - x8) (by omega), w64_id (n := 2 * (x7 - x8)) (by omega)]
  exact ⟨rfl, rfl, rfl, by omega, by omega, by omega⟩
end
/-- a whole vector and its length -/
structure Wh (x y z S : Int) : Prop where
  pos : 0 < S
  le : S ≤ 4096
  bd : Bd 4096 x y z
  sq : x * x + y * y + z * z = S * S
theorem Wh.ray {x y z S : Int} (h : Wh x y z S) : Ray x y z := ⟨h.bd, by
  rintro ⟨rfl, rfl, rfl⟩
  have h1 := h.sq
  have := Int.mul_pos h.pos h.pos
  omega⟩
theorem Wh.len {x y z S : Int} (h : Wh x y z S) : lenW x y z = S ∧ isLen x y z = true := by
  have hd := (dot_eq h.bd h.bd (by decide)).1
  have hp := h.pos
  have hl := h.le
  have e : lenW x y z = S := by
    unfold lenW
    rw [hd, h.sq, isq_sq (by omega) (by omega)]
  refine ⟨e, ?_⟩
  have hs : S.natAbs ≤ 4096 := by omega
  have := mul_bd hs hs
  unfold isLen
  rw [e, hd, h.sq, w64_id (by omega)]
  exact beq_self_eq_true _
theorem wh_of {a b c d : Int} (ha : a.natAbs ≤ 3) (hb : b.natAbs ≤ 3) (hc : c.natAbs ≤ 3) (hd : d.natAbs ≤ 3) (h0 : bS a b c d ≠ 0) : Wh (wX a b c d) (wY a b c d) (wZ a b c d) (bS a b c d) ∧ bS a b c d ≤ 36 := by
  obtain ⟨s1, s2, s3⟩ := bS_eq ha hb hc hd
  obtain ⟨_, x, y, z, hB⟩ := wh_eq ha hb hc hd h0
  refine ⟨⟨by omega, by omega, hB.mono (by decide), ?_⟩, by omega⟩
  rw [x, y, z, s1]
  grind
theorem biOne_ok {a b c d : Int} (ha : a.natAbs ≤ 3) (hb : b.natAbs ≤ 3) (hc : c.natAbs ≤ 3) (hd : d.natAbs ≤ 3) (h0 : bS a b c d ≠ 0) {t : Tree Bool} (ht : t.goes id = true) : (biOne t a b c d (wX a b c d) (wY a b c d) (wZ a b c d)).goes id = true := by
  obtain ⟨e0, _, _, _, hB⟩ := wh_eq ha hb hc hd h0
  obtain ⟨hW, _⟩ := wh_of ha hb hc hd h0
  obtain ⟨l1, l2⟩ := hW.len
  have hr : rayErr (wX a b c d) (wY a b c d) (wZ a b c d) = 0 := ray_zero.2 hW.ray
  have le : lenE (wX a b c d) (wY a b c d) (wZ a b c d) = 0 := by unfold lenE; rw [hr, l2]; rfl
  unfold biOne
  refine no_true (bne_zero e0) (no_true ?_ (no_true (bne_zero le) (no_true ?_ ht)))
  · rw [tiny_of hW.ray (hB.mono (by decide))]; rfl
  · unfold lenN
    rw [le, l1]
    simp [only0]

/-! ### Normals -/
theorem qred_of {x y z p q r : Int} (hb : Bd 1048576 x y z) (h : Red x y z p q r) : qred x y z x = p ∧ qred x y z y = q ∧ qred x y z z = r := by
  have hpq := h.bd hb
  have hn := h.ne
  have hne : ¬ (x = 0 ∧ y = 0 ∧ z = 0) := by
    rintro ⟨rfl, rfl, rfl⟩
    obtain ⟨g, hg, e1, e2, e3, _⟩ := h
    have key : ∀ a : Int, 0 = g * a → a = 0 := fun a ha => by
      rcases Int.mul_eq_zero.1 ha.symm with h | h
      · omega
      · exact h
    exact hn ⟨key _ e1, key _ e2, key _ e3⟩
  have hq := qd_eq hne
  obtain ⟨g, hg, rfl, rfl, rfl, h1⟩ := h
  rw [gcdN_mul, h1, Nat.mul_one] at hq
  have e : qd (g * p) (g * q) (g * r) = g := by rw [hq]; omega
  unfold qred
  rw [e, Int.mul_tdiv_cancel_left _ (by omega), Int.mul_tdiv_cancel_left _ (by omega), Int.mul_tdiv_cancel_left _ (by omega)]
  obtain ⟨b1, b2, b3⟩ := hpq
  exact ⟨w64_id (by omega), w64_id (by omega), w64_id (by omega)⟩
theorem opp_red {ax ay az bx b2 bz p q r u v w : Int} (ha : Ray ax ay az) (hb : Ray bx b2 bz) (h : Red ax ay az p q r) (h' : Red bx b2 bz u v w) : oppW ax ay az bx b2 bz = true ↔ (u = -p ∧ v = -q ∧ w = -r) := by
  have hA := ha.1.mono (show 4096 ≤ 1048576 by decide)
  have hB := hb.1.mono (show 4096 ≤ 1048576 by decide)
  rw [opp_eq ha.2 hb.2 hA hB]
  obtain ⟨a1, a2, a3⟩ := qred_of hA h
  obtain ⟨b1, b2', b3⟩ := qred_of hB h'
  obtain ⟨u1, u2, u3⟩ := h'.bd hB
  unfold qopp
  rw [a1, a2, a3, b1, b2', b3, e3_iff, w64_id (n := u * -1) (by omega), w64_id (n := v * -1) (by omega), w64_id (n := w * -1) (by omega)]
  omega
theorem nm_opp {ax ay az bx b2 bz S T : Int} (ha : Wh ax ay az S) (hb : Wh bx b2 bz T) (h : oppW ax ay az bx b2 bz = true) : nmE ax ay az bx b2 bz = 6 := by
  unfold nmE
  rw [raysErr_zero.2 ⟨ha.ray, hb.ray⟩]
  unfold nmE0
  rw [ha.len.2, hb.len.2, h]
  rfl
theorem nm_of {ax ay az bx b2 bz S T x y z : Int} (ha : Wh ax ay az S) (hb : Wh bx b2 bz T) (h : oppW ax ay az bx b2 bz = false) (hr : Red (T * ax + S * bx) (T * ay + S * b2) (T * az + S * bz) x y z) (hxyz : Bd 4096 x y z) :
    nmE ax ay az bx b2 bz = 0 ∧ nmR ax ay az bx b2 bz ax bx = x ∧ nmR ax ay az bx b2 bz ay b2 = y ∧ nmR ax ay az bx b2 bz az bz = z := by
  have f := fun {a b : Int} => nm_eq (ax := ax) (ay := ay) (az := az) (bx := bx) (b2 := b2) (bz := bz) (M := 4096) (N := 4096) (a := a) (b := b) (by decide) (by decide)
  have f1 := f ha.bd.1 hb.bd.1
  have f2 := f ha.bd.2.1 hb.bd.2.1
  have f3 := f ha.bd.2.2 hb.bd.2.2
  rw [ha.len.1, hb.len.1] at f1 f2 f3
  have hs := (small_of (M := 65536 * 4096 + 65536 * 4096) ⟨f1.2, f2.2, f3.2⟩ (by decide) (p := x) (q := y) (r := z) (by rw [f1.1, f2.1, f3.1]; exact hr)).1 hxyz
  unfold nmE nmR
  rw [raysErr_zero.2 ⟨ha.ray, hb.ray⟩]
  unfold nmE0
  rw [ha.len.2, hb.len.2, h]
  exact hs
theorem dvd_of_sq {g S n : Int} (h : (g * g) * n = S * S) : g ∣ S := by
  have h1 : g.natAbs ^ 2 ∣ S.natAbs ^ 2 := by
    have e : ((g * g) * n).natAbs = (S * S).natAbs := by rw [h]
    rw [Int.natAbs_mul, Int.natAbs_mul, Int.natAbs_mul] at e
    rw [Nat.pow_two, Nat.pow_two, ← e]
    exact Nat.dvd_mul_right _ _
  have h2 : g.natAbs ∣ S.natAbs := (Nat.pow_dvd_pow_iff (by decide)).1 h1
  exact Int.natAbs_dvd_natAbs.1 h2
/-- the reduced vector of a whole one is whole -/
theorem Wh.red {x y z S p q r : Int} (h : Wh x y z S) (hr : Red x y z p q r) : ∃ g S', 0 < g ∧ x = g * p ∧ y = g * q ∧ z = g * r ∧ S = g * S' ∧ Wh p q r S' := by
  have hb := hr.bd h.bd
  obtain ⟨g, hg, rfl, rfl, rfl, _⟩ := hr
  have hsq : (g * g) * (p * p + q * q + r * r) = S * S := by rw [← h.sq]; grind
  obtain ⟨S', rfl⟩ := dvd_of_sq hsq
  have hp := h.pos
  have hl := h.le
  have hS : 0 < S' := by
    rcases Int.lt_or_le 0 S' with h1 | h1
    · exact h1
    · have := Int.mul_nonpos_of_nonneg_of_nonpos (Int.le_of_lt hg) h1; omega
  have hgg := Int.mul_pos hg hg
  refine ⟨g, S', hg, rfl, rfl, rfl, rfl, hS, ?_, hb, ?_⟩
  · have : 1 * S' ≤ g * S' := Int.mul_le_mul_of_nonneg_right hg (by omega)
    omega
  · have : (g * g) * (p * p + q * q + r * r) = (g * g) * (S' * S') := by rw [hsq]; grind
    exact Int.eq_of_mul_eq_mul_left (by omega) this
theorem refl_half {k dn nn K S T a b x : Int} (h1 : k * dn = S * K) (h2 : (k * k) * nn = 2 * (S * T * K)) (h3 : T * a + S * b = k * x) : (k * k) * refl3 dn nn a x = (2 * (S * S) * K) * b := by
  have : (k * k) * refl3 dn nn a x = 2 * (k * dn) * (k * x) - ((k * k) * nn) * a := by unfold refl3; grind
  rw [this, h1, h2, ← h3]
  grind
theorem dot_half {k S T ax ay az bx b2 bz x y z : Int} (hs : ax * ax + ay * ay + az * az = S * S) (x1 : T * ax + S * bx = k * x) (x2 : T * ay + S * b2 = k * y) (x3 : T * az + S * bz = k * z) : k * (ax * x + ay * y + az * z) = S * (S * T + (ax * bx + ay * b2 + az * bz)) := by
  have : k * (ax * x + ay * y + az * z) = ax * (k * x) + ay * (k * y) + az * (k * z) := by grind
  rw [this, ← x1, ← x2, ← x3]
  have : ax * (T * ax + S * bx) + ay * (T * ay + S * b2) + az * (T * az + S * bz) = T * (ax * ax + ay * ay + az * az) + S * (ax * bx + ay * b2 + az * bz) := by grind
  rw [this, hs]; grind
theorem sq_half {k S T ax ay az bx b2 bz x y z : Int} (hs : ax * ax + ay * ay + az * az = S * S) (ht : bx * bx + b2 * b2 + bz * bz = T * T) (x1 : T * ax + S * bx = k * x) (x2 : T * ay + S * b2 = k * y) (x3 : T * az + S * bz = k * z) : (k * k) * (x * x + y * y + z * z) = 2 * (S * T * (S * T + (ax * bx + ay * b2 + az * bz))) := by
  have : (k * k) * (x * x + y * y + z * z) = (k * x) * (k * x) + (k * y) * (k * y) + (k * z) * (k * z) := by grind
  rw [this, ← x1, ← x2, ← x3]
  have : (T * ax + S * bx) * (T * ax + S * bx) + (T * ay + S * b2) * (T * ay + S * b2) + (T * az + S * bz) * (T * az + S * bz) = (T * T) * (ax * ax + ay * ay + az * az) + (2 * (S * T)) * (ax * bx + ay * b2 + az * bz) + (S * S) * (bx * bx + b2 * b2 + bz * bz) := by grind
  rw [this, hs, ht]; grind
theorem pos_of_mul {a b : Int} (ha : 0 < a) (h : 0 < a * b) : 0 < b := by
  rcases Int.lt_or_le 0 b with h1 | h1
  · exact h1
  · have := Int.mul_nonpos_of_nonneg_of_nonpos (Int.le_of_lt ha) h1; omega
end Go.Ev
