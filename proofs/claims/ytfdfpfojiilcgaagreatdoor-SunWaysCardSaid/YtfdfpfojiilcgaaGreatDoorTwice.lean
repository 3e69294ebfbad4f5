/- SunTwice returns true at every input. Conditions: the two variables that awake() reads hold what they are laid with. -/
import Derived.Test.YtfdfpfojiilcgaaGreatDoorLaw2
namespace Go.Ev
open Go Go.Proofs

section
variable (ax ay az bx b2 bz : Int)
/-- d = ax ay az, n = bx b2 bz; a = p q r: the reduced d; x y z: the reflected one -/
def twEnd (p q r x y z : Int) : Tree Bool :=
  yes (yes (yes (yes (yes (yes (.leaf true) (e2 (csR ax ay az bx b2 bz (coN ax ay az bx b2 bz)) (csR ax ay az bx b2 bz (coD ax ay az bx b2 bz)) (csR x y z bx b2 bz (coN x y z bx b2 bz)) (csR x y z bx b2 bz (coD x y z bx b2 bz)))) (csS ax ay az bx b2 bz == csS x y z bx b2 bz)) (raysErr x y z bx b2 bz == 0)) (raysErr ax ay az bx b2 bz == 0))
    (e3 (rfW x y z bx b2 bz x bx) (rfW x y z bx b2 bz y b2) (rfW x y z bx b2 bz z bz) p q r)) (rfE x y z bx b2 bz == 0)
def twOpp (p q r x y z : Int) : Bool := e3 x y z (w64 (p * -1)) (w64 (q * -1)) (w64 (r * -1))
def twMid2 (p q r x y z : Int) : Tree Bool := .node (dotW ax ay az bx b2 bz != 0) (no (twEnd ax ay az bx b2 bz p q r x y z) (twOpp p q r x y z)) (twEnd ax ay az bx b2 bz p q r x y z)
def twMid (p q r x y z : Int) : Tree Bool := .node (dotW ax ay az bx b2 bz == 0) (no (twMid2 ax ay az bx b2 bz p q r x y z) (!(twOpp p q r x y z))) (twMid2 ax ay az bx b2 bz p q r x y z)
def twRay (p q r x y z : Int) : Tree Bool := .node (rfE ax ay az bx b2 bz == 4) (.leaf true) (no (no (twMid ax ay az bx b2 bz p q r x y z) (qrayErr x y z != 0)) (rfE ax ay az bx b2 bz != 0))
def twBeg (p q r : Int) : Tree Bool :=
  no (no (no (no (no (no (no (no (.need (in63 p && in63 q) (.need (in63 (gcd1 p q) && in63 r) (no (twRay ax ay az bx b2 bz p q r (rfW ax ay az bx b2 bz ax bx) (rfW ax ay az bx b2 bz ay b2) (rfW ax ay az bx b2 bz az bz)) (gcd1 (gcd1 p q) r != 1)))) (qrayErr p q r != 0))
    (!(e3 (rfW ax ay az ax ay az ax ax) (rfW ax ay az ax ay az ay ay) (rfW ax ay az ax ay az az az) p q r))) (!(e3 (rdW p q r p) (rdW p q r q) (rdW p q r r) p q r))) (!(!(dirsErr p q r ax ay az != 0) && samW p q r ax ay az)))
    (rfE ax ay az ax ay az != 0)) (dirErr p q r != 0)) (dirsErr p q r ax ay az != 0)) (dirErr ax ay az != 0)
def twT : Tree Bool := .node (!(tinW ax ay az)) (.leaf true) (.node (!(tinW bx b2 bz)) (.leaf true) (twBeg ax ay az bx b2 bz (rdW ax ay az ax) (rdW ax ay az ay) (rdW ax ay az az)))
end
theorem twice_tree (e1 e2 : TypeId) (ax ay az bx b2 bz : Int) : (preM Tryz.prog (tabOf tb_tiny) Tryz.f4 [vec ax ay az, vec bx b2 bz] (hpG e1 e2) (false, true)).goes isTrue =
    (twT ax ay az bx b2 bz).goes id := by kernel_rfl
theorem no_true {t : Tree Bool} {b : Bool} (hb : b = false) (ht : t.goes id = true) : (no t b).goes id = true := by subst hb; exact ht
theorem yes_true {t : Tree Bool} {b : Bool} (hb : b = true) (ht : t.goes id = true) : (yes t b).goes id = true := by subst hb; exact ht
theorem bne_zero {a : Int} (h : a = 0) : (a != 0) = false := by subst h; rfl
theorem e3_same (p q r : Int) : e3 p q r p q r = true := by simp [e3]
theorem sq_mul {g D' N D : Int} (h : g * D' = N * D) : N * N * (D * D) = g * g * (D' * D') := by
  have h1 : N * N * (D * D) = (N * D) * (N * D) := by grind
  rw [h1, ← h]; grind
theorem sq_mul2 {g R N d : Int} (h : (g * g) * R = (N * N) * d) : N * N * (d * N) = g * g * (R * N) := by
  have h1 : N * N * (d * N) = ((N * N) * d) * N := by grind
  rw [h1, ← h]; grind
theorem twice_law (ax ay az bx b2 bz : Int) : (twT ax ay az bx b2 bz).goes id = true := by
  unfold twT
  cases h1 : tinW ax ay az with
  | false => rfl
  | true =>
  cases h2 : tinW bx b2 bz with
  | false => rfl
  | true =>
  obtain ⟨hd, hd40⟩ := tin_of h1
  obtain ⟨hn, hn40⟩ := tin_of h2
  have hn0 := (ray_sq hn.1 hn.2).1
  have hd0 := (ray_sq hd.1 hd.2).1
  obtain ⟨p, q, r, hR⟩ := red_ex hd.2
  have dirD : dirErr ax ay az = 0 := dir_zero.2 ⟨hd.1.mono (by decide), hd.2⟩
  obtain ⟨a1, a2, a3⟩ := rd_of dirD hR
  rw [a1, a2, a3]
  have hA : Ray p q r := ⟨hR.bd hd.1, hR.ne⟩
  have dirA : dirErr p q r = 0 := dir_zero.2 ⟨hA.1.mono (by decide), hA.2⟩
  have dirs : dirsErr p q r ax ay az = 0 := by unfold dirsErr; rw [dirA, dirD]; rfl
  have self := (rf_of hd hd (hR.line (l := 1) (m := ax * ax + ay * ay + az * az) (by decide) hd0 (by unfold refl3; grind) (by unfold refl3; grind) (by unfold refl3; grind))).1 hA.1
  obtain ⟨s0, s1, s2, s3⟩ := self
  obtain ⟨t1, t2, t3⟩ := rd_of dirA hR.self
  have hone : gcdN p q r = 1 := by obtain ⟨_, _, _, _, _, h⟩ := hR; exact h
  have in3A := hA.in3
  obtain ⟨i1, i2, i3⟩ := in3_iff in3A
  show (twBeg ax ay az bx b2 bz p q r).goes id = true
  unfold twBeg
  refine no_true (bne_zero dirD) (no_true (bne_zero dirs) (no_true (bne_zero dirA) (no_true (bne_zero s0) (no_true ?_ (no_true ?_ (no_true ?_ (no_true ?_ ?_)))))))
  · rw [dirs, sam_of (M := 4096) (by decide) hR hd.1]; rfl
  · rw [t1, t2, t3, e3_same]; rfl
  · rw [s1, s2, s3, e3_same]; rfl
  · exact bne_zero (by rw [← ray_eq, ray_zero]; exact hA)
  show (Tree.need (in63 p && in63 q) (.need (in63 (gcd1 p q) && in63 r) _)).goes id = true
  rw [i1, i2, i3, gcd1_in i1 i2]
  refine no_true (by rw [gcd1_one hone]; rfl) ?_
  -- the reflected ray
  obtain ⟨x, y, z, hV⟩ := red_ex (refl_ne hd hn)
  obtain ⟨hsmall, hlarge⟩ := rf_of hd hn hV
  unfold twRay
  by_cases hb : Bd 4096 x y z
  rotate_left
  · rw [hlarge hb]; rfl
  obtain ⟨r0, r1, r2, r3⟩ := hsmall hb
  rw [r0, r1, r2, r3]
  have hr : Ray x y z := ⟨hb, hV.ne⟩
  show (no (no (twMid ax ay az bx b2 bz p q r x y z) (qrayErr x y z != 0)) (0 != 0)).goes id = true
  refine no_true rfl (no_true (bne_zero (by rw [← ray_eq, ray_zero]; exact hr)) ?_)
  have hDn := (dot_eq hd.1 hn.1 (by decide)).1
  have hDr := (dot_eq hr.1 hn.1 (by decide)).1
  have gV := hV
  obtain ⟨g, hg, x1, x2, x3, _⟩ := gV
  have gR := hR
  obtain ⟨m, hm, m1, m2, m3, _⟩ := gR
  -- opposite just where the mirror has no cosine
  have hopp : twOpp p q r x y z = (dotW ax ay az bx b2 bz == 0) := by
    have w1 : ∀ n : Int, n.natAbs ≤ 4096 → w64 (n * -1) = -n := fun n h => by rw [w64_id (by omega)]; omega
    unfold twOpp
    rw [w1 p hA.1.1, w1 q hA.1.2.1, w1 r hA.1.2.2, hDn, Bool.eq_iff_iff, beq_iff_eq]
    have he : e3 x y z (-p) (-q) (-r) = true ↔ x = -p ∧ y = -q ∧ z = -r := by simp [e3]
    rw [he]
    constructor
    · rintro ⟨rfl, rfl, rfl⟩
      have k1 : g * -(p * bx + q * b2 + r * bz) = (bx * bx + b2 * b2 + bz * bz) * (ax * bx + ay * b2 + az * bz) := by
        have : g * -(p * bx + q * b2 + r * bz) = (g * -p) * bx + (g * -q) * b2 + (g * -r) * bz := by grind
        rw [this, ← x1, ← x2, ← x3]
        unfold refl3
        grind
      have k2 : m * (p * bx + q * b2 + r * bz) = ax * bx + ay * b2 + az * bz := by rw [m1, m2, m3]; grind
      rw [← k2] at k1 ⊢
      generalize p * bx + q * b2 + r * bz = s at k1 ⊢
      generalize bx * bx + b2 * b2 + bz * bz = N at k1 hn0
      have k3 : (N * m + g) * s = 0 := by grind
      have : 0 < N * m := Int.mul_pos hn0 hm
      rcases Int.mul_eq_zero.1 k3 with h | h
      · omega
      · rw [h, Int.mul_zero]
    · intro h0
      rw [h0] at hV
      exact hV.unique hR.neg (l := 1) (m := bx * bx + b2 * b2 + bz * bz) (by decide) hn0 (by unfold refl3; grind) (by unfold refl3; grind) (by unfold refl3; grind)
  -- the end
  have hend : (twEnd ax ay az bx b2 bz p q r x y z).goes id = true := by
    have kD : g * (x * bx + y * b2 + z * bz) = (bx * bx + b2 * b2 + bz * bz) * (ax * bx + ay * b2 + az * bz) := by
      have : g * (x * bx + y * b2 + z * bz) = (g * x) * bx + (g * y) * b2 + (g * z) * bz := by grind
      rw [this, ← x1, ← x2, ← x3]
      unfold refl3
      grind
    have kR : (g * g) * (x * x + y * y + z * z) = ((bx * bx + b2 * b2 + bz * bz) * (bx * bx + b2 * b2 + bz * bz)) * (ax * ax + ay * ay + az * az) := by
      have : (g * g) * (x * x + y * y + z * z) = (g * x) * (g * x) + (g * y) * (g * y) + (g * z) * (g * z) := by grind
      rw [this, ← x1, ← x2, ← x3]
      unfold refl3
      grind
    have kV : ∀ a b u : Int, refl3 (ax * bx + ay * b2 + az * bz) (bx * bx + b2 * b2 + bz * bz) a b = g * u → g * refl3 (x * bx + y * b2 + z * bz) (bx * bx + b2 * b2 + bz * bz) u b = ((bx * bx + b2 * b2 + bz * bz) * (bx * bx + b2 * b2 + bz * bz)) * a := fun a b u hu => by
      have h1 : g * refl3 (x * bx + y * b2 + z * bz) (bx * bx + b2 * b2 + bz * bz) u b = (2 * (g * (x * bx + y * b2 + z * bz))) * b + (0 - (bx * bx + b2 * b2 + bz * bz)) * (g * u) := by unfold refl3; grind
      rw [h1, ← hu, kD]
      unfold refl3
      grind
    have hNN := Int.mul_pos hn0 hn0
    have hgg := Int.mul_pos hg hg
    obtain ⟨e0, e1, e2, e3⟩ := (rf_of hr hn (hR.line hg hNN (kV _ _ _ x1) (kV _ _ _ x2) (kV _ _ _ x3))).1 hA.1
    have c1 : raysErr ax ay az bx b2 bz = 0 := raysErr_zero.2 ⟨hd, hn⟩
    have c2 : raysErr x y z bx b2 bz = 0 := raysErr_zero.2 ⟨hr, hn⟩
    obtain ⟨n1, d1, q1⟩ := co_K c1
    obtain ⟨n2, d2, q2⟩ := co_K c2
    unfold rtK at q1 q2
    rw [Bool.and_eq_true, Bool.and_eq_true, decide_eq_true_eq] at q1 q2
    have hrt := rt_eq (k := (bx * bx + b2 * b2 + bz * bz) * (bx * bx + b2 * b2 + bz * bz)) (l := g * g) hNN hgg q1.1 q2.1
      (by
        rw [n1, n2]
        exact sq_mul kD)
      (by
        rw [d1, d2]
        exact sq_mul2 kR) q1.2.1 q1.2.2 q2.2.1 q2.2.2
    unfold twEnd
    refine yes_true (by rw [e0]; rfl) (yes_true (by rw [e1, e2, e3, e3_same]) (yes_true (by rw [c1]; rfl) (yes_true (by rw [c2]; rfl) (yes_true ?_ (yes_true ?_ rfl)))))
    · unfold csS
      rw [c1, c2, hDn, hDr, sign_eq hn0 hg kD.symm]
      exact beq_self_eq_true _
    · unfold csR
      rw [c1, c2, hrt.1, hrt.2]
      simp [Ev.e2]
  have hmid2 : dotW ax ay az bx b2 bz ≠ 0 → (twMid2 ax ay az bx b2 bz p q r x y z).goes id = true := fun h0 => by
    unfold twMid2
    have : (dotW ax ay az bx b2 bz != 0) = true := by simpa using h0
    rw [this]
    exact no_true (by rw [hopp]; simpa using h0) hend
  unfold twMid
  by_cases h0 : dotW ax ay az bx b2 bz = 0
  · rw [hopp, h0]
    refine no_true rfl ?_
    unfold twMid2
    rw [h0]
    exact hend
  · have : (dotW ax ay az bx b2 bz == 0) = false := by simpa using h0
    rw [this]
    exact hmid2 h0
theorem twice_call (e1 e2 : TypeId) (ax ay az bx b2 bz : Int) : CallAt Tryz.prog 4 [vec ax ay az, vec bx b2 bz] (hpG e1 e2) (boo true) (hpG e1 e2) :=
  call_goes tb_tiny_ok Tryz.func4 (by kernel_rfl) (false, true) (by kernel_rfl) (by rw [twice_tree]; exact twice_law ax ay az bx b2 bz)
end Go.Ev
