/- The law of SunBisects, with no program in sight. Conditions: none. -/
import Derived.Test.YtfdfpfojiilcgaaGreatDoorLaw3
namespace Go.Ev
open Go

theorem neg_e3 {p q r u v w : Int} (h : Bd 4096 p q r) : e3 u v w (w64 (p * -1)) (w64 (q * -1)) (w64 (r * -1)) = true ↔ (u = -p ∧ v = -q ∧ w = -r) := by
  obtain ⟨h1, h2, h3⟩ := h
  rw [e3_iff, w64_id (n := p * -1) (by omega), w64_id (n := q * -1) (by omega), w64_id (n := r * -1) (by omega)]
  omega
theorem biTwo_ok {ax ay az bx b2 bz p q r u v w S T : Int} (hS : Wh ax ay az S) (hT : Wh bx b2 bz T) (sS : S ≤ 36) (sT : T ≤ 36) (dS : Bd 36 ax ay az) (dT : Bd 36 bx b2 bz) (hR : Red ax ay az p q r) (hR' : Red bx b2 bz u v w) :
    (biTwo ax ay az bx b2 bz p q r u v w).goes id = true := by
  have rS := hS.ray
  have rT := hT.ray
  have pS := hS.pos
  have pT := hT.pos
  obtain ⟨g, S', hg, g1, g2, g3, gS, wA⟩ := hS.red hR
  obtain ⟨k, T', hk, k1, k2, k3, kT, wB⟩ := hT.red hR'
  have rA := wA.ray
  have rB := wB.ray
  have nA := hR.ne
  have dirA : dirErr ax ay az = 0 := dir_zero.2 ⟨rS.1.mono (by decide), rS.2⟩
  have dirB : dirErr bx b2 bz = 0 := dir_zero.2 ⟨rT.1.mono (by decide), rT.2⟩
  have o00 : oppW ax ay az ax ay az = false := by
    rw [Bool.eq_false_iff]
    intro h
    have := (opp_red rS rS hR hR).1 h
    exact nA ⟨by omega, by omega, by omega⟩
  obtain ⟨s0, s1, s2, s3⟩ := nm_of hS hS o00 (hR.line (l := 1) (m := 2 * S) (by decide) (by omega) (by grind) (by grind) (by grind)) rA.1
  unfold biTwo
  refine no_true (bne_zero s0) (no_true (bne_zero dirA) (no_true (bne_zero dirB) (no_true ?_ ?_)))
  · rw [s1, s2, s3, e3_same]; rfl
  unfold biOpp
  by_cases ho : u = -p ∧ v = -q ∧ w = -r
  · rw [(neg_e3 rA.1).2 ho]
    have o1 := nm_opp hS hT ((opp_red rS rT hR hR').2 ho)
    have o2 := nm_opp hT hS ((opp_red rT rS hR' hR).2 ⟨by omega, by omega, by omega⟩)
    have o3 := nm_opp wA wB ((opp_red rA rB hR.self hR'.self).2 ho)
    show (yes (yes (yes (.leaf true) (nmE p q r u v w == 6)) (nmE bx b2 bz ax ay az == 6)) (nmE ax ay az bx b2 bz == 6)).goes id = true
    exact yes_true (by rw [o1]; rfl) (yes_true (by rw [o2]; rfl) (yes_true (by rw [o3]; rfl) rfl))
  · have he : e3 u v w (w64 (p * -1)) (w64 (q * -1)) (w64 (r * -1)) = false := by
      rw [Bool.eq_false_iff]; exact fun h => ho ((neg_e3 rA.1).1 h)
    rw [he]
    show (biNorm ax ay az bx b2 bz p q r u v w (nmR ax ay az bx b2 bz ax bx) (nmR ax ay az bx b2 bz ay b2) (nmR ax ay az bx b2 bz az bz)).goes id = true
    have o1 : oppW ax ay az bx b2 bz = false := by rw [Bool.eq_false_iff]; exact fun h => ho ((opp_red rS rT hR hR').1 h)
    have o2 : oppW bx b2 bz ax ay az = false := by
      rw [Bool.eq_false_iff]
      intro h
      have := (opp_red rT rS hR' hR).1 h
      exact ho ⟨by omega, by omega, by omega⟩
    have o3 : oppW p q r u v w = false := by rw [Bool.eq_false_iff]; exact fun h => ho ((opp_red rA rB hR.self hR'.self).1 h)
    have hV : ¬ (T * ax + S * bx = 0 ∧ T * ay + S * b2 = 0 ∧ T * az + S * bz = 0) := by
      rintro ⟨v1, v2, v3⟩
      have := hR.unique hR'.neg pT pS (by rw [Int.mul_neg]; omega) (by rw [Int.mul_neg]; omega) (by rw [Int.mul_neg]; omega)
      exact ho ⟨by omega, by omega, by omega⟩
    obtain ⟨x, y, z, hN⟩ := red_ex hV
    have bd1 : ∀ {a b : Int}, a.natAbs ≤ 36 → b.natAbs ≤ 36 → (T * a + S * b).natAbs ≤ 4096 := fun {a b} ha hb => by
      have h1 := mul_bd (a := T) (b := a) (s := 36) (t := 36) (by omega) ha
      have h2 := mul_bd (a := S) (b := b) (s := 36) (t := 36) (by omega) hb
      omega
    have bN : Bd 4096 x y z := hN.bd ⟨bd1 dS.1 dT.1, bd1 dS.2.1 dT.2.1, bd1 dS.2.2 dT.2.2⟩
    obtain ⟨a0, a1, a2, a3⟩ := nm_of hS hT o1 hN bN
    obtain ⟨b0, b1, b2', b3⟩ := nm_of hT hS o2 (hN.line (l := 1) (m := 1) (by decide) (by decide) (by omega) (by omega) (by omega)) bN
    have hgk := Int.mul_pos hg hk
    have lin : ∀ {a b a' b' : Int}, a = g * a' → b = k * b' → (g * k) * (T' * a' + S' * b') = 1 * (T * a + S * b) := fun {a b a' b'} h1 h2 => by
      rw [h1, h2, gS, kT]; grind
    obtain ⟨c0, c1, c2, c3⟩ := nm_of wA wB o3 (hN.line hgk (by decide) (lin g1 k1) (lin g2 k2) (lin g3 k3)) bN
    rw [a1, a2, a3]
    have rN : Ray x y z := ⟨bN, hN.ne⟩
    unfold biNorm
    refine no_true (bne_zero a0) (no_true (bne_zero b0) (no_true (bne_zero c0) (no_true ?_ (no_true ?_ (no_true (bne_zero (by rw [← ray_eq, ray_zero]; exact rN)) ?_)))))
    · rw [b1, b2', b3, e3_same]; rfl
    · rw [c1, c2, c3, e3_same]; rfl
    -- the reflections
    have hN' := hN
    obtain ⟨n, hn, x1, x2, x3, _⟩ := hN'
    have hdotS := dot_half hS.sq x1 x2 x3
    have hdotT := dot_half (S := T) (T := S) (ax := bx) (ay := b2) (az := bz) (bx := ax) (b2 := ay) (bz := az) hT.sq (by omega) (by omega) (by omega) (k := n) (x := x) (y := y) (z := z)
    have hsq := sq_half hS.sq hT.sq x1 x2 x3
    have hc : bx * ax + b2 * ay + bz * az = ax * bx + ay * b2 + az * bz := by grind
    rw [hc, Int.mul_comm T S] at hdotT
    generalize hK : S * T + (ax * bx + ay * b2 + az * bz) = K at hdotS hdotT hsq
    have hnn := Int.mul_pos hn hn
    have hNN := (ray_sq rN.1 rN.2).1
    have hST := Int.mul_pos pS pT
    have pK : 0 < K := by
      have h1 := Int.mul_pos hnn hNN
      rw [hsq] at h1
      exact pos_of_mul hST (by omega)
    have pSK := Int.mul_pos pS pK
    have pTK := Int.mul_pos pT pK
    have pSS := Int.mul_pos pS pS
    have pTT := Int.mul_pos pT pT
    have hsq' : (n * n) * (x * x + y * y + z * z) = 2 * (T * S * K) := by rw [hsq, Int.mul_comm T S]
    have mS : 0 < 2 * (S * S) * K := Int.mul_pos (by omega) pK
    have mT : 0 < 2 * (T * T) * K := Int.mul_pos (by omega) pK
    obtain ⟨t0, t1, t2, t3⟩ := (rf_of rS rN (hR'.line hnn mS (refl_half hdotS hsq x1) (refl_half hdotS hsq x2) (refl_half hdotS hsq x3))).1 rB.1
    obtain ⟨k0, k1', k2', k3'⟩ := (rf_of rT rN (hR.line hnn mT (refl_half hdotT hsq' (by omega)) (refl_half hdotT hsq' (by omega)) (refl_half hdotT hsq' (by omega)))).1 rA.1
    have e1 : raysErr ax ay az x y z = 0 := raysErr_zero.2 ⟨rS, rN⟩
    have e2' : raysErr bx b2 bz x y z = 0 := raysErr_zero.2 ⟨rT, rN⟩
    obtain ⟨n1, d1, q1⟩ := co_K e1
    obtain ⟨n2, d2, q2⟩ := co_K e2'
    unfold rtK at q1 q2
    rw [Bool.and_eq_true, Bool.and_eq_true, decide_eq_true_eq] at q1 q2
    have hD1 := (dot_eq rS.1 rN.1 (by decide)).1
    have hD2 := (dot_eq rT.1 rN.1 (by decide)).1
    rw [hS.sq] at d1
    rw [hT.sq] at d2
    generalize hp1 : ax * x + ay * y + az * z = D1 at hdotS n1 hD1
    generalize hp2 : bx * x + b2 * y + bz * z = D2 at hdotT n2 hD2
    have p1 : 0 < D1 := pos_of_mul hn (by omega)
    have p2 : 0 < D2 := pos_of_mul hn (by omega)
    have hTS : T * D1 = S * D2 := by
      have h1 : n * (T * D1) = n * (S * D2) := by
        have e3 : n * (T * D1) = T * (n * D1) := by grind
        have e4 : n * (S * D2) = S * (n * D2) := by grind
        rw [e3, e4, hdotS, hdotT]; grind
      exact Int.eq_of_mul_eq_mul_left (by omega) h1
    have hrt := rt_eq (k := T * T) (l := S * S) pTT pSS q1.1 q2.1
      (by rw [n1, n2]; exact sq_mul hTS.symm)
      (by
        rw [d1, d2]
        generalize x * x + y * y + z * z = N
        grind) q1.2.1 q1.2.2 q2.2.1 q2.2.2
    have sg : ∀ {D : Int}, 0 < D → signW D = 1 := fun {D} hD => by unfold signW; rw [decide_eq_true hD]
    unfold biEnd
    refine yes_true (by rw [t0]; rfl) (yes_true (by rw [k0]; rfl) (yes_true (by rw [t1, t2, t3, e3_same]) (yes_true (by rw [k1', k2', k3', e3_same]) (yes_true (by rw [e1]; rfl) (yes_true (by rw [e2']; rfl) (yes_true ?_ (yes_true ?_ (yes_true ?_ rfl))))))))
    · unfold csS
      rw [e1, hD1, sg p1]; rfl
    · unfold csS
      rw [e2', hD2, sg p2]; rfl
    · unfold csR
      rw [e1, e2', hrt.1, hrt.2]
      simp [Ev.e2]
theorem bis_law (a b c d p q r s : Int) : (biT (bi a) (bi b) (bi c) (bi d) (bi p) (bi q) (bi r) (bi s)).goes id = true := by
  have ha := bi_bd a
  have hb := bi_bd b
  have hc := bi_bd c
  have hd := bi_bd d
  have hp := bi_bd p
  have hq := bi_bd q
  have hr := bi_bd r
  have hs := bi_bd s
  generalize bi a = a at *
  generalize bi b = b at *
  generalize bi c = c at *
  generalize bi d = d at *
  generalize bi p = p at *
  generalize bi q = q at *
  generalize bi r = r at *
  generalize bi s = s at *
  unfold biT
  by_cases h0 : bS a b c d = 0
  · rw [h0]; rfl
  by_cases h1 : bS p q r s = 0
  · rw [h1]
    have : (bS a b c d == 0) = false := by simpa using h0
    rw [this]; rfl
  have z0 : (bS a b c d == 0) = false := by simpa using h0
  have z1 : (bS p q r s == 0) = false := by simpa using h1
  rw [z0, z1]
  refine biOne_ok ha hb hc hd h0 (biOne_ok hp hq hr hs h1 ?_)
  obtain ⟨w0, l0⟩ := wh_of ha hb hc hd h0
  obtain ⟨w1, l1⟩ := wh_of hp hq hr hs h1
  obtain ⟨_, _, _, _, b0⟩ := wh_eq ha hb hc hd h0
  obtain ⟨_, _, _, _, b1⟩ := wh_eq hp hq hr hs h1
  obtain ⟨x, y, z, hR⟩ := red_ex w0.ray.2
  obtain ⟨u, v, w, hR'⟩ := red_ex w1.ray.2
  unfold biVec
  obtain ⟨r1, r2, r3⟩ := rd_of (dir_zero.2 ⟨w0.ray.1.mono (by decide), w0.ray.2⟩) hR
  obtain ⟨t1, t2, t3⟩ := rd_of (dir_zero.2 ⟨w1.ray.1.mono (by decide), w1.ray.2⟩) hR'
  rw [r1, r2, r3, t1, t2, t3]
  exact biTwo_ok w0 w1 l0 l1 b0 b1 hR hR'
end Go.Ev
