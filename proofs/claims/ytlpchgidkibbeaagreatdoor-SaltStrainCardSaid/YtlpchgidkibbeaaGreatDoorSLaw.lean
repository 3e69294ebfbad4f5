/- SaltStrain: the law says true for every history, all cycles and classes. Conditions: none. -/
import Derived.Test.YtlpchgidkibbeaaGreatDoorStrF
namespace Go.Ev
open Go Go.Proofs
set_option maxRecDepth 100000

/-! ### lists that are the same -/
theorem fnz_no {g : Nat → Int} : ∀ (n k : Nat), (∀ i, k ≤ i → i < k + n → g i = 0) → fnz g n k = none
  | 0, _, _ => rfl
  | n + 1, k, h => by
    unfold fnz
    rw [show (g k != 0) = false by rw [h k (Nat.le_refl _) (by omega)]; rfl]
    exact fnz_no n (k + 1) fun i h1 h2 => h i (by omega) (by omega)
theorem smiV_eq {n m : Nat} {p r : Nat → Int} (h : n = m) (hp : ∀ i, i < n → p i = r i) : smiV n m p r = true := by
  unfold smiV
  rw [show ((n : Int) != (m : Int)) = false by rw [h]; simp]
  simp only
  rw [fnz_no n 0 fun i _ hi => ?_]
  unfold smiG smiD
  rw [hp i (by omega)]
  simp
theorem smyV_eq {n m : Nat} {p p2 r r2 : Nat → Int} (h : n = m) (hp : ∀ i, i < n → p i = r i ∧ p2 i = r2 i) : smyV n m p p2 r r2 = true := by
  unfold smyV
  rw [show ((n : Int) != (m : Int)) = false by rw [h]; simp]
  simp only
  rw [fnz_no n 0 fun i _ hi => ?_]
  unfold smyG smyD
  rw [(hp i (by omega)).1, (hp i (by omega)).2]
  simp
/-! ### errors are not below 0 -/
theorem wW_nn (a lo hi : Int) : 0 ≤ wW a lo hi := by unfold wW errIf; split <;> omega
theorem errIf_nn {b : Bool} {e : Int} (h : 0 ≤ e) : 0 ≤ errIf b e := by unfold errIf; split <;> omega
theorem firstZ_nn : ∀ {l : List Int}, (∀ x ∈ l, 0 ≤ x) → 0 ≤ firstZ l
  | [], _ => Int.le_refl _
  | x :: l, h => by
    unfold firstZ
    split
    · exact h x List.mem_cons_self
    · exact firstZ_nn fun y hy => h y (List.mem_cons_of_mem _ hy)
theorem fnz_nn {g : Nat → Int} (h : ∀ i, 0 ≤ g i) : ∀ (n k : Nat), 0 ≤ (fnz g n k).getD 0
  | 0, _ => Int.le_refl _
  | n + 1, k => by
    unfold fnz
    split
    · exact h k
    · exact fnz_nn h n (k + 1)
theorem hisE_nn (n : Nat) (z : Nat → Int) : 0 ≤ hisE n z := by
  unfold hisE
  split
  · omega
  · exact fnz_nn (fun i => wW_nn _ _ _) _ _
theorem cycE_nn (n : Nat) (z1 z2 : Nat → Int) : 0 ≤ cycE n z1 z2 := by
  unfold cycE
  split
  · omega
  · refine fnz_nn (fun i => firstZ_nn fun x hx => ?_) _ _
    simp only [List.mem_cons, List.not_mem_nil, or_false] at hx
    rcases hx with rfl | rfl <;> exact wW_nn _ _ _
theorem clsE_nn (n : Nat) (z1 z2 : Nat → Int) : 0 ≤ clsE n z1 z2 := by
  unfold clsE
  split
  · unfold cheadE
    refine firstZ_nn fun x hx => ?_
    simp only [List.mem_cons, List.not_mem_nil, or_false] at hx
    rcases hx with rfl | rfl <;> exact errIf_nn (by omega)
  · refine fnz_nn (fun i => firstZ_nn fun x hx => ?_) _ _
    simp only [List.mem_cons, List.not_mem_nil, or_false] at hx
    rcases hx with rfl | rfl | rfl
    · exact wW_nn _ _ _
    · exact wW_nn _ _ _
    · exact errIf_nn (by omega)
theorem pos_of {e : Int} (h0 : 0 ≤ e) (h : e ≠ 0) : ∃ x : Nat, e = ((x + 1 : Nat) : Int) := ⟨e.toNat - 1, by omega⟩
/-! ### what is known -/
structure Kn (a : KL) (b : KM) (c : KC) (n m q : Nat) (z z1 z2 w1 w2 : Nat → Int) : Prop where
  sn : shN n = true
  sm : shN m = true
  ln : n ≤ 257
  lm : m ≤ 257
  ea : hisE n z = a.e
  eb : cycE m z1 z2 = b.e
  ec : clsE q w1 w2 = c.e
  ma : a.m n = n
  mb : b.m m = m
  mc : c.m q = q
  nb : Nat.beq m 0 = !b.nz
  nc : Nat.beq q 0 = !c.nz
  ka : ∀ k, a = .ok k → 0 < n ∧ (rfX n z).2.1 = k
  kc : ∀ v, c = .z v → q = 0
theorem shN_le {n : Nat} (h : shN n = true) : n ≤ 257 := by
  unfold shN at h
  split at h
  · rename_i g; simp only [decide_eq_true_eq] at g; omega
  · simp only [beq_iff_eq] at h; omega
theorem okM2_ok (a b : Nat) : okM2 a b = true := by unfold okM2; rw [bleR (Nat.le_refl _), bleR (Nat.le_refl _)]; rfl
theorem okM3_ok (a b c : Nat) : okM3 a b c = true := by unfold okM3; rw [bleR (Nat.le_refl _), bleR (Nat.le_refl _), bleR (Nat.le_refl _)]; rfl
theorem beqI {a b : Int} (h : a = b) : (a == b) = true := by rw [h]; exact beq_self_eq_true b
theorem beqB {a b : Bool} (h : a = b) : (a == b) = true := by rw [h]; exact beq_self_eq_true b
theorem and_ok {a b : Bool} (h : a = true) (h' : b = true) : (a && b) = true := by rw [h, h']; rfl
section
variable {a : KL} {b : KM} {c : KC} {n m q : Nat} {z z1 z2 w1 w2 : Nat → Int} (K : Kn a b c n m q z z1 z2 w1 w2)
abbrev LsP (n m q : Nat) (z z1 z2 w1 w2 : Nat → Int) : ((Bool × A × Hp) ⊕ (List Bool × St)) → Prop := isTrueL (hpLS n m q z z1 z2 w1 w2)
include K
theorem xSh_n : xSh n = true := and_ok (okN_ok n) (beqB K.sn)
theorem xSh_m : xSh m = true := and_ok (okN_ok m) (beqB K.sm)
theorem xAp_ok : xAp n = true := by
  have := K.ln
  unfold xAp
  rw [bleR (by omega), bleR (by omega), bleR (by omega)]; rfl
theorem xHi_ok {e : Int} (h : hisE n z = e) : xHi z n e = true := and_ok (okN_ok n) (and_ok (bleR (by have := K.ln; omega)) (beqI h))
theorem xCyb : xCy m b.nz = true := and_ok (okN_ok m) (and_ok (bleR (by have := K.lm; omega)) (beqB K.nb))
theorem xCyc (hq : q ≤ 17) : xCy q c.nz = true := and_ok (okN_ok q) (and_ok (bleR (by omega)) (beqB K.nc))
theorem xCn_ok : xCn z1 z2 w1 w2 (b.m m) (c.m q) b.e c.e = true := by
  rw [K.mb, K.mc]
  exact and_ok (okM2_ok _ _) (and_ok (bleR (by have := K.lm; omega)) (and_ok (beqI K.eb) (beqI K.ec)))
theorem xDa_ok : xDa z z1 z2 w1 w2 (b.m m) (a.m n) (c.m q) b.e a.e c.e = true := by
  rw [K.mb, K.mc, K.ma]
  exact and_ok (okM3_ok _ _ _) (and_ok (bleR (by have := K.lm; omega)) (and_ok (bleR (by have := K.ln; omega)) (and_ok (beqI K.eb) (and_ok (beqI K.ea) (beqI K.ec)))))
theorem xQc_ok : xQc z1 z2 m b.e = true := and_ok (okN_ok m) (and_ok (bleR (by have := K.lm; omega)) (beqI K.eb))
theorem xQk_ok : xQk w1 w2 q c.e = true := and_ok (okN_ok q) (beqI K.ec)
omit K in
theorem lf_ok : SkLeads (LsP n m q z z1 z2 w1 w2) (lfL n m q z z1 z2 w1 w2 true) := sk_leaf rfl
theorem p3_ok {S : SkL} (hs : SkLeads (LsP n m q z z1 z2 w1 w2) S) : SkLeads (LsP n m q z z1 z2 w1 w2) (p3 a n z S) := by
  have ea := K.ea
  unfold p3
  cases a with
  | z => exact sk_ff (sk_ff (sk_tt (sk_ff hs)))
  | ok k =>
    have h0 := (K.ka k rfl).1
    exact sk_need (xAp_ok K) (sk_need (xHi_ok K ea) (sk_ff (sk_need (and_ok (okN_ok n) (and_ok (bleR (by have := K.ln; omega)) (bltR h0))) hs)))
  | bad x => exact sk_need (xAp_ok K) (sk_need (xHi_ok K ea) (sk_tt hs))
theorem p4_ok {S : SkL} (hs : SkLeads (LsP n m q z z1 z2 w1 w2) S) : SkLeads (LsP n m q z z1 z2 w1 w2) (p4 gsT a n z S) := by
  have ea := K.ea
  unfold p4
  cases a with
  | z => exact sk_ff (sk_ff (sk_tt (sk_ff (sk_ff hs))))
  | ok k =>
    obtain ⟨h0, h1⟩ := K.ka k rfl
    exact sk_need (xAp_ok K) (sk_need (and_ok (okN_ok n) (and_ok (beqI ea) (and_ok (bltR h0) (by rw [Nat.beq_eq]; exact h1)))) hs)
  | bad x => exact sk_need (xAp_ok K) (sk_need (xHi_ok K ea) (sk_tt hs))
theorem p5_ok {S : SkL} (hq : q ≤ 17) (hs : SkLeads (LsP n m q z z1 z2 w1 w2) S) : SkLeads (LsP n m q z z1 z2 w1 w2) (p5 b c m q z1 z2 w1 w2 S) := sk_need (xCyb K) (sk_need (xCyc K hq) (sk_need (xCn_ok K) hs))
omit K in
theorem nnA_ok {S : SkL} {x : Bool} (hx : x = true) (hs : SkLeads (LsP n m q z z1 z2 w1 w2) S) : SkLeads (LsP n m q z z1 z2 w1 w2) (nnA a S x) := by
  unfold nnA
  cases a with
  | z => exact sk_nn hs
  | ok k => exact sk_need hx hs
  | bad x => exact sk_need hx hs
theorem p6_ok {S : SkL} (hq : q ≤ 17) (hs : SkLeads (LsP n m q z z1 z2 w1 w2) S) : SkLeads (LsP n m q z z1 z2 w1 w2) (p6 a b c n m q z z1 z2 w1 w2 S) := sk_need (xCyb K) (nnA_ok (xAp_ok K) (sk_need (xCyc K hq) (sk_need (xDa_ok K) hs)))
theorem p7_ok {S : SkL} (hs : SkLeads (LsP n m q z z1 z2 w1 w2) S) : SkLeads (LsP n m q z z1 z2 w1 w2) (p7 a b c n m q z z1 z2 w1 w2 S) :=
  nnA_ok (xHi_ok K K.ea) (sk_need (xQc_ok K) (sk_need (xQk_ok K) (sk_need (xQc_ok K) (nnA_ok (xHi_ok K K.ea) (sk_need (xQk_ok K) hs)))))
theorem rq_count {k : Nat} (h : a = .ok k) : (rqY n z).2.1 = k := by
  have ea := K.ea
  have h1 := (K.ka k h).2
  subst h
  rw [← h1]
  exact (rain_eq (z := z) (n := n) ea).2.1.symm
theorem p12_ok {S : SkL} (hs : SkLeads (LsP n m q z z1 z2 w1 w2) S) : SkLeads (LsP n m q z z1 z2 w1 w2) (p12 gsT a n z S) := by
  unfold p12
  cases a with
  | z => exact sk_tt (sk_tt (sk_tt (sk_tt (sk_ff (sk_ff (sk_ff hs))))))
  | ok k =>
    obtain ⟨h0, _⟩ := K.ka k rfl
    have h2 := rq_count K rfl
    refine sk_tt (sk_need (and_ok (okN_ok n) (and_ok (bleR (by have := K.ln; omega)) (beqB ?_))) (sk_need (and_ok (okN_ok n) (and_ok (bleR (by have := K.ln; omega)) (and_ok (bltR h0) (by rw [Nat.beq_eq]; exact h2)))) hs))
    cases n with
    | zero => omega
    | succ n => rfl
  | bad x => exact sk_ff hs
theorem ok2_facts (h : isOk2 b c = true) : cycE m z1 z2 = 0 ∧ clsE q w1 w2 = 0 := by
  have eb := K.eb
  have ec := K.ec
  unfold isOk2 at h
  cases b <;> cases c <;> first | exact ⟨eb, ec⟩ | cases h
theorem ok3_facts (h : isOk3 a b c = true) : hisE n z = 0 ∧ cycE m z1 z2 = 0 ∧ clsE q w1 w2 = 0 := by
  have ea := K.ea
  unfold isOk3 at h
  cases a with
  | z => exact ⟨ea, ok2_facts K h⟩
  | ok k => exact ⟨ea, ok2_facts K h⟩
  | bad x => cases h
theorem p15_ok {S : SkL} (hs : SkLeads (LsP n m q z z1 z2 w1 w2) S) : SkLeads (LsP n m q z z1 z2 w1 w2) (p15 b c m q z1 z2 w1 w2 S) := by
  unfold p15
  cases h : isOk2 b c with
  | false => exact sk_ff hs
  | true =>
    obtain ⟨e1, e2⟩ := ok2_facts K h
    exact sk_tt (sk_need (and_ok (okM2_ok _ _) (and_ok (beqI e1) (beqI e2))) hs)
theorem p17_ok {S : SkL} (hq : q ≤ 17) (hs : SkLeads (LsP n m q z z1 z2 w1 w2) S) : SkLeads (LsP n m q z z1 z2 w1 w2) (p17 a b c n m q S) := by
  unfold p17
  cases h : isOk3 a b c with
  | false => exact sk_ff hs
  | true =>
    refine sk_tt (sk_need ?_ hs)
    unfold xQd
    rw [K.ma]
    exact and_ok (okM3_ok _ _ _) (and_ok (bleR (by have := K.lm; omega)) (and_ok (bleR (by have := K.ln; omega)) (bleR (by omega))))
theorem p18_ok {S : SkL} (hq : q ≤ 17) (hs : SkLeads (LsP n m q z z1 z2 w1 w2) S) : SkLeads (LsP n m q z z1 z2 w1 w2) (p18 c q w1 w2 S) := by
  have hk := xQk_ok K
  have ec := K.ec
  have hc := xCyc K hq
  unfold p18
  refine sk_need hc ?_
  cases c with
  | z v =>
    have h0 := K.kc v rfl
    subst h0
    exact sk_need (beqI (Eq.trans rfl ec)) (sk_need hk hs)
  | ok => exact sk_need hk (sk_need hk hs)
  | bad v => exact sk_need hk (sk_need hk hs)
omit K in
theorem gt_ok {e : Int} {o : Bool} {r : Nat} {S : SkL} (hs : SkLeads (LsP n m q z z1 z2 w1 w2) S) : SkLeads (LsP n m q z z1 z2 w1 w2) (gt n m q z z1 z2 w1 w2 e o r S) := by
  unfold gt
  cases o with
  | true => exact sk_tt hs
  | false => exact sk_yes (beq_self_eq_true _) hs
theorem s1_ok {S : SkL} (hs : SkLeads (LsP n m q z z1 z2 w1 w2) S) : SkLeads (LsP n m q z z1 z2 w1 w2) (s1 gsT a n z S) := by
  unfold s1
  cases a with
  | z => exact hs
  | ok k => exact sk_need (and_ok (okM2_ok _ _) (and_ok (bleR (by have h1 := turQ_le n z; have := K.ln; show (turQ n z).1 ≤ 1000000; omega)) (smiV_eq rfl fun _ _ => rfl))) hs
  | bad x => exact hs
theorem cyc_ok {S : SkL} (hs : SkLeads (LsP n m q z z1 z2 w1 w2) S) : SkLeads (LsP n m q z z1 z2 w1 w2) (cyc gsT a n z S) := by
  have ea := K.ea
  have ka := K.ka
  unfold cyc
  cases a with
  | z => exact sk_tt hs
  | bad x => exact sk_tt hs
  | ok k =>
    cases k with
    | zero => exact sk_tt hs
    | succ p =>
      have h1 := (ka (p + 1) rfl).2
      have hb := (rfP_bd (turQ n z).2 (turQ n z).1).1
      have hb : (rfX n z).1.1 + 2 * (rfX n z).2.1 = (turQ n z).1 := hb
      have ht := turQ_le n z
      have hl : p + 1 ≤ 1000000 := by have := K.ln; omega
      have he := (rain_eq (z := z) (n := n) ea).2.2
      rw [h1] at he
      exact sk_need (and_ok (okN_ok _) (bleR hl)) (sk_ff (sk_need (and_ok (okM2_ok _ _) (and_ok (bleR hl) (smyV_eq rfl he))) hs))
theorem s2_ok {S : SkL} (hs : SkLeads (LsP n m q z z1 z2 w1 w2) S) : SkLeads (LsP n m q z z1 z2 w1 w2) (s2 gsT a n z S) := by
  have ea := K.ea
  unfold s2
  cases a with
  | z => exact hs
  | bad x => exact hs
  | ok k =>
    have hb := (rfP_bd (turQ n z).2 (turQ n z).1).1
    have hb : (rfX n z).1.1 + 2 * (rfX n z).2.1 = (turQ n z).1 := hb
    have ht := turQ_le n z
    obtain ⟨h1, h2⟩ := (rain_eq (z := z) (n := n) ea).1
    exact sk_need (and_ok (okM2_ok _ _) (and_ok (bleR (by have := K.ln; show (rfX n z).1.1 ≤ 1000000; omega)) (smiV_eq h1 h2))) hs
theorem s3_ok {S : SkL} (hq : q ≤ 17) (hs : SkLeads (LsP n m q z z1 z2 w1 w2) S) : SkLeads (LsP n m q z z1 z2 w1 w2) (s3 gsT b c m q z1 z2 w1 S) := by
  unfold s3
  cases h : isOk2 b c with
  | false => exact hs
  | true =>
    rw [K.mb]
    exact sk_need (and_ok (okM2_ok _ _) (and_ok (bleR (by omega)) (smiV_eq rfl fun _ _ => rfl))) hs
theorem g47_ok {S : SkL} (hs : SkLeads (LsP n m q z z1 z2 w1 w2) S) : SkLeads (LsP n m q z z1 z2 w1 w2) (g47 gsT a b c n m q z z1 z2 w1 w2 S) := by
  unfold g47
  cases h : isOk3 a b c with
  | false => exact sk_tt hs
  | true =>
    rw [K.mb]
    exact sk_yes (beq_self_eq_true _) hs
theorem lsS_ok : SkLeads (LsP n m q z z1 z2 w1 w2) (lsS gsT a b c n m q z z1 z2 w1 w2) := by
  unfold lsS
  have h1 : SkLeads (LsP n m q z z1 z2 w1 w2) (.ff (.need (xSh m) (.ff (.node (decide ((q : Int) > 17)) (lfL n m q z z1 z2 w1 w2 true)
      (p3 a n z (p4 gsT a n z (p5 b c m q z1 z2 w1 w2 (p6 a b c n m q z z1 z2 w1 w2 (p7 a b c n m q z z1 z2 w1 w2 (p12 gsT a n z (p15 b c m q z1 z2 w1 w2 (p17 a b c n m q (p18 c q w1 w2 (end18 gsT a b c n m q z z1 z2 w1 w2)))))))))))))) := by
    refine sk_ff (sk_need (xSh_m K) (sk_ff (sk_either (fun _ => lf_ok) fun hq => ?_)))
    have hq : q ≤ 17 := by simp only [decide_eq_false_iff_not] at hq; omega
    refine p3_ok K (p4_ok K (p5_ok K hq (p6_ok K hq (p7_ok K (p12_ok K (p15_ok K (p17_ok K hq (p18_ok K hq ?_))))))))
    unfold end18
    exact gt_ok (s1_ok K (sk_tt (gt_ok (cyc_ok K (sk_tt (s2_ok K (sk_tt (gt_ok (s3_ok K hq (sk_tt (gt_ok (g47_ok K (gt_ok lf_ok)))))))))))))
  unfold p0
  cases a with
  | z => exact h1
  | ok k => exact sk_need (xSh_n K) h1
  | bad x => exact sk_need (xSh_n K) h1
end
/-! ### the law -/
theorem ls_whole {a : KL} {b : KM} {c : KC} {n m q : Nat} {z z1 z2 w1 w2 : Nat → Int} (h1 : lsK a b c gsT n m q z z1 z2 w1 w2 = into (lsK a b c gsT n m q z z1 z2 w1 w2) (lsS gsT a b c n m q z z1 z2 w1 w2)) (h2 : fits (lsK a b c gsT n m q z z1 z2 w1 w2) (lsS gsT a b c n m q z z1 z2 w1 w2) = true) (K : Kn a b c n m q z z1 z2 w1 w2) :
    CallAt Tryz.prog 4 (lsA n m q) (hpLS n m q z z1 z2 w1 w2) (boo true) (hpLS n m q z z1 z2 w1 w2) :=
  call_sk (stpL_ok (tbS_ok a b c)) Tryz.func4 (by kernel_rfl) (false, true) (by kernel_rfl) h1 h2 (lsS_ok K).all
section
variable (n m q : Nat) (z z1 z2 w1 w2 : Nat → Int)
noncomputable def lsL (b1 b2 : Bool) : Tree ((Bool × A × Hp) ⊕ (List Bool × St)) := lsT (stpL (tbLong b1 b2)) n m q z z1 z2 w1 w2
def lsL1 : SkL := .need (okN n && (shN n == false)) (.tt (.tt (.tt (lfL n m q z z1 z2 w1 w2 true))))
def lsL2 : SkL := .need (okN n && (shN n == true)) (.ff (.need (okN m && (shN m == false)) (.tt (.tt (lfL n m q z z1 z2 w1 w2 true)))))
theorem lsL1_into : lsL n m q z z1 z2 w1 w2 false true = into (lsL n m q z z1 z2 w1 w2 false true) (lsL1 n m q z z1 z2 w1 w2) := by kernel_rfl
theorem lsL1_fits : fits (lsL n m q z z1 z2 w1 w2 false true) (lsL1 n m q z z1 z2 w1 w2) = true := by kernel_rfl
theorem lsL2_into : lsL n m q z z1 z2 w1 w2 true false = into (lsL n m q z z1 z2 w1 w2 true false) (lsL2 n m q z z1 z2 w1 w2) := by kernel_rfl
theorem lsL2_fits : fits (lsL n m q z z1 z2 w1 w2 true false) (lsL2 n m q z z1 z2 w1 w2) = true := by kernel_rfl
theorem lsL_whole {b1 b2 : Bool} {S : SkL} (h1 : lsL n m q z z1 z2 w1 w2 b1 b2 = into (lsL n m q z z1 z2 w1 w2 b1 b2) S) (h2 : fits (lsL n m q z z1 z2 w1 w2 b1 b2) S = true) (h3 : SkLeads (LsP n m q z z1 z2 w1 w2) S) :
    CallAt Tryz.prog 4 (lsA n m q) (hpLS n m q z z1 z2 w1 w2) (boo true) (hpLS n m q z z1 z2 w1 w2) :=
  call_sk (stpL_ok (tbLong_ok b1 b2)) Tryz.func4 (by kernel_rfl) (false, true) (by kernel_rfl) h1 h2 h3.all
theorem strain_call : CallAt Tryz.prog 4 (lsA n m q) (hpLS n m q z z1 z2 w1 w2) (boo true) (hpLS n m q z z1 z2 w1 w2) := by
  cases sn : shN n with
  | false => exact lsL_whole n m q z z1 z2 w1 w2 (lsL1_into n m q z z1 z2 w1 w2) (lsL1_fits n m q z z1 z2 w1 w2) (sk_need (and_ok (okN_ok n) (beqB sn)) (sk_tt (sk_tt (sk_tt lf_ok))))
  | true =>
    cases sm : shN m with
    | false => exact lsL_whole n m q z z1 z2 w1 w2 (lsL2_into n m q z z1 z2 w1 w2) (lsL2_fits n m q z z1 z2 w1 w2) (sk_need (and_ok (okN_ok n) (beqB sn)) (sk_ff (sk_need (and_ok (okN_ok m) (beqB sm)) (sk_tt (sk_tt lf_ok)))))
    | true =>
      have hB : ∃ b : KM, (b = .z ∨ b = .ok ∨ ∃ y, b = .bad y) ∧ cycE m z1 z2 = b.e ∧ b.m m = m ∧ Nat.beq m 0 = !b.nz := by
        cases m with
        | zero => exact ⟨.z, .inl rfl, rfl, rfl, rfl⟩
        | succ m =>
          by_cases h : cycE (m + 1) z1 z2 = 0
          · exact ⟨.ok, .inr (.inl rfl), h, rfl, rfl⟩
          · obtain ⟨y, hy⟩ := pos_of (cycE_nn _ _ _) h
            exact ⟨.bad y, .inr (.inr ⟨y, rfl⟩), hy, rfl, rfl⟩
      have hC : ∃ c : KC, ((∃ v, c = .z v) ∨ c = .ok ∨ ∃ y, c = .bad y) ∧ clsE q w1 w2 = c.e ∧ c.m q = q ∧ Nat.beq q 0 = (!c.nz) ∧ ∀ v, c = .z v → q = 0 := by
        cases q with
        | zero => exact ⟨.z 11, .inl ⟨11, rfl⟩, rfl, rfl, rfl, fun _ _ => rfl⟩
        | succ q =>
          by_cases h : clsE (q + 1) w1 w2 = 0
          · exact ⟨.ok, .inr (.inl rfl), h, rfl, rfl, fun v e => by cases e⟩
          · obtain ⟨y, hy⟩ := pos_of (clsE_nn _ _ _) h
            exact ⟨.bad y, .inr (.inr ⟨y, rfl⟩), hy, rfl, rfl, fun v e => by cases e⟩
      obtain ⟨b, hb, eb, mb, nb⟩ := hB
      obtain ⟨c, hc, ec, mc, nc, kc⟩ := hC
      have hA : ∃ a : KL, ((a = .z ∧ n = 0) ∨ a = .ok 0 ∨ (∃ p, a = .ok (p + 1)) ∨ ∃ x, a = .bad x) ∧ hisE n z = a.e ∧ a.m n = n ∧ ∀ k, a = .ok k → 0 < n ∧ (rfX n z).2.1 = k := by
        cases n with
        | zero => exact ⟨.z, .inl ⟨rfl, rfl⟩, rfl, rfl, fun k e => by cases e⟩
        | succ n =>
          by_cases h : hisE (n + 1) z = 0
          · refine ⟨.ok (rfX (n + 1) z).2.1, .inr ?_, h, rfl, fun k e => by injection e with e; exact ⟨Nat.succ_pos _, e⟩⟩
            cases (rfX (n + 1) z).2.1 with
            | zero => exact .inl rfl
            | succ p => exact .inr (.inl ⟨p, rfl⟩)
          · obtain ⟨y, hy⟩ := pos_of (hisE_nn _ _) h
            exact ⟨.bad y, .inr (.inr (.inr ⟨y, rfl⟩)), hy, rfl, fun k e => by cases e⟩
      obtain ⟨a, ha, ea, ma, ka⟩ := hA
      have K : Kn a b c n m q z z1 z2 w1 w2 := ⟨sn, sm, shN_le sn, shN_le sm, ea, eb, ec, ma, mb, mc, nb, nc, ka, kc⟩
      rcases ha with ⟨rfl, rfl⟩ | rfl | ⟨p, rfl⟩ | ⟨x, rfl⟩ <;> rcases hb with rfl | rfl | ⟨y, rfl⟩ <;> rcases hc with ⟨v, rfl⟩ | rfl | ⟨v, rfl⟩
      · exact ls_whole (ls_i_zzz gsT m q v z z1 z2 w1 w2) (ls_f_zzz gsT m q v z z1 z2 w1 w2) K
      · exact ls_whole (ls_i_zzo gsT m q z z1 z2 w1 w2) (ls_f_zzo gsT m q z z1 z2 w1 w2) K
      · exact ls_whole (ls_i_zzb gsT m q v z z1 z2 w1 w2) (ls_f_zzb gsT m q v z z1 z2 w1 w2) K
      · exact ls_whole (ls_i_zoz gsT m q v z z1 z2 w1 w2) (ls_f_zoz gsT m q v z z1 z2 w1 w2) K
      · exact ls_whole (ls_i_zoo gsT m q z z1 z2 w1 w2) (ls_f_zoo gsT m q z z1 z2 w1 w2) K
      · exact ls_whole (ls_i_zob gsT m q v z z1 z2 w1 w2) (ls_f_zob gsT m q v z z1 z2 w1 w2) K
      · exact ls_whole (ls_i_zbz gsT m q y v z z1 z2 w1 w2) (ls_f_zbz gsT m q y v z z1 z2 w1 w2) K
      · exact ls_whole (ls_i_zbo gsT m q y z z1 z2 w1 w2) (ls_f_zbo gsT m q y z z1 z2 w1 w2) K
      · exact ls_whole (ls_i_zbb gsT m q y v z z1 z2 w1 w2) (ls_f_zbb gsT m q y v z z1 z2 w1 w2) K
      · exact ls_whole (ls_i_ozz gsT n m q v z z1 z2 w1 w2) (ls_f_ozz gsT n m q v z z1 z2 w1 w2) K
      · exact ls_whole (ls_i_ozo gsT n m q z z1 z2 w1 w2) (ls_f_ozo gsT n m q z z1 z2 w1 w2) K
      · exact ls_whole (ls_i_ozb gsT n m q v z z1 z2 w1 w2) (ls_f_ozb gsT n m q v z z1 z2 w1 w2) K
      · exact ls_whole (ls_i_ooz gsT n m q v z z1 z2 w1 w2) (ls_f_ooz gsT n m q v z z1 z2 w1 w2) K
      · exact ls_whole (ls_i_ooo gsT n m q z z1 z2 w1 w2) (ls_f_ooo gsT n m q z z1 z2 w1 w2) K
      · exact ls_whole (ls_i_oob gsT n m q v z z1 z2 w1 w2) (ls_f_oob gsT n m q v z z1 z2 w1 w2) K
      · exact ls_whole (ls_i_obz gsT n m q y v z z1 z2 w1 w2) (ls_f_obz gsT n m q y v z z1 z2 w1 w2) K
      · exact ls_whole (ls_i_obo gsT n m q y z z1 z2 w1 w2) (ls_f_obo gsT n m q y z z1 z2 w1 w2) K
      · exact ls_whole (ls_i_obb gsT n m q y v z z1 z2 w1 w2) (ls_f_obb gsT n m q y v z z1 z2 w1 w2) K
      · exact ls_whole (ls_i_pzz gsT n m q v p z z1 z2 w1 w2) (ls_f_pzz gsT n m q v p z z1 z2 w1 w2) K
      · exact ls_whole (ls_i_pzo gsT n m q p z z1 z2 w1 w2) (ls_f_pzo gsT n m q p z z1 z2 w1 w2) K
      · exact ls_whole (ls_i_pzb gsT n m q v p z z1 z2 w1 w2) (ls_f_pzb gsT n m q v p z z1 z2 w1 w2) K
      · exact ls_whole (ls_i_poz gsT n m q v p z z1 z2 w1 w2) (ls_f_poz gsT n m q v p z z1 z2 w1 w2) K
      · exact ls_whole (ls_i_poo gsT n m q p z z1 z2 w1 w2) (ls_f_poo gsT n m q p z z1 z2 w1 w2) K
      · exact ls_whole (ls_i_pob gsT n m q v p z z1 z2 w1 w2) (ls_f_pob gsT n m q v p z z1 z2 w1 w2) K
      · exact ls_whole (ls_i_pbz gsT n m q y v p z z1 z2 w1 w2) (ls_f_pbz gsT n m q y v p z z1 z2 w1 w2) K
      · exact ls_whole (ls_i_pbo gsT n m q y p z z1 z2 w1 w2) (ls_f_pbo gsT n m q y p z z1 z2 w1 w2) K
      · exact ls_whole (ls_i_pbb gsT n m q y v p z z1 z2 w1 w2) (ls_f_pbb gsT n m q y v p z z1 z2 w1 w2) K
      · exact ls_whole (ls_i_bzz gsT n m q x v z z1 z2 w1 w2) (ls_f_bzz gsT n m q x v z z1 z2 w1 w2) K
      · exact ls_whole (ls_i_bzo gsT n m q x z z1 z2 w1 w2) (ls_f_bzo gsT n m q x z z1 z2 w1 w2) K
      · exact ls_whole (ls_i_bzb gsT n m q x v z z1 z2 w1 w2) (ls_f_bzb gsT n m q x v z z1 z2 w1 w2) K
      · exact ls_whole (ls_i_boz gsT n m q x v z z1 z2 w1 w2) (ls_f_boz gsT n m q x v z z1 z2 w1 w2) K
      · exact ls_whole (ls_i_boo gsT n m q x z z1 z2 w1 w2) (ls_f_boo gsT n m q x z z1 z2 w1 w2) K
      · exact ls_whole (ls_i_bob gsT n m q x v z z1 z2 w1 w2) (ls_f_bob gsT n m q x v z z1 z2 w1 w2) K
      · exact ls_whole (ls_i_bbz gsT n m q x y v z z1 z2 w1 w2) (ls_f_bbz gsT n m q x y v z z1 z2 w1 w2) K
      · exact ls_whole (ls_i_bbo gsT n m q x y z z1 z2 w1 w2) (ls_f_bbo gsT n m q x y z z1 z2 w1 w2) K
      · exact ls_whole (ls_i_bbb gsT n m q x y v z z1 z2 w1 w2) (ls_f_bbb gsT n m q x y v z z1 z2 w1 w2) K
end
end Go.Ev
