/- SaltParts: the law says true for every history, every place of the cut and all classes. Conditions: the number that tells the cut is one of 8 bits. -/
import Derived.Test.YtlpchgidkibbeaaGreatDoorPtD
namespace Go.Ev
open Go Go.Proofs
set_option maxRecDepth 100000

theorem bneI {a b : Int} (h : a = b) : (a != b) = false := by rw [h]; simp
theorem xCs_ok {k : Nat} (h : k ≤ 1000000) : xCs k = true := and_ok (okN_ok k) (bleR h)
theorem xCy_ok {k : Nat} (h : k + 1 ≤ 1000000) : xCy (k + 1) true = true := and_ok (okN_ok _) (and_ok (bleR h) rfl)
theorem xCyq_ok {q : Nat} (h1 : 1 ≤ q) (h : q ≤ 1000000) : xCy q true = true := by
  obtain ⟨k, rfl⟩ : ∃ k, q = k + 1 := ⟨q - 1, by omega⟩
  exact xCy_ok h
theorem xAp_o {n : Nat} (h : n ≤ 1000000) : xAp n = true := by
  unfold xAp
  rw [bleR (by omega), bleR (by omega), bleR (by omega)]
  rfl
theorem xHi_o {n : Nat} {f : Nat → Int} (hn : n ≤ 256) (h : Bd n f) : xHi f n 0 = true := and_ok (okN_ok n) (and_ok (bleR (by omega)) (beqI (hisE_ok hn h)))
theorem xTu_o {n : Nat} (h1 : 1 ≤ n) (h : n ≤ 256) : xTu n = true := and_ok (okN_ok n) (and_ok (bleR (by omega)) (bltR h1))
theorem xRp_o {n k : Nat} {f : Nat → Int} (h1 : 1 ≤ n) (hn : n ≤ 256) (h : Bd n f) (hk : (rfX n f).2.1 = k) : xRp gsT f n k = true := and_ok (okN_ok n) (and_ok (beqI (hisE_ok hn h)) (and_ok (bltR h1) (by rw [Nat.beq_eq]; exact hk)))
theorem xS_o {i j : Nat} {f h : Nat → Int} (hi : i ≤ 1000000) (h1 : i = j) (h2 : ∀ k, k < i → f k = h k) : xS i j f h = true := and_ok (okM2_ok i j) (and_ok (bleR hi) (smiV_eq h1 h2))
theorem xSy_o {i j : Nat} {f f' h h' : Nat → Int} (hi : i ≤ 1000000) (h1 : i = j) (h2 : ∀ k, k < i → f k = h k ∧ f' k = h' k) : xSy i j f f' h h' = true := and_ok (okM2_ok i j) (and_ok (bleR hi) (smyV_eq h1 h2))
theorem xDa_o {m n q : Nat} {z z1 z2 w1 w2 : Nat → Int} (hm : m ≤ 256) (hn : n ≤ 256) (h1 : Bd m z1) (h2 : Bd m z2) (h : Bd n z) (hq : clsE q w1 w2 = 0) : xDa z z1 z2 w1 w2 m n q 0 0 0 = true :=
  and_ok (okM3_ok m n q) (and_ok (bleR (by omega)) (and_ok (bleR (by omega)) (and_ok (beqI (cycE_ok hm h1 h2)) (and_ok (beqI (hisE_ok hn h)) (beqI hq)))))
theorem xCn_o {m q : Nat} {z1 z2 w1 w2 : Nat → Int} (hm : m ≤ 256) (h1 : Bd m z1) (h2 : Bd m z2) (hq : clsE q w1 w2 = 0) : xCn z1 z2 w1 w2 m q 0 0 = true := and_ok (okM2_ok m q) (and_ok (bleR (by omega)) (and_ok (beqI (cycE_ok hm h1 h2)) (beqI hq)))
theorem bd0 (f : Nat → Int) : Bd 0 f := fun i hi => absurd hi (Nat.not_lt_zero i)
theorem ix_ok {p : X × St → Prop} {R k : Nat} {x : Int} {S : Sk (X × St)} (hx : x = (k : Int)) (hk : k < R) (h : SkLeads p S) : SkLeads p (ix R x S) := by
  subst hx
  obtain ⟨_, a2, a3⟩ := rnd_lt hk
  exact sk_need a2 (sk_need a3 h)
theorem w64_add {k d : Nat} (h : k + d ≤ 1000000) : IntKind.i64.wrap ((k : Int) + (d : Int)) = ((k + d : Nat) : Int) := by
  rw [show ((k : Int) + (d : Int)) = ((k + d : Nat) : Int) by omega]
  exact wrap_id (by omega) (by omega)
section
variable (n q : Nat) (u : Int) (z w1 w2 : Nat → Int)
abbrev ptPhi : X × St → Prop := Left2 Tryz.prog Tryz.f7 (ptHp n q z w1 w2) (boo true) (ptHp n q z w1 w2)
theorem pt_left : ptPhi n q z w1 w2 (.ret, ptF n q z w1 w2 true) := left_of (b := true) (by kernel_rfl)
abbrev CV (k : Nat) : (X × St) ⊕ (List Bool × St) → Prop := CutV Tryz.prog ptBody (ptB n q u z w1 w2) (ptPhi n q z w1 w2) k
theorem lfT_ok (k : Nat) : SkLeads (CV n q u z w1 w2 k) (lfF n q z w1 w2 true) := sk_leaf (by cases k <;> exact pt_left n q z w1 w2)
/-! ### the end -/
theorem s8_eq (part sum : Int) : (evR (ptRe .z .z .ok gsT) true ptBody (ptP 7) (.exit 14) (ptX7 n q z w1 w2 part sum)).bind (canO [] [6] (ptB n q u z w1 w2)) = ptS8 n q u z w1 w2 gsT part sum := by delta ptS8 evO2; rfl
theorem lead8 (part sum : Int) (h : sum = part) : Leads (CV n q u z w1 w2 0) ((evR (ptRe .z .z .ok gsT) true ptBody (ptP 7) (.exit 14) (ptX7 n q z w1 w2 part sum)).bind (canO [] [6] (ptB n q u z w1 w2))) :=
  leads_in (s8_eq n q u z w1 w2 part sum) (s8_into n q u z w1 w2 gsT part sum) (s8_fits n q u z w1 w2 gsT part sum) (sk_yes (beqI h) (lfT_ok n q u z w1 w2 0))
theorem pt_loop7 (hq : q ≤ 1000000) (part : Int) (kf : Nat → Int) : ComesF Tryz.prog (.loop (ptC 7)) (ptB n q u z w1 w2) (ptH7 n q z w1 w2 part (sumK kf w2 0) kf ((0 : Nat) : Int)) fun o => o = (.exit 14, ptX7 n q z w1 w2 part (sumK kf w2 q)) := by
  refine loop_count (ptRe_ok .z .z .ok) rfl [2, 43, 49, 411, 412, 413] [43, 49] (fun k => ptH7 n q z w1 w2 part (sumK kf w2 k) kf (k : Int)) (fun _ => (.exit 14, ptX7 n q z w1 w2 part (sumK kf w2 q))) q (fun k => ptT7 n q u z w1 w2 gsT part (sumK kf w2 k) kf (k : Int)) (fun k => sk7 n q z w1 w2 part (sumK kf w2 k) kf (k : Int)) (fun _ => rfl) (fun k => t7_into n q u z w1 w2 gsT part _ kf _) (fun k => t7_fits n q u z w1 w2 gsT part _ kf _) (fun k hk => ?_) (sk_no (rnd_end q) (sk_leaf rfl))
  refine sk_yes (rnd_lt hk).1 (ix_ok rfl hk (ix_ok rfl hk (sk_leaf (rnd_next ?_ rfl))))
  rw [wrap_succ (by omega), idx_nat]
  exact St.Le.refl _
theorem end7_ok (hq : q ≤ 1000000) {all part half : Int} {kf : Nat → Int} (h1 : all = IntKind.i64.wrap (part + half)) (h2 : sumK kf w2 q = part) : SkLeads (CV n q u z w1 w2 1) (end7 n q z w1 w2 all part half kf) := by
  refine sk_ff (sk_ff (sk_ff (sk_ff (sk_no (bneI h1) (sk_no (bneI rfl) (sk_leaf ⟨_, true, ptRe .z .z .ok gsT, [], [6], ptRe_ok .z .z .ok, pt_loop7 n q u z w1 w2 hq part kf, fun o ho => ?_⟩))))))
  subst ho
  exact lead8 n q u z w1 w2 part _ h2
section
variable (kd : KP) (R : Nat) (r c1 c2 o1 o2 : Nat → Int)
theorem s7_eq (a : KL) (b : KM) : (evR (ptRe7 (k7 kd) a b gsT) true ptBody (ptP 6) (.exit 12) (ptX6 n q z w1 w2 kd R r c1 c2 o1 o2)).bind (canO [2, 43, 49, 411, 412, 413] [6] (ptB n q u z w1 w2)) = ptS7 n q u z w1 w2 kd R r c1 c2 a b gsT o1 o2 := by delta ptS7 evO2; rfl
theorem lead7c (p : Nat) (hp : p + 1 ≤ 256) (hR : R ≤ 256) (h1 : Bd (p + 1) c1) (h2 : Bd (p + 1) c2) (hr : Bd R r) (hq : clsE q w1 w2 = 0) : Leads (CV n q u z w1 w2 1) ((evR (ptRe7 (k7 (.c p)) (.ok 0) .ok gsT) true ptBody (ptP 6) (.exit 12) (ptX6 n q z w1 w2 (.c p) R r c1 c2 o1 o2)).bind (canO [2, 43, 49, 411, 412, 413] [6] (ptB n q u z w1 w2))) := by
  obtain ⟨q1, q2⟩ := cls_len hq
  have y1 := xCyq_ok q1 (by omega)
  have y2 : xCy (p + 1) true = true := xCy_ok (by omega)
  have y3 : xCs (p + 1) = true := xCs_ok (by omega)
  refine leads_in (s7_eq n q u z w1 w2 (.c p) R r c1 c2 o1 o2 (.ok 0) .ok) (s7c_into n q u z w1 w2 R r c1 c2 gsT p o1 o2) (s7c_fits n q u z w1 w2 R r c1 c2 gsT p o1 o2) ?_
  refine sk_need y3 (sk_ff (sk_need y2 (sk_need (xAp_o (by omega)) (sk_need y1 (sk_need (xDa_o hp hR h1 h2 hr hq) (sk_need y3 (sk_ff (sk_need y2 (sk_need y1 (sk_need (xDa_o hp (by omega) h1 h2 (bd0 _) hq) (sk_need (xAp_o (by omega)) (sk_need y1 (sk_need (xDa_o (by omega) hR (bd0 _) (bd0 _) hr hq) (sk_need y3 (sk_ff (sk_need y2 (sk_need y1 (sk_need (xCn_o hp h1 h2 hq) ?_))))))))))))))))))
  exact end7_ok n q u z w1 w2 (by omega) (daV_sum (p + 1) R q c1 c2 w1 w2 r r w1 w2) (sum_cnt c1 c2 w1 w2 q (p + 1) (by omega))
theorem lead7n (hR : R ≤ 256) (hr : Bd R r) (hq : clsE q w1 w2 = 0) : Leads (CV n q u z w1 w2 1) ((evR (ptRe7 (k7 .n) (.ok 0) .z gsT) true ptBody (ptP 6) (.exit 12) (ptX6 n q z w1 w2 .n R r c1 c2 o1 o2)).bind (canO [2, 43, 49, 411, 412, 413] [6] (ptB n q u z w1 w2))) := by
  obtain ⟨q1, q2⟩ := cls_len hq
  have y1 := xCyq_ok q1 (by omega)
  have y2 := xAp_o (n := R) (by omega)
  have y3 : xDa r w1 w2 w1 w2 0 R q 0 0 0 = true := xDa_o (by omega) hR (bd0 _) (bd0 _) hr hq
  refine leads_in (s7_eq n q u z w1 w2 .n R r c1 c2 o1 o2 (.ok 0) .z) (s7n_into n q u z w1 w2 R r c1 c2 gsT o1 o2) (s7n_fits n q u z w1 w2 R r c1 c2 gsT o1 o2) ?_
  refine sk_tt (sk_nn (sk_need y2 (sk_need y1 (sk_need y3 (sk_tt (sk_nn (sk_need y1 (sk_need (xDa_o (by omega) (by omega) (bd0 _) (bd0 _) (bd0 _) hq) (sk_need y2 (sk_need y1 (sk_need y3 (sk_tt (sk_nn (sk_need y1 (sk_need (xCn_o (by omega) (bd0 _) (bd0 _) hq) ?_)))))))))))))))
  exact end7_ok n q u z w1 w2 (by omega) (daV_sum 0 R q w1 w2 w1 w2 r r w1 w2) (sum_cnt w1 w2 w1 w2 q 0 (by omega))
theorem lead7z (hq : clsE q w1 w2 = 0) : Leads (CV n q u z w1 w2 1) ((evR (ptRe7 (k7 .z) .z .z gsT) true ptBody (ptP 6) (.exit 12) (ptX6 n q z w1 w2 .z R r c1 c2 o1 o2)).bind (canO [2, 43, 49, 411, 412, 413] [6] (ptB n q u z w1 w2))) := by
  obtain ⟨q1, q2⟩ := cls_len hq
  have y1 := xCyq_ok q1 (by omega)
  have y3 : xDa zr w1 w2 w1 w2 0 0 q 0 0 0 = true := xDa_o (by omega) (by omega) (bd0 _) (bd0 _) (bd0 _) hq
  refine leads_in (s7_eq n q u z w1 w2 .z R r c1 c2 o1 o2 .z .z) (s7z_into n q u z w1 w2 R r c1 c2 gsT o1 o2) (s7z_fits n q u z w1 w2 R r c1 c2 gsT o1 o2) ?_
  refine sk_tt (sk_nn (sk_need y1 (sk_need y3 (sk_tt (sk_nn (sk_need y1 (sk_need y3 (sk_need y1 (sk_need y3 (sk_tt (sk_nn (sk_need y1 (sk_need (xCn_o (by omega) (bd0 _) (bd0 _) hq) ?_)))))))))))))
  exact end7_ok n q u z w1 w2 (by omega) (daV_sum 0 0 q w1 w2 w1 w2 zr zr w1 w2) (sum_cnt w1 w2 w1 w2 q 0 (by omega))
/-! ### each cycle with the opposite sign -/
theorem pt_loop6 (p : Nat) (hp : p ≤ 256) (hb1 : Bd (p + 1) c1) (hb2 : Bd (p + 1) c2) (h : ∀ i, i < p + 1 → o1 i = -c1 i ∧ o2 i = -c2 i) : ComesF Tryz.prog (.loop (ptC 6)) (ptB n q u z w1 w2) (ptH6 n q z w1 w2 (.c p) R r c1 c2 o1 o2 ((0 : Nat) : Int)) fun o => o = (.exit 12, ptX6 n q z w1 w2 (.c p) R r c1 c2 o1 o2) := by
  refine loop_count (ptRe_ok .z .z .ok) rfl [2, 15, 16, 36, 318, 319, 320] [2, 15, 16, 36] (fun k => ptH6 n q z w1 w2 (.c p) R r c1 c2 o1 o2 (k : Int)) (fun _ => (.exit 12, ptX6 n q z w1 w2 (.c p) R r c1 c2 o1 o2)) (p + 1) (fun k => ptT6 n q u z w1 w2 (.c p) R r c1 c2 gsT o1 o2 (k : Int)) (fun k => sk6 n q z w1 w2 R r c1 c2 p o1 o2 (k : Int)) (fun _ => rfl) (fun k => t6c_into n q u z w1 w2 R r c1 c2 gsT p o1 o2 _) (fun k => t6c_fits n q u z w1 w2 R r c1 c2 gsT p o1 o2 _) (fun k hk => ?_) (sk_no (rnd_end (p + 1)) (sk_leaf rfl))
  obtain ⟨a1, a2, a3⟩ := rnd_lt hk
  obtain ⟨e1, e2⟩ := h k hk
  have b1 := hb1 k hk
  have b2 := hb2 k hk
  have f1 : IntKind.i64.wrap (0 - c1 k) = -c1 k := (wrap_id (by omega) (by omega)).trans (by omega)
  have f2 : IntKind.i64.wrap (0 - c2 k) = -c2 k := (wrap_id (by omega) (by omega)).trans (by omega)
  refine sk_yes a1 (sk_need a2 (sk_need a3 (sk_need a3 (ix_ok rfl hk (sk_no ?_ (ix_ok rfl hk (sk_no ?_ (sk_leaf (rnd_next ?_ rfl)))))))))
  · rw [idx_nat, f1]; exact bneI e1
  · rw [idx_nat, f2]; exact bneI e2
  · rw [wrap_succ (by omega)]; exact St.Le.refl _
theorem pt_loop6x (hk : ∀ p, kd ≠ .c p) : ComesF Tryz.prog (.loop (ptC 6)) (ptB n q u z w1 w2) (ptH6 n q z w1 w2 kd R r c1 c2 o1 o2 0) fun o => o = (.exit 12, ptX6 n q z w1 w2 kd R r c1 c2 o1 o2) :=
  loop_none (ptRe_ok .z .z .ok) rfl [2, 15, 16, 36, 318, 319, 320] [2, 15, 16, 36] (T := ptT6 n q u z w1 w2 kd R r c1 c2 gsT o1 o2 0) rfl (t6x_into n q u z w1 w2 R r c1 c2 gsT kd hk o1 o2) (t6x_fits n q u z w1 w2 R r c1 c2 gsT kd hk o1 o2) (sk_ff (sk_leaf rfl))
end
end
end Go.Ev
