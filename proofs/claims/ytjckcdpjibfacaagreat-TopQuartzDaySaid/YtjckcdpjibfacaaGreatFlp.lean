/- Entry: Flipped. Conditions: maps of one row, samples of 0 and 0.25. -/
import Derived.Test.YtjckcdpjibfacaaGreatFrm
namespace Go.Ev
open Go Go.Proofs
set_option maxRecDepth 100000
def tbFl (lv : Nat → Int) (sm : Int → Nat) (fr : Nat → (Nat → Int) → Nat → Int) : List (FuncId × Spec) := (55, frSp fr) :: (57, mdSp lv sm) :: tbTt lv sm
theorem tbFl_ok : TabOk Tryz.prog (tabOf (tbFl levQ smpQ frF')) := tab_cons (tab_cons tbTt_ok mdS_ok) frSp_ok
noncomputable def reFl (lv : Nat → Int) (sm : Int → Nat) (fr : Nat → (Nat → Int) → Nat → Int) : Code → St → Tree (X × St) := recT Tryz.prog (tabOf (tbFl lv sm fr))
theorem reFl_ok : RecOk Tryz.prog (reFl levQ smpQ frF') := recT_ok tbFl_ok
section
variable (lv : Nat → Int) (sm : Int → Nat) (fr : Nat → (Nat → Int) → Nat → Int) (n : Nat) (z : Nat → Nat)
def flB : St := { baseB 22 [gridA n 1 n] (mkH0 n z) with wide := true }
noncomputable def flO : Tree ((X × St) ⊕ (List Bool × St)) := evO (reFl lv sm fr) (bodyOf Tryz.f20) [] [2, 3] (flB n z)
def flG : Nat → Int := fr n (mlZ lv sm z)
def flM : List Blk := [⟨false, 47, .flat (ptO n 1 2 n)⟩, msO lv sm (flG lv sm fr n z) n]
def flR : St := { stN 22 (envL [(2, pt 1), (3, int 0)]) (bsS [⟨some 0, n, mkC z⟩] []) [] (flM lv sm fr n z) with wide := true }
def frK (n : Nat) : Bool := mapOk n 1 n && (mapOk n 1 n && (decide ((n : Int) = n) && (Nat.ble n n && true)))
def flS : SkO := .need (okN n) (.need (mapOk n 1 n && allN qOk z n) (.ff (.need (okN n) (.need (nzB qOk z n) (.need (frK n) (.need (okN n) (.need (nzB levOk (flG lv sm fr n z) n) (.leaf (.inl (.ret, flR lv sm fr n z)))))))))) 
theorem fl_into : flO lv sm fr n z = into (flO lv sm fr n z) (flS lv sm fr n z) := by kernel_rfl
theorem fl_fits : fits (flO lv sm fr n z) (flS lv sm fr n z) = true := by kernel_rfl
theorem fl_left : Left2 Tryz.prog Tryz.f20 (mkH0 n z) (.tup [(true, ptO n 1 2 n), (false, [ci 0])]) (hpT [⟨some 0, n, mkC z⟩] [] (flM lv sm fr n z)) (.ret, flR lv sm fr n z) := left_of (b := false) (by kernel_rfl)
end
theorem lev_ok' {x : Nat} (h : qOk x = true) : levOk (levQ x) = true := by
 rcases qOk_or h with rfl | rfl <;> rfl
theorem smp_lev {x : Nat} (h : qOk x = true) : smpQ (levQ x) = x := by
 rcases qOk_or h with rfl | rfl <;> rfl
theorem fl_call {n : Nat} {z : Nat → Nat} (h1 : mapOk n 1 n = true) (h2 : allN qOk z n = true) : CallAt Tryz.prog 20 [gridA n 1 n] (mkH0 n z) (.tup [(true, ptO n 1 2 n), (false, [ci 0])]) (hpT [⟨some 0, n, mkC z⟩] [] (flM levQ smpQ frF' n z)) := by
 obtain ⟨_, _, h3, h4⟩ := mapOk_iff h1
 refine call_baseS reFl_ok (c := bodyOf Tryz.f20) (fn := Tryz.f20) Tryz.func20 (by kernel_rfl) (by kernel_rfl) (true, false) 0 [] [2, 3] (sB := flB n z) (by kernel_rfl) (t := flO levQ smpQ frF' n z) (by delta flO; rfl) (fl_into levQ smpQ frF' n z) (fl_fits levQ smpQ frF' n z) ?_
 refine sk_need (okN_ok n) (sk_need (by rw [h1, h2]; rfl) (sk_ff (sk_need (okN_ok n) (sk_need (map_nz h1 h2) (sk_need ?_ (sk_need (okN_ok n) (sk_need ?_ (sk_done (fl_left levQ smpQ frF' n z)))))))))
 ·unfold frK
  rw [h1, ble_self]
  simp
 ·unfold nzB
  rw [Bool.and_eq_true, Bool.and_eq_true, Nat.blt_eq, Nat.ble_eq]
  refine ⟨h3, by omega, allN_of fun k hk => ?_⟩
  show levOk (frF n (mlZ levQ smpQ z) n k) = true
  rw [frF_at hk]
  exact lev_ok' (allN_at h2 (by omega))
def flF (lv : Nat → Int) (sm : Int → Nat) (fr : Nat → (Nat → Int) → Nat → Int) : FT
 | [w, h], [], [], [⟨some _, n, [.flt .f32 z]⟩] => .need (mapOk w h n && allN qOk z n) (.leaf (.tup [(true, ptO n 1 2 n), (false, [ci 0])], flM lv sm fr n z))
 | _, _, _, _ => .fail 742
def flSp (lv : Nat → Int) (sm : Int → Nat) (fr : Nat → (Nat → Int) → Nat → Int) : Spec := fun args h => specT [(true, [.i, .i, .t fltD])] [] (flF lv sm fr) args h
theorem flS_ok : SpecOk Tryz.prog 20 (flSp levQ smpQ frF') := by
 refine specT_ok rfl (by decide) fun l m n ts v news hl hm hn ht hnil hF => ?_
 unfold flF at hF
 split at hF
 ·rename_i w h id n z
  obtain ⟨hok, hF⟩ := Tree.need_some hF
  rw [Bool.and_eq_true] at hok
  simp only [Tree.run, Option.some.injEq, Prod.mk.injEq] at hF
  obtain ⟨rfl, rfl⟩ := hF
  have hm := hok.1
  obtain ⟨rfl, rfl, _, _⟩ := mapOk_iff hok.1
  exact fl_call hm hok.2
 ·cases hF
def cntQ (z : Nat → Nat) : Nat → Nat
 | 0 => 0
 | k + 1 => cntQ z k + (match Nat.beq (z k) 0 with | true => 0 | false => 1)
theorem cntQ_le (z : Nat → Nat) : ∀ k, cntQ z k ≤ k
 | 0 => Nat.le_refl _
 | k + 1 => by
  have := cntQ_le z k
  unfold cntQ
  cases Nat.beq (z k) 0 <;> simp <;> omega
theorem sum_cnt {z : Nat → Nat} : ∀ {k : Nat}, k ≤ 1000000 → sumW (fun i => levQ (z i)) k = 4 * (cntQ z k : Int)
 | 0, _ => rfl
 | k + 1, hk => by
  have h1 := cntQ_le z k
  unfold sumW cntQ
  rw [sum_cnt (k := k) (by omega)]
  unfold levQ
  cases Nat.beq (z k) 0 with
  | true => simp only [Int.add_zero, Nat.add_zero]; exact wrap_id (by omega) (by omega)
  | false =>
   simp only []
   rw [wrap_id (by omega) (by omega)]
   omega
theorem cnt_snoc (z : Nat → Nat) : ∀ k, cntQ z (k + 1) = (match Nat.beq (z 0) 0 with | true => 0 | false => 1) + cntQ (fun i => z (i + 1)) k
 | 0 => by simp only [cntQ]; omega
 | k + 1 => by
  rw [show cntQ z (k + 1 + 1) = cntQ z (k + 1) + (match Nat.beq (z (k + 1)) 0 with | true => 0 | false => 1) from rfl, cnt_snoc z k]
  simp only [cntQ]
  omega
theorem cnt_flip : ∀ (k : Nat) (z : Nat → Nat), cntQ (fun i => z (k - 1 - i)) k = cntQ z k
 | 0, _ => rfl
 | k + 1, z => by
  rw [cnt_snoc z k, ← cnt_flip k fun i => z (i + 1)]
  show cntQ (fun i => z (k + 1 - 1 - i)) k + (match Nat.beq (z (k + 1 - 1 - k)) 0 with | true => 0 | false => 1) = _
  have e : ∀ j, j ≤ k → cntQ (fun i => z (k + 1 - 1 - i)) j = cntQ (fun i => (fun i => z (i + 1)) (k - 1 - i)) j := by
   intro j
   induction j with
   | zero => intro _; rfl
   | succ j ih =>
    intro hj
    simp only [cntQ]
    rw [ih (by omega), show k + 1 - 1 - j = k - 1 - j + 1 by omega]
  rw [e k (Nat.le_refl _), show k + 1 - 1 - k = 0 by omega]
  exact Nat.add_comm _ _
theorem tot_flip {n : Nat} {z : Nat → Nat} (hn : n ≤ 64) (h2 : allN qOk z n = true) : allN qOk (msZ levQ smpQ (flG levQ smpQ frF' n z)) n = true ∧ totW levQ n (msZ levQ smpQ (flG levQ smpQ frF' n z)) = totW levQ n z := by
 have hz : ∀ i, i < n → msZ levQ smpQ (flG levQ smpQ frF' n z) i = z (n - 1 - i) := fun i hi => by
  show smpQ (frF n (mlZ levQ smpQ z) n i) = _
  rw [frF_at hi]
  exact smp_lev (allN_at h2 (by omega))
 refine ⟨allN_of fun k hk => by rw [hz k hk]; exact allN_at h2 (by omega), ?_⟩
 unfold totW
 rw [sum_cnt (by omega), sum_cnt (by omega)]
 have e : ∀ j, j ≤ n → cntQ (msZ levQ smpQ (flG levQ smpQ frF' n z)) j = cntQ (fun i => z (n - 1 - i)) j := by
  intro j
  induction j with
  | zero => intro _; rfl
  | succ j ih => intro hj; simp only [cntQ]; rw [ih (by omega), hz j (by omega)]
 rw [e n (Nat.le_refl _), cnt_flip]
end Go.Ev
