/- Entries: made, Own, Total. Conditions: maps of one row, samples of 0 and 0.25. -/
import Derived.Test.YtjckcdpjibfacaaGreatGrd
namespace Go.Ev
open Go Go.Proofs
set_option maxRecDepth 100000
theorem levOk_bd {x : Int} (h : levOk x = true) : 0 ≤ x ∧ x ≤ 4 := by
 unfold levOk at h
 rw [Bool.or_eq_true, beq_iff_eq, beq_iff_eq] at h
 omega
theorem nz_of {α : Type} {p : α → Bool} {z : Nat → α} {n : Nat} (h : nzB p z n = true) : 0 < n ∧ n ≤ 1000000 ∧ allN p z n = true := by
 unfold nzB at h
 rw [Bool.and_eq_true, Bool.and_eq_true, Nat.blt_eq] at h
 exact ⟨h.1, Nat.le_of_ble_eq_true h.2.1, h.2.2⟩
theorem md_loop {w h : Int} {n : Nat} {g : Nat → Int} (hz : nzB levOk g n = true) : ComesF Tryz.prog (.loop (loopF Tryz.f57)) (mdB w h n g) (mdH w h n g ((0 : Nat) : Int)) fun q => q = (.exit 0, mdX w h n g) := by
 obtain ⟨h0, h1, h2⟩ := nz_of hz
 refine loop_count reN_ok rfl [1, 2, 7, 8, 9] [1, 2] (fun k => mdH w h n g (k : Int)) (fun _ => (.exit 0, mdX w h n g)) n (mdT levQ smpQ w h n g) (mdS w h n g (mdX w h n g)) (fun k => by delta mdT; rfl) (mdT_into levQ smpQ w h n g) (mdT_fits levQ smpQ w h n g) (fun k hk => ?_) ?_
 ·obtain ⟨e1, e2, e3⟩ := rnd_lt hk
  have hx : ixN k = k := idx_nat k
  have hb := levOk_bd (allN_at h2 hk)
  unfold mdS
  refine sk_yes e1 (sk_need e2 (sk_need e3 (sk_no ?_ (sk_no ?_ (sk_leaf (rnd_next ?_ rfl))))))
  ·rw [hx]; simp only [decide_eq_false_iff_not]; omega
  ·rw [hx]; simp only [decide_eq_false_iff_not]; omega
  ·rw [wrap_succ (by omega)]; exact St.Le.refl _
 ·unfold mdS
  exact sk_no (rnd_end n) (sk_leaf rfl)
theorem md_path : pathF Tryz.f57 = [true, false, true] := by kernel_rfl
theorem md_call {w h : Int} {n : Nat} {g : Nat → Int} (hz : nzB levOk g n = true) : CallAt Tryz.prog 57 [gridA w h n] (mdH0 n g) (.tup [(true, ptO w h 2 n), (false, [ci 0])]) (hpT [⟨some 0, n, [.int .i64 g]⟩] [] (mdM levQ smpQ w h n g)) := by
 refine call_base reN_ok (c := bodyOf Tryz.f57) (fn := Tryz.f57) Tryz.func57 (by kernel_rfl) (by kernel_rfl) (true, false) 1 [1, 2, 7, 8, 9] [2, 3] (sB := mdB w h n g) (by kernel_rfl) (mdO_is levQ smpQ w h n g) ?_
 have hl := md_loop (w := w) (h := h) hz
 unfold loopF at hl
 rw [md_path] at hl
 refine (sk_stop _ true [] [2, 3] hl fun q hq => ?_).all
 subst hq
 exact leads_in (show _ = mdP levQ smpQ w h n g (.exit 0, mdX w h n g) by delta mdP; rfl) (mdP_into levQ smpQ w h n g) (mdP_fits levQ smpQ w h n g) (sk_need (okN_ok n) (sk_need hz (sk_done (md_left levQ smpQ w h n g))))
def mdF (lv : Nat → Int) (sm : Int → Nat) : FT
 | [w, h], [], [], [⟨some _, n, [.int .i64 g]⟩] => .need (nzB levOk g n) (.leaf (.tup [(true, ptO w h 2 n), (false, [ci 0])], mdM lv sm w h n g))
 | _, _, _, _ => .fail 733
def mdSp (lv : Nat → Int) (sm : Int → Nat) : Spec := fun args h => specT [(true, [.i, .i, .t intD])] [] (mdF lv sm) args h
theorem mdS_ok : SpecOk Tryz.prog 57 (mdSp levQ smpQ) := by
 refine specT_ok rfl (by decide) fun l m n ts v news hl hm hn ht hnil hF => ?_
 unfold mdF at hF
 split at hF
 ·obtain ⟨hok, hF⟩ := Tree.need_some hF
  simp only [Tree.run, Option.some.injEq, Prod.mk.injEq] at hF
  obtain ⟨rfl, rfl⟩ := hF
  exact md_call hok
 ·cases hF
section
variable (lv : Nat → Int) (sm : Int → Nat) (w h : Int) (n : Nat) (z : Nat → Nat)
noncomputable def owC : Bool := Nat.ble (0 + n) n && Nat.ble ((n + 0) * 4) 140737488355328 && Nat.ble (n + 0) 9223372036854775807
def owN : List Blk := [⟨false, 64, .flat (ptO w h 2 n)⟩, ⟨false, 56, .rows n [.flt .f32 z]⟩]
def owR : St := stN 9 (envL [(2, pt 1)]) (bsS [⟨some 0, n, mkC z⟩] []) [] (owN w h n z)
noncomputable def owS : SkO := .need (owC n) (.leaf (.inl (.ret, owR w h n z)))
theorem ow_into : owO lv sm w h n z = into (owO lv sm w h n z) (owS w h n z) := by kernel_rfl
theorem ow_fits : fits (owO lv sm w h n z) (owS w h n z) = true := by kernel_rfl
theorem ow_left : Left2 Tryz.prog Tryz.f21 (mkH0 n z) (.agg (ptO w h 2 n)) (hpT [⟨some 0, n, mkC z⟩] [] (owN w h n z)) (.ret, owR w h n z) := left_of (b := false) (by kernel_rfl)
end
theorem ow_call {w h : Int} {n : Nat} {z : Nat → Nat} (hn : n ≤ 1000000) : CallAt Tryz.prog 21 [gridA w h n] (mkH0 n z) (.agg (ptO w h 2 n)) (hpT [⟨some 0, n, mkC z⟩] [] (owN w h n z)) := by
 refine call_baseS reN_ok (c := bodyOf Tryz.f21) (fn := Tryz.f21) Tryz.func21 (by kernel_rfl) (by kernel_rfl) (false, false) 0 [] [2] (sB := baseB 9 [gridA w h n] (mkH0 n z)) (by kernel_rfl) (t := owO levQ smpQ w h n z) (by delta owO; rfl) (ow_into levQ smpQ w h n z) (ow_fits levQ smpQ w h n z)
  (sk_need ?_ (sk_done (ow_left w h n z)))
 unfold owC
 simp only [Bool.and_eq_true, Nat.ble_eq]
 omega
def owF : FT
 | [w, h], [], [], [⟨some _, n, [.flt .f32 z]⟩] => .need (Nat.blt 0 n && Nat.ble n 1000000) (.leaf (.agg (ptO w h 2 n), owN w h n z))
 | _, _, _, _ => .fail 734
def owSp : Spec := fun args h => specT [(true, [.i, .i, .t fltD])] [] owF args h
theorem owS_ok : SpecOk Tryz.prog 21 owSp := by
 refine specT_ok rfl (by decide) fun l m n ts v news hl hm hn ht hnil hF => ?_
 unfold owF at hF
 split at hF
 ·obtain ⟨hok, hF⟩ := Tree.need_some hF
  rw [Bool.and_eq_true] at hok
  simp only [Tree.run, Option.some.injEq, Prod.mk.injEq] at hF
  obtain ⟨rfl, rfl⟩ := hF
  exact ow_call (Nat.le_of_ble_eq_true hok.2)
 ·cases hF
def tbTt (lv : Nat → Int) (sm : Int → Nat) : List (FuncId × Spec) := (53, cmSp) :: (54, leSp lv sm) :: tbN lv sm
theorem tbTt_ok : TabOk Tryz.prog (tabOf (tbTt levQ smpQ)) := tab_cons (tab_cons tbN_ok leS_ok) cmS_ok
noncomputable def reTt (lv : Nat → Int) (sm : Int → Nat) : Code → St → Tree (X × St) := recT Tryz.prog (tabOf (tbTt lv sm))
theorem reTt_ok : RecOk Tryz.prog (reTt levQ smpQ) := recT_ok tbTt_ok
def sumW (f : Nat → Int) : Nat → Int
 | 0 => 0
 | k + 1 => IntKind.i64.wrap (sumW f k + f k)
section
variable (lv : Nat → Int) (sm : Int → Nat) (w h : Int) (n : Nat) (z : Nat → Nat)
noncomputable def ttO2 : Tree ((X × St) ⊕ (List Bool × St)) := evO (reTt lv sm) (bodyOf Tryz.f22) [5, 15, 16, 17] [2, 3] (ttB w h n z)
def ttE (s i : Int) : List (Nat × A) := [(5, int s), (15, slO 1 1 n), (16, int n), (17, int i)]
def ttH (s i : Int) : St := ttN n z (ttE n s i) [mlO lv sm z n]
def ttX (s : Int) : St := ttN n z [(5, int s)] []
noncomputable def ttT (s : Int) (k : Nat) : Tree (X × St) := (reTt lv sm (loopF Tryz.f22) (ttH lv sm n z s (k : Int))).bind (canonT [5, 15, 16, 17] [5] (ttB w h n z))
noncomputable def ttP (q : X × St) : Tree ((X × St) ⊕ (List Bool × St)) := evO2 (reTt lv sm) true (bodyOf Tryz.f22) (pathF Tryz.f22) [] [2, 3] (ttB w h n z) q
def ttR (s : Int) : St := ttN n z [(2, int s), (3, int 0)] []
def ttS0 : SkO := .need (okN n) (.need (mapOk w h n && allN qOk z n) (.ff (.need (okN n) (.need (nzB qOk z n) (.leaf (.inr ([true, true, true, false, true], ttH lv sm n z 0 ((0 : Nat) : Int))))))))
theorem ttO_into : ttO2 lv sm w h n z = into (ttO2 lv sm w h n z) (ttS0 lv sm w h n z) := by kernel_rfl
theorem ttO_fits : fits (ttO2 lv sm w h n z) (ttS0 lv sm w h n z) = true := by kernel_rfl
def ttS (s : Int) (k : Nat) : SkX := .node (decide ((k : Int) < (n : Int))) (.need (kB n k) (.need (Nat.blt (ixN k) n) (.leaf (.normal, ttH lv sm n z (IntKind.i64.wrap (s + lv (z (ixN k)))) (IntKind.i64.wrap ((k : Int) + 1)))))) (.leaf (.exit 0, ttX n z s))
theorem ttT_into (s : Int) (k : Nat) : ttT lv sm w h n z s k = into (ttT lv sm w h n z s k) (ttS lv sm n z s k) := by kernel_rfl
theorem ttT_fits (s : Int) (k : Nat) : fits (ttT lv sm w h n z s k) (ttS lv sm n z s k) = true := by kernel_rfl
theorem ttP_is (s : Int) : ttP lv sm w h n z (.exit 0, ttX n z s) = .leaf (.inl (.ret, ttR n z s)) := by kernel_rfl
theorem tt_left (s : Int) : Left2 Tryz.prog Tryz.f22 (mkH0 n z) (.tup [(false, [ci s]), (false, [ci 0])]) (mkH0 n z) (.ret, ttR n z s) := left_of (b := true) (by kernel_rfl)
end
theorem tt_path : pathF Tryz.f22 = [true, true, true, false, true] := by kernel_rfl
def totW (lv : Nat → Int) (n : Nat) (z : Nat → Nat) : Int := sumW (fun i => lv (z i)) n
theorem tt_loop {w h : Int} {n : Nat} {z : Nat → Nat} (hn : n ≤ 1000000) : ComesF Tryz.prog (.loop (loopF Tryz.f22)) (ttB w h n z) (ttH levQ smpQ n z 0 ((0 : Nat) : Int)) fun q => q = (.exit 0, ttX n z (totW levQ n z)) := by
 refine loop_count reTt_ok rfl [5, 15, 16, 17] [5] (fun k => ttH levQ smpQ n z (sumW (fun i => levQ (z i)) k) (k : Int)) (fun _ => (.exit 0, ttX n z (totW levQ n z))) n (fun k => ttT levQ smpQ w h n z (sumW (fun i => levQ (z i)) k) k) (fun k => ttS levQ smpQ n z (sumW (fun i => levQ (z i)) k) k) (fun k => by delta ttT; rfl) (fun k => ttT_into levQ smpQ w h n z _ k) (fun k => ttT_fits levQ smpQ w h n z _ k) (fun k hk => ?_) ?_
 ·obtain ⟨e1, e2, e3⟩ := rnd_lt hk
  have hx : ixN k = k := idx_nat k
  unfold ttS
  refine sk_yes e1 (sk_need e2 (sk_need e3 (sk_leaf (rnd_next ?_ rfl))))
  rw [wrap_succ (by omega), hx]
  exact St.Le.refl _
 ·unfold ttS
  exact sk_no (rnd_end n) (sk_leaf rfl)
theorem map_nz {w h : Int} {n : Nat} {z : Nat → Nat} (h1 : mapOk w h n = true) (h2 : allN qOk z n = true) : nzB qOk z n = true := by
 obtain ⟨_, _, h3, h4⟩ := mapOk_iff h1
 unfold nzB
 rw [h2, Bool.and_eq_true, Bool.and_eq_true, Nat.blt_eq, Nat.ble_eq]
 exact ⟨h3, by omega, rfl⟩
theorem tt_call {w h : Int} {n : Nat} {z : Nat → Nat} (h1 : mapOk w h n = true) (h2 : allN qOk z n = true) : CallAt Tryz.prog 22 [gridA w h n] (mkH0 n z) (.tup [(false, [ci (totW levQ n z)]), (false, [ci 0])]) (mkH0 n z) := by
 obtain ⟨_, _, _, hn⟩ := mapOk_iff h1
 refine call_baseS reTt_ok (c := bodyOf Tryz.f22) (fn := Tryz.f22) Tryz.func22 (by kernel_rfl) (by kernel_rfl) (false, false) 1 [5, 15, 16, 17] [2, 3] (sB := ttB w h n z) (by kernel_rfl) (t := ttO2 levQ smpQ w h n z) (by delta ttO2; rfl) (ttO_into levQ smpQ w h n z) (ttO_fits levQ smpQ w h n z) ?_
 have hl := tt_loop (w := w) (h := h) (n := n) (z := z) (by omega)
 unfold loopF at hl
 rw [tt_path] at hl
 refine sk_need (okN_ok n) (sk_need (by rw [h1, h2]; rfl) (sk_ff (sk_need (okN_ok n) (sk_need (map_nz h1 h2) (sk_stop _ true [] [2, 3] hl fun q hq => ?_)))))
 subst hq
 refine leads_leaf (show _ = ttP levQ smpQ w h n z (.exit 0, ttX n z (totW levQ n z)) from ?_) (ttP_is levQ smpQ w h n z _) (cutF_dn (tt_left n z _))
 delta ttP
 rw [tt_path]
def ttF (to : Nat → (Nat → Nat) → Int) : FT
 | [w, h], [], [], [⟨some _, n, [.flt .f32 z]⟩] => .need (mapOk w h n && allN qOk z n) (.leaf (.tup [(false, [ci (to n z)]), (false, [ci 0])], []))
 | _, _, _, _ => .fail 735
def ttSp (to : Nat → (Nat → Nat) → Int) : Spec := fun args h => specT [(true, [.i, .i, .t fltD])] [] (ttF to) args h
theorem ttS_ok : SpecOk Tryz.prog 22 (ttSp (totW levQ)) := by
 refine specT_ok rfl (by decide) fun l m n ts v news hl hm hn ht hnil hF => ?_
 unfold ttF at hF
 split at hF
 ·obtain ⟨hok, hF⟩ := Tree.need_some hF
  rw [Bool.and_eq_true] at hok
  simp only [Tree.run, Option.some.injEq, Prod.mk.injEq] at hF
  obtain ⟨rfl, rfl⟩ := hF
  exact tt_call hok.1 hok.2
 ·cases hF
end Go.Ev
