/- The law of a tank's texts: its entries, its tree. Conditions: as the entries say. The law of a tank's texts. Conditions: none. -/
import Derived.Test.YtlpchgidkibbeaaGreatDoorPqS
import Derived.Test.YtlpchgidkibbeaaGreatDoorIsT
namespace Go.Ev
open Go Go.RowKit Go.Proofs
set_option maxRecDepth 100000

/-! entries where the errors are known -/
def prFE (tP : Int → (Nat → Int) → (Nat → Int) → Nat → ByteArray) (e : Nat) : FT
  | [room], [], [], [⟨_, n, [.int .i64 z1, .int .i64 z2]⟩] => .need (Nat.ble n 17 && (tankE n room z1 z2 == (e : Int))) (.leaf (match e with | 0 => prV (tP room z1 z2 n) 0 | c + 1 => prV ⟨#[]⟩ ((c + 1 : Nat) : Int), []))
  | _, _, _, _ => .fail 540
def pqFE (tQ : Int → (Nat → Int) → (Nat → Int) → Nat → ByteArray) : FT
  | [room], [], [], [⟨_, n, [.int .i64 z1, .int .i64 z2]⟩] => .need (tankE n room z1 z2 == 0) (.leaf (.one (.lit (.string (tQ room z1 z2 n))), []))
  | _, _, _, _ => .fail 541
def psFE (V : Int → Nat → A) (W : Int → (Nat → Int) → (Nat → Int) → Nat → List Blk) (pE pA pR : ByteArray → Int) (p1 p2 : ByteArray → Nat → Int) (pN : ByteArray → Nat) (e nl : Nat) : FT
  | [], [], [s], [] => .need ((pE s == (e : Int)) && Nat.beq (pN s) nl) (.leaf (match e with | 0 => (V (pR s) nl, W (pR s) (p1 s) (p2 s) nl) | c + 1 => (errV (pA s) ((c + 1 : Nat) : Int), [])))
  | _, _, _, _ => .fail 542
section
variable (tP tQ : Int → (Nat → Int) → (Nat → Int) → Nat → ByteArray) (pE pA pR : ByteArray → Int) (p1 p2 : ByteArray → Nat → Int) (pN : ByteArray → Nat) (e e2 nl : Nat)
def tbTx : List (FuncId × Spec) := (13, specAwake) :: (68, fun args h => specT [tkS] glW (prFE tP e) args h) :: (70, fun args h => specT [tkS] [] (pqFE tQ) args h) ::
  (69, fun args h => specT [(false, [.s])] [] (psFE paV paNw pE pA pR p1 p2 pN e2 nl) args h) :: (71, fun args h => specT [(false, [.s])] [] (psFE qaV qaNw pE pA pR p1 p2 pN e2 nl) args h) ::
  (47, fun args h => specT [tkS] [] (ctFE (e : Int)) args h) :: (56, isSp) :: tbT1
noncomputable def txT (n : Nat) (room : Int) (z1 z2 : Nat → Int) (s : ByteArray) := preA Tryz.prog (tabOf (tbTx tP tQ pE pA pR p1 p2 pN e e2 nl)) Tryz.f10 [.agg [ci room, slC false 0 2 n], .one (.lit (.string s))] (hpL1 n (tkC z1 z2)) (false, true)
section
variable (n : Nat) (room : Int) (z1 z2 : Nat → Int) (s : ByteArray)
def txLf (b : Bool) : SkL := lfT (hpL1 n (tkC z1 z2)) b
/-- what is asked at the end: whether both parsers have told the same -/
def txTl : Nat → Nat → SkL
  | c + 1, _ => .node (isN 0 0 ((c + 1 : Nat) : Int) ((c + 1 : Nat) : Int)) (.node (pA s == pA s) (txLf n z1 z2 true) (txLf n z1 z2 false)) (.ff (txLf n z1 z2 false))
  | 0, 0 => .node (isN (pR s) (pR s) 0 0) (.tt (txLf n z1 z2 true)) (.ff (txLf n z1 z2 false))
  | 0, m + 1 => .need (ok2 (m + 1) (m + 1)) (.need (Nat.ble (m + 1) 1000000) (.node (isV (m + 1) (m + 1) (pR s) (pR s) 0 (p1 s) (p2 s) (p1 s) (p2 s)) (.tt (txLf n z1 z2 true)) (.ff (txLf n z1 z2 false))))
def txPN (S : SkL) : SkL := .nn (.need ((pE s == (e2 : Int)) && Nat.beq (pN s) nl) S)
def txOk (S : SkL) : Nat → SkL
  | 0 => S
  | k + 1 => .need (okN (k + 1)) S
def txEd (y1 y2 : Nat → Int) : Nat → Nat → SkL
  | c + 1, _ => .ff (txPN pE pN e2 nl s (.tt (.node (((c + 1 : Nat) : Int) == ((c + 1 : Nat) : Int)) (txTl pA pR p1 p2 n z1 z2 s e2 nl) (.ff (.ff (txLf n z1 z2 false))))))
  | 0, 0 => .tt (.nn (.need (tankE 0 room z1 z2 == 0) (txPN pE pN e2 nl s (.node ((tP room y1 y2 0).toList == (tQ room z1 z2 0).toList) (.tt (txTl pA pR p1 p2 n z1 z2 s e2 nl)) (.ff (.ff (.ff (txLf n z1 z2 false))))))))
  | 0, k + 1 => .tt (.need (okN (k + 1)) (.need (tankE (k + 1) room z1 z2 == 0) (txPN pE pN e2 nl s (.node ((tP room z1 z2 (k + 1)).toList == (tQ room z1 z2 (k + 1)).toList) (.tt (txTl pA pR p1 p2 n z1 z2 s e2 nl)) (.ff (.ff (.ff (txLf n z1 z2 false))))))))
def txG : Nat → SkL
  | 0 => .tt (.nn (.need (Nat.ble 0 17 && (tankE 0 room (fun _ => 0) (fun _ => 0) == (e : Int))) (txPN pE pN e2 nl s (.nn (.nn (.need (tankE 0 room z1 z2 == (e : Int)) (txEd tP tQ pE pA pR p1 p2 pN e2 nl n room z1 z2 s (fun _ => 0) (fun _ => 0) e 0)))))))
  | k + 1 => .need (okN (k + 1)) (.need (Nat.ble (k + 1) 1000000) (.ff (.need (okN (k + 1)) (.need (Nat.ble (k + 1) 17 && (tankE (k + 1) room z1 z2 == (e : Int))) (txPN pE pN e2 nl s (.need (okN (k + 1)) (.need (Nat.ble (k + 1) 17) (.need (tankE (k + 1) room z1 z2 == (e : Int)) (txEd tP tQ pE pA pR p1 p2 pN e2 nl n room z1 z2 s (fun _ => 0) (fun _ => 0) e (k + 1))))))))))
def txB : SkL := .node (decide ((s.size : Int) > 200)) (.node ((s.size : Int) != 4097) (txLf n z1 z2 true) (txG tP tQ pE pA pR p1 p2 pN e e2 nl n room z1 z2 s n)) (.ff (txG tP tQ pE pA pR p1 p2 pN e e2 nl n room z1 z2 s n))
def txS : Nat → SkL
  | 0 => .ff (txB tP tQ pE pA pR p1 p2 pN e e2 nl n room z1 z2 s)
  | k + 1 => .node (decide (((k + 1 : Nat) : Int) > 17)) (.tt (txLf n z1 z2 true)) (txB tP tQ pE pA pR p1 p2 pN e e2 nl n room z1 z2 s)
end
theorem tx_into (n : Nat) (room : Int) (z1 z2 : Nat → Int) (s : ByteArray) : txT tP tQ pE pA pR p1 p2 pN e e2 nl n room z1 z2 s = into (txT tP tQ pE pA pR p1 p2 pN e e2 nl n room z1 z2 s) (txS tP tQ pE pA pR p1 p2 pN e e2 nl n room z1 z2 s n) := by
  cases n with
  | zero =>
    cases e with
    | zero =>
      cases e2 with
      | zero =>
        cases nl with
        | zero => kernel_rfl
        | succ m => kernel_rfl
      | succ c => kernel_rfl
    | succ d =>
      cases e2 with
      | zero =>
        cases nl with
        | zero => kernel_rfl
        | succ m => kernel_rfl
      | succ c => kernel_rfl
  | succ k =>
    cases e with
    | zero =>
      cases e2 with
      | zero =>
        cases nl with
        | zero => kernel_rfl
        | succ m => kernel_rfl
      | succ c => kernel_rfl
    | succ d =>
      cases e2 with
      | zero =>
        cases nl with
        | zero => kernel_rfl
        | succ m => kernel_rfl
      | succ c => kernel_rfl
theorem tx_fits (n : Nat) (room : Int) (z1 z2 : Nat → Int) (s : ByteArray) : fits (txT tP tQ pE pA pR p1 p2 pN e e2 nl n room z1 z2 s) (txS tP tQ pE pA pR p1 p2 pN e e2 nl n room z1 z2 s n) = true := by
  cases n with
  | zero =>
    cases e with
    | zero =>
      cases e2 with
      | zero =>
        cases nl with
        | zero => kernel_rfl
        | succ m => kernel_rfl
      | succ c => kernel_rfl
    | succ d =>
      cases e2 with
      | zero =>
        cases nl with
        | zero => kernel_rfl
        | succ m => kernel_rfl
      | succ c => kernel_rfl
  | succ k =>
    cases e with
    | zero =>
      cases e2 with
      | zero =>
        cases nl with
        | zero => kernel_rfl
        | succ m => kernel_rfl
      | succ c => kernel_rfl
    | succ d =>
      cases e2 with
      | zero =>
        cases nl with
        | zero => kernel_rfl
        | succ m => kernel_rfl
      | succ c => kernel_rfl
end
end Go.Ev

namespace Go.Ev
open Go Go.RowKit Go.Proofs
set_option maxRecDepth 100000

theorem prE_ok (e : Nat) : SpecOk Tryz.prog 68 fun args h => specT [tkS] glW (prFE txP e) args h := specT_sub (F := prF) pr_ok fun l m n ts r hr => by
  unfold prFE at hr
  split at hr
  · rename_i room id n z1 z2
    obtain ⟨h1, hr⟩ := Tree.need_some hr
    rw [Bool.and_eq_true, beq_iff_eq] at h1
    unfold prF
    rw [run_need h1.1]
    have h2 := h1.2
    cases e with
    | zero =>
      have h3 : (tankE n room z1 z2 != 0) = false := by rw [h2]; rfl
      rw [h3]
      exact hr
    | succ c =>
      have h3 : (tankE n room z1 z2 != 0) = true := by rw [h2]; simp only [bne_iff_ne, ne_eq]; omega
      rw [h3, h2]
      exact hr
  · cases hr
theorem pqE_ok : SpecOk Tryz.prog 70 fun args h => specT [tkS] [] (pqFE txQ) args h := specT_sub (F := pqF) pq_ok fun l m n ts r hr => by
  unfold pqFE at hr
  split at hr
  · obtain ⟨h1, hr⟩ := Tree.need_some hr
    unfold pqF
    rw [run_need h1]
    exact hr
  · cases hr
theorem paE_ok (e nl : Nat) : SpecOk Tryz.prog 69 fun args h => specT [(false, [.s])] [] (psFE paV paNw psE psAt rmP f1P f2P nlP e nl) args h := by
  refine specT_ok (by decide) (by decide) fun l m n ts v news hl hm hn ht hnil hF => ?_
  unfold psFE at hF
  split at hF
  · rename_i s
    obtain ⟨hok, hF⟩ := Tree.need_some hF
    rw [Bool.and_eq_true, beq_iff_eq] at hok
    obtain ⟨h1, h2⟩ := hok
    have h2 := Nat.eq_of_beq_eq_true h2
    refine pa_call s v (hpT [] [] news) (fun h => ?_) fun h => ?_
    · cases e with
      | zero => exact absurd h1 h
      | succ c =>
        simp only [Tree.run, Option.some.injEq, Prod.mk.injEq] at hF
        obtain ⟨rfl, rfl⟩ := hF
        exact ⟨by rw [h1], rfl⟩
    · cases e with
      | zero =>
        simp only [Tree.run, Option.some.injEq, Prod.mk.injEq] at hF
        obtain ⟨rfl, rfl⟩ := hF
        rw [h2]
        exact ⟨rfl, rfl⟩
      | succ c => rw [h] at h1; exact absurd h1 (by omega)
  · cases hF
theorem pqaE_ok (e nl : Nat) : SpecOk Tryz.prog 71 fun args h => specT [(false, [.s])] [] (psFE qaV qaNw psE psAt rmP f1P f2P nlP e nl) args h := by
  refine specT_ok (by decide) (by decide) fun l m n ts v news hl hm hn ht hnil hF => ?_
  unfold psFE at hF
  split at hF
  · rename_i s
    obtain ⟨hok, hF⟩ := Tree.need_some hF
    rw [Bool.and_eq_true, beq_iff_eq] at hok
    obtain ⟨h1, h2⟩ := hok
    have h2 := Nat.eq_of_beq_eq_true h2
    refine pq_call2 s v (hpT [] [] news) (fun h => ?_) fun h => ?_
    · cases e with
      | zero => exact absurd h1 h
      | succ c =>
        simp only [Tree.run, Option.some.injEq, Prod.mk.injEq] at hF
        obtain ⟨rfl, rfl⟩ := hF
        exact ⟨by rw [h1], rfl⟩
    · cases e with
      | zero =>
        simp only [Tree.run, Option.some.injEq, Prod.mk.injEq] at hF
        obtain ⟨rfl, rfl⟩ := hF
        rw [h2]
        exact ⟨rfl, rfl⟩
      | succ c => rw [h] at h1; exact absurd h1 (by omega)
  · cases hF
theorem tbTx_ok (e e2 nl : Nat) : TabOk Tryz.prog (tabOf (tbTx txP txQ psE psAt rmP f1P f2P nlP e e2 nl)) := tab_cons (tab_cons (tab_cons (tab_cons (tab_cons (tab_cons (tab_cons tbT1_ok is_ok) (qcE_ok (e : Int))) (pqaE_ok e2 nl)) (paE_ok e2 nl)) pqE_ok) (prE_ok e)) specAwake_ok
theorem e0S_nn (s : ByteArray) : 0 ≤ e0S s := firstZ_nn _ fun z hz => by
  simp only [List.mem_cons, List.not_mem_nil, or_false] at hz
  rcases hz with rfl | rfl <;> exact errIf_nn _ (by decide)
theorem psE_nn (s : ByteArray) : 0 ≤ psE s := by
  unfold psE
  split
  · exact e0S_nn s
  · split
    · decide
    · exact tankE_nn _ _ _ _
theorem isN_room (r : Int) : isN r r 0 0 = true := by
  show sameT 0 0 r r zzI zzI zzI zzI = true
  exact sameT_id 0 r zzI zzI
section
variable (n : Nat) (room : Int) (z1 z2 : Nat → Int) (s : ByteArray)
theorem txTl_ok (hm : nlP s ≤ 1000000) : ∀ (e2 nl : Nat), psE s = (e2 : Int) → nl = nlP s → SkLeads (isTrueL (hpL1 n (tkC z1 z2))) (txTl psAt rmP f1P f2P n z1 z2 s e2 nl)
  | c + 1, _, _, _ => sk_yes (isN_err _) (sk_yes (by simp) (sk_leaf rfl))
  | 0, 0, _, _ => sk_yes (isN_room _) (sk_tt (sk_leaf rfl))
  | 0, m + 1, _, h => by
    refine sk_need (ok2_ok _ _) (sk_need (ble_lit (by omega)) (sk_yes ?_ (sk_tt (sk_leaf rfl))))
    show sameT (m + 1) (m + 1) (rmP s) (rmP s) (f1P s) (f2P s) (f1P s) (f2P s) = true
    exact sameT_id _ _ _ _
theorem txPN_ok {ψ : (Bool × A × Hp) ⊕ (List Bool × St) → Prop} {S : SkL} {e2 nl : Nat} (h1 : psE s = (e2 : Int)) (h2 : nl = nlP s) (hS : SkLeads ψ S) : SkLeads ψ (txPN psE nlP e2 nl s S) := by
  refine sk_nn (sk_need ?_ hS)
  rw [h1, h2]
  simp
theorem txEd_ok {e2 nl : Nat} (h1 : psE s = (e2 : Int)) (h2 : nl = nlP s) (hm : nlP s ≤ 1000000) : ∀ (e m : Nat), tankE m room z1 z2 = (e : Int) → SkLeads (isTrueL (hpL1 n (tkC z1 z2))) (txEd txP txQ psE psAt rmP f1P f2P nlP e2 nl n room z1 z2 s (fun _ => 0) (fun _ => 0) e m)
  | c + 1, m, hT => by
    have hL := txTl_ok n z1 z2 s hm e2 nl h1 h2
    have hS := sk_ff (txPN_ok s h1 h2 (sk_tt (sk_yes (S' := .ff (.ff (txLf n z1 z2 false))) (b := (((c + 1 : Nat) : Int) == ((c + 1 : Nat) : Int))) (by simp) hL)))
    cases m <;> exact hS
  | 0, 0, hT => by
    have hL := txTl_ok n z1 z2 s hm e2 nl h1 h2
    refine sk_tt (sk_nn (sk_need (by rw [hT]; rfl) (txPN_ok s h1 h2 (sk_yes ?_ (sk_tt hL)))))
    rw [← tx_same]
    exact beq_self_eq_true _
  | 0, k + 1, hT => by
    have hL := txTl_ok n z1 z2 s hm e2 nl h1 h2
    refine sk_tt (sk_need (okN_ok _) (sk_need (by rw [hT]; rfl) (txPN_ok s h1 h2 (sk_yes ?_ (sk_tt hL)))))
    rw [← tx_same]
    exact beq_self_eq_true _
theorem txG_ok {e e2 nl : Nat} (h1 : psE s = (e2 : Int)) (h2 : nl = nlP s) (hm : nlP s ≤ 1000000) : ∀ (m : Nat), m ≤ 17 → tankE m room z1 z2 = (e : Int) → SkLeads (isTrueL (hpL1 n (tkC z1 z2))) (txG txP txQ psE psAt rmP f1P f2P nlP e e2 nl n room z1 z2 s m)
  | 0, _, hT => by
    have hT0 : tankE 0 room (fun _ => 0) (fun _ => 0) = (e : Int) := hT
    exact sk_tt (sk_nn (sk_need (by rw [hT0]; simp) (txPN_ok s h1 h2 (sk_nn (sk_nn (sk_need (by rw [hT]; simp) (txEd_ok n room z1 z2 s h1 h2 hm e 0 hT)))))))
  | k + 1, hk, hT => sk_need (okN_ok _) (sk_need (ble_lit (by omega)) (sk_ff (sk_need (okN_ok _) (sk_need (by rw [hT, ble_lit hk]; simp) (txPN_ok s h1 h2 (sk_need (okN_ok _) (sk_need (ble_lit hk) (sk_need (by rw [hT]; simp) (txEd_ok n room z1 z2 s h1 h2 hm e (k + 1) hT)))))))))
theorem txB_ok {e e2 nl : Nat} (h1 : psE s = (e2 : Int)) (h2 : nl = nlP s) (hn : n ≤ 17) (hT : tankE n room z1 z2 = (e : Int)) : SkLeads (isTrueL (hpL1 n (tkC z1 z2))) (txB txP txQ psE psAt rmP f1P f2P nlP e e2 nl n room z1 z2 s) := by
  have hnl : nlP s ≤ s.size := by
    have h1 : cntA s 10 ≤ s.size := by rw [← mAt_end]; exact mAt_le s 10 _
    unfold nlP
    omega
  refine sk_either (fun _ => sk_either (fun _ => sk_leaf rfl) fun h4 => txG_ok n room z1 z2 s h1 h2 ?_ n hn hT) fun h3 => sk_ff (txG_ok n room z1 z2 s h1 h2 ?_ n hn hT)
  · have h4 : (s.size : Int) = 4097 := by simpa using h4
    omega
  · simp only [decide_eq_false_iff_not] at h3
    omega
theorem texts_call : CallAt Tryz.prog 10 [.agg [ci room, slC false 0 2 n], .one (.lit (.string s))] (hpL1 n (tkC z1 z2)) (boo true) (hpL1 n (tkC z1 z2)) := by
  obtain ⟨e, he⟩ := Int.eq_ofNat_of_zero_le (tankE_nn n room z1 z2)
  obtain ⟨e2, he2⟩ := Int.eq_ofNat_of_zero_le (psE_nn s)
  refine call_sk (tbTx_ok e e2 (nlP s)) Tryz.func10 (by kernel_rfl) (false, true) (by kernel_rfl) (S := txS txP txQ psE psAt rmP f1P f2P nlP e e2 (nlP s) n room z1 z2 s n) (tx_into txP txQ psE psAt rmP f1P f2P nlP e e2 (nlP s) n room z1 z2 s) (tx_fits txP txQ psE psAt rmP f1P f2P nlP e e2 (nlP s) n room z1 z2 s) (SkLeads.all (p := isTrueL (hpL1 n (tkC z1 z2))) ?_)
  cases n with
  | zero => exact sk_ff (txB_ok 0 room z1 z2 s he2 rfl (by omega) he)
  | succ k => exact sk_either (fun _ => sk_tt (sk_leaf rfl)) fun h => txB_ok (k + 1) room z1 z2 s he2 rfl (by simp only [decide_eq_false_iff_not] at h; omega) he
end
end Go.Ev
