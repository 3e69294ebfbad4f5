/- A sun's line of text, by the program; the lines of a list of suns. Conditions: numbers in bounds. -/
import Derived.Test.YtkalcencblhlgaaGreatDoorNm3
import Derived.Test.YtkalcencblhlgaaGreatDoorHi
namespace Go.Ev
open Go Go.RowKit Go.Proofs
set_option maxRecDepth 100000
def glW : List (Nat × List C) := [(2, Lib.pow10Tab.map fun n => .lit (.int .u64 n))]
def sSun : ByteArray := ⟨#[115, 117, 110]⟩
def linB (wd : ByteArray) (l : List Int) : ByteArray := ⟨(joinL blankB.data.toList (wd :: l.map txtB)).toArray⟩ ++ nlB
def inI (a : Int) : Bool := decide (-9223372036854775808 ≤ a) && decide (a ≤ 9223372036854775807)
def joB (wd : ByteArray) (l : List Int) (k : Nat) : Bool := Nat.ble (joinL blankB.data.toList (wd :: l.map txtB)).length 140737488355328 && Nat.ble k 140737488355328
def caB (wd : ByteArray) (l : List Int) : Bool := Nat.ble ((⟨(joinL blankB.data.toList (wd :: l.map txtB)).toArray⟩ : ByteArray).size + nlB.size) 9223372036854775807
theorem joinL_len (wd : ByteArray) : ∀ l : List Int, (joinL blankB.data.toList (wd :: l.map txtB)).length ≤ wd.size + 22 * l.length := by
 have hb : blankB.data.toList.length = 1 := rfl
 intro l
 induction l generalizing wd with
 | nil =>
  show wd.data.toList.length ≤ _
  rw [Array.length_toList]
  show wd.size ≤ _
  omega
 | cons a l ih =>
  have h := ih (txtB a)
  have h1 := txtB_size a
  rw [Array.length_toList] at h1
  have h1 : (txtB a).size ≤ 21 := h1
  show (wd.data.toList ++ (blankB.data.toList ++ joinL blankB.data.toList (txtB a :: l.map txtB))).length ≤ _
  rw [List.length_append, List.length_append, hb, Array.length_toList, List.length_cons]
  have : wd.data.size = wd.size := rfl
  omega
section
variable (t x y z : Int)
noncomputable def lnT : Tree ((Bool × A × Hp) ⊕ (List Bool × St)) := preA Tryz.prog (tabOf tbBase) Tryz.f69 [.agg [ci t, ci x, ci y, ci z]] (hpT [] glW []) (false, true)
def lnS : SkL := .need (inI t) (.tt (.nn (.need (inI x) (.tt (.nn (.need (inI y) (.tt (.nn (.need (inI z) (.ff (.nn (.need (joB sSun [t, x, y, z] (2 + (1 + 1 + 1))) (.need (caB sSun [t, x, y, z]) (.leaf (.inl (true, .one (.lit (.string (linB sSun [t, x, y, z]))), hpT [] glW []))))))))))))))))
theorem ln_into : lnT t x y z = into (lnT t x y z) (lnS t x y z) := by kernel_rfl
theorem ln_fits : fits (lnT t x y z) (lnS t x y z) = true := by kernel_rfl
end
theorem ln_len (l : List Int) (h : l.length ≤ 4) : (joinL blankB.data.toList (sSun :: l.map txtB)).length ≤ 91 := by
 have h1 := joinL_len sSun l
 have h2 : sSun.size = 3 := rfl
 omega
theorem linB_size (l : List Int) (h : l.length ≤ 4) : (linB sSun l).size ≤ 92 := by
 have h1 := ln_len l h
 unfold linB
 rw [ByteArray.size_append]
 have h2 : nlB.size = 1 := rfl
 have h3 : (⟨(joinL blankB.data.toList (sSun :: l.map txtB)).toArray⟩ : ByteArray).size = (joinL blankB.data.toList (sSun :: l.map txtB)).length := List.size_toArray
 omega
theorem ln_call (t x y z : Int) (ht : inI t = true) (hx : inI x = true) (hy : inI y = true) (hz : inI z = true) : CallAt Tryz.prog 69 [.agg [ci t, ci x, ci y, ci z]] (hpT [] glW []) (.one (.lit (.string (linB sSun [t, x, y, z])))) (hpT [] glW []) := by
 refine call_sk tbBase_ok Tryz.func69 (by kernel_rfl) (false, true) (by kernel_rfl) (S := lnS t x y z) (ln_into t x y z) (ln_fits t x y z) (SkLeads.all ?_)
 have h1 := ln_len [t, x, y, z] (by simp)
 refine sk_need ht (sk_tt (sk_nn (sk_need hx (sk_tt (sk_nn (sk_need hy (sk_tt (sk_nn (sk_need hz (sk_ff (sk_nn (sk_need ?_ (sk_need ?_ (sk_leaf rfl))))))))))))))
 ·unfold joB
  rw [Nat.ble_eq_true_of_le (by omega)]; rfl
 ·unfold caB
  refine Nat.ble_eq_true_of_le ?_
  have h3 : (⟨(joinL blankB.data.toList (sSun :: [t, x, y, z].map txtB)).toArray⟩ : ByteArray).size = (joinL blankB.data.toList (sSun :: [t, x, y, z].map txtB)).length := List.size_toArray
  have h2 : nlB.size = 1 := rfl
  omega
abbrev FL := Int → Int → Int → Int → ByteArray
def lnB : FL := fun t x y z => linB sSun [t, x, y, z]
def lnF (L : FL) : FT
 | [t, x, y, z], [], [], [] => .need (inI t && (inI x && (inI y && inI z))) (.leaf (.one (.lit (.string (L t x y z))), []))
 | _, _, _, _ => .fail 720
def lnSp (L : FL) : Spec := fun args h => specT [(true, [.i, .i, .i, .i])] glW (lnF L) args h
theorem ln_ok : SpecOk Tryz.prog 69 (lnSp lnB) := by
 refine specT_ok (by decide) (by decide) fun l m n ts v news hl hm hn hts hnil hF => ?_
 unfold lnF at hF
 split at hF
 ·rename_i t x y z
  obtain ⟨h0, hF⟩ := Tree.need_some hF
  simp only [Bool.and_eq_true] at h0
  simp only [Tree.run, Option.some.injEq, Prod.mk.injEq] at hF
  obtain ⟨rfl, rfl⟩ := hF
  exact ln_call t x y z h0.1 h0.2.1 h0.2.2.1 h0.2.2.2
 ·cases hF
section
variable (L : FL) (n : Nat) (g0 g1 g2 g3 : Nat → Int)
def tbLn : List (FuncId × Spec) := (69, lnSp L) :: tbBase
noncomputable def reL : Code → St → Tree (X × St) := recT Tryz.prog (tabOf (tbLn L))
def slH : Hp := hpT [⟨some 0, n, skC g0 g1 g2 g3⟩] glW []
def slN (size : Nat) (env : List (Nat × A)) (news : List Blk) : St := stN size (envL env) (bsS [⟨some 0, n, skC g0 g1 g2 g3⟩] glW) (globsG 1 glW) news
def LF (k : Nat) : ByteArray := L (g0 k) (g1 k) (g2 k) (g3 k)
def msB : St := baseB 22 [slT 0 4 n, fnA 69] (slH n g0 g1 g2 g3)
def msE (o : A) (i : Int) : List (Nat × A) := [(1, fnA 69), (5, o), (8, slT 0 4 n), (9, int n), (10, int i)]
def strT (n : Nat) (z : Nat → ByteArray) : Blk := ⟨false, 9, .rows n [.str z]⟩
def msH (F : Nat → ByteArray) : Nat → St
 | 0 => slN n g0 g1 g2 g3 22 (msE n nilA ((0 : Nat) : Int)) []
 | k + 1 => slN n g0 g1 g2 g3 22 (msE n (slO 2 1 (k + 1)) ((k + 1 : Nat) : Int)) [strT (k + 1) F]
def msX (F : Nat → ByteArray) : Nat → St
 | 0 => slN n g0 g1 g2 g3 22 [(5, nilA)] []
 | k + 1 => slN n g0 g1 g2 g3 22 [(5, slO 2 1 (k + 1))] [strT (k + 1) F]
noncomputable def msT (F : Nat → ByteArray) (k : Nat) : Tree (X × St) := (reL L (loopF Tryz.f68) (msH n g0 g1 g2 g3 F k)).bind (canonT [1, 5, 8, 9, 10] [5] (msB n g0 g1 g2 g3))
noncomputable def msO : Tree ((X × St) ⊕ (List Bool × St)) := evO (reL L) (bodyOf Tryz.f68) [1, 5, 8, 9, 10] [4] (msB n g0 g1 g2 g3)
noncomputable def msP (q : X × St) : Tree ((X × St) ⊕ (List Bool × St)) := evO2 (reL L) true (bodyOf Tryz.f68) (pathF Tryz.f68) [] [4] (msB n g0 g1 g2 g3) q
def lnI (k : Nat) : Bool := inI (g0 k) && (inI (g1 k) && (inI (g2 k) && inI (g3 k)))
noncomputable def msS : Nat → SkX
 | 0 => .node (decide (((0 : Nat) : Int) < (n : Int))) (.need (kB n 0) (.need (Nat.blt (ixN 0) n) (need3 (Nat.blt (ixN 0) n) (.nn (.need (lnI g0 g1 g2 g3 (ixN 0)) (.leaf (.normal, slN n g0 g1 g2 g3 22 (msE n (slO 2 1 1) (IntKind.i64.wrap (((0 : Nat) : Int) + 1))) [⟨false, 9, .flat [.lit (.string (LF L g0 g1 g2 g3 (ixN 0)))]⟩])))))))
  (.leaf (.exit 0, msX n g0 g1 g2 g3 (LF L g0 g1 g2 g3) 0))
 | k + 1 => .node (decide (((k + 1 : Nat) : Int) < (n : Int))) (.need (kB n (k + 1)) (.need (Nat.blt (ixN (k + 1)) n) (need3 (Nat.blt (ixN (k + 1)) n) (.nn (.need (lnI g0 g1 g2 g3 (ixN (k + 1))) (.need (apN 9 k) (.leaf (.normal, slN n g0 g1 g2 g3 22 (msE n (slO 2 1 (k + 1 + 1)) (IntKind.i64.wrap (((k + 1 : Nat) : Int) + 1))) [strT (k + 1 + 1) (putF (LF L g0 g1 g2 g3) (k + 1) (LF L g0 g1 g2 g3 (ixN (k + 1))))]))))))))
  (.leaf (.exit 0, msX n g0 g1 g2 g3 (LF L g0 g1 g2 g3) (k + 1)))
theorem ms_into : ∀ k, msT L n g0 g1 g2 g3 (LF L g0 g1 g2 g3) k = into (msT L n g0 g1 g2 g3 (LF L g0 g1 g2 g3) k) (msS L n g0 g1 g2 g3 k)
 | 0 => by kernel_rfl
 | k + 1 => by kernel_rfl
theorem ms_fits : ∀ k, fits (msT L n g0 g1 g2 g3 (LF L g0 g1 g2 g3) k) (msS L n g0 g1 g2 g3 k) = true
 | 0 => by kernel_rfl
 | k + 1 => by kernel_rfl
theorem msO_is : msO L n g0 g1 g2 g3 = .leaf (.inr (pathF Tryz.f68, msH n g0 g1 g2 g3 (LF L g0 g1 g2 g3) 0)) := by kernel_rfl
def msR (k : Nat) : St := slN n g0 g1 g2 g3 22 [(4, slO 2 1 (k + 1))] [strT (k + 1) (LF L g0 g1 g2 g3)]
theorem msP_is (k : Nat) : msP L n g0 g1 g2 g3 (.exit 0, msX n g0 g1 g2 g3 (LF L g0 g1 g2 g3) (k + 1)) = .leaf (.inl (.ret, msR L n g0 g1 g2 g3 k)) := by kernel_rfl
end
def allK (f : Nat → Bool) : Nat → Bool
 | 0 => true
 | k + 1 => allK f k && f k
theorem allK_at {f : Nat → Bool} : ∀ {n : Nat}, allK f n = true → ∀ k, k < n → f k = true
 | n + 1, h, k, hk => by
  have h : (allK f n && f n) = true := h
  rw [Bool.and_eq_true] at h
  by_cases e : k = n
  ·subst e; exact h.2
  ·exact allK_at h.1 k (by omega)
theorem allK_of {f : Nat → Bool} : ∀ {n : Nat}, (∀ k, k < n → f k = true) → allK f n = true
 | 0, _ => rfl
 | n + 1, h => by
  show (allK f n && f n) = true
  rw [allK_of fun k hk => h k (by omega), h n (by omega)]; rfl
section
variable (n : Nat) (g0 g1 g2 g3 : Nat → Int)
theorem tbLn_ok : TabOk Tryz.prog (tabOf (tbLn lnB)) := tab_cons tbBase_ok ln_ok
theorem reL_ok : RecOk Tryz.prog (reL lnB) := recT_ok tbLn_ok
theorem ms_step (hn : n ≤ 1000000) (hI : allK (lnI g0 g1 g2 g3) n = true) (k : Nat) (hk : k < n) : SkLeads (Rnd (msH n g0 g1 g2 g3 (LF lnB g0 g1 g2 g3)) (fun _ => (.exit 0, msX n g0 g1 g2 g3 (LF lnB g0 g1 g2 g3) n)) k) (msS lnB n g0 g1 g2 g3 k) := by
 obtain ⟨e1, e2, e3⟩ := rnd_lt hk
 have hx : ixN k = k := idx_nat k
 have hi := allK_at hI k hk
 cases k with
 | zero =>
  unfold msS
  refine sk_yes e1 (sk_need e2 (sk_need e3 (need3_ok e3 (sk_nn (sk_need (by rw [hx]; exact hi) (sk_leaf (rnd_next ?_ rfl)))))))
  rw [wrap_succ (by omega)]
  exact le_news (show 2 + 1 ≤ lim by decide) ⟨⟨rfl, str_rows (by rw [hx])⟩, trivial⟩
 | succ k =>
  unfold msS
  have d0 : ((Tryz.prog.info? 9).map (·.bytes)).getD 0 = 16 := by kernel_rfl
  refine sk_yes e1 (sk_need e2 (sk_need e3 (need3_ok e3 (sk_nn (sk_need (by rw [hx]; exact hi) (sk_need (apN_ok (by rw [d0]; decide) (by omega)) (sk_leaf (rnd_next ?_ rfl))))))))
  rw [wrap_succ (by omega), hx, putF_self]
  exact St.Le.refl _
theorem ms_last : SkLeads (RndEnd (.exit 0, msX n g0 g1 g2 g3 (LF lnB g0 g1 g2 g3) n)) (msS lnB n g0 g1 g2 g3 n) := by
 cases n with
 | zero => unfold msS; exact sk_no (rnd_end 0) (sk_leaf rfl)
 | succ k => unfold msS; exact sk_no (rnd_end (k + 1)) (sk_leaf rfl)
theorem ms_loop (hn : n ≤ 1000000) (hI : allK (lnI g0 g1 g2 g3) n = true) : ComesF Tryz.prog (.loop (loopF Tryz.f68)) (msB n g0 g1 g2 g3) (msH n g0 g1 g2 g3 (LF lnB g0 g1 g2 g3) 0) fun q => q = (.exit 0, msX n g0 g1 g2 g3 (LF lnB g0 g1 g2 g3) n) :=
 loop_count reL_ok rfl [1, 5, 8, 9, 10] [5] (msH n g0 g1 g2 g3 (LF lnB g0 g1 g2 g3)) (fun _ => (.exit 0, msX n g0 g1 g2 g3 (LF lnB g0 g1 g2 g3) n)) n (msT lnB n g0 g1 g2 g3 (LF lnB g0 g1 g2 g3)) (msS lnB n g0 g1 g2 g3) (fun k => by delta msT; rfl) (ms_into lnB n g0 g1 g2 g3) (ms_fits lnB n g0 g1 g2 g3) (ms_step n g0 g1 g2 g3 hn hI) (ms_last n g0 g1 g2 g3)
end
theorem ms_left (g0 g1 g2 g3 : Nat → Int) (k : Nat) : Left2 Tryz.prog Tryz.f68 (slH (k + 1) g0 g1 g2 g3) (slO 2 1 (k + 1)) (hpT [⟨some 0, k + 1, skC g0 g1 g2 g3⟩] glW [strT (k + 1) (LF lnB g0 g1 g2 g3)]) (.ret, msR lnB (k + 1) g0 g1 g2 g3 k) := left_of (b := false) (by kernel_rfl)
theorem ms_call (k : Nat) (g0 g1 g2 g3 : Nat → Int) (hn : k + 1 ≤ 1000000) (hI : allK (lnI g0 g1 g2 g3) (k + 1) = true) : CallAt Tryz.prog 68 [slT 0 4 (k + 1), fnA 69] (slH (k + 1) g0 g1 g2 g3) (slO 2 1 (k + 1)) (hpT [⟨some 0, k + 1, skC g0 g1 g2 g3⟩] glW [strT (k + 1) (LF lnB g0 g1 g2 g3)]) := by
 refine call_base reL_ok (c := bodyOf Tryz.f68) (fn := Tryz.f68) Tryz.func68 (by kernel_rfl) (by kernel_rfl) (false, false) 1 [1, 5, 8, 9, 10] [4] (sB := msB (k + 1) g0 g1 g2 g3) (by kernel_rfl) (msO_is lnB (k + 1) g0 g1 g2 g3) ?_
 refine (sk_stop _ true [] [4] (ms_loop (k + 1) g0 g1 g2 g3 hn hI) fun q hq => ?_).all
 subst hq
 exact leads_leaf (show _ = msP lnB (k + 1) g0 g1 g2 g3 (.exit 0, msX (k + 1) g0 g1 g2 g3 (LF lnB g0 g1 g2 g3) (k + 1)) by delta msP; rfl) (msP_is lnB (k + 1) g0 g1 g2 g3 k) (cutF_dn (ms_left g0 g1 g2 g3 k))
def msF (L : FL) : FT
 | [], [], [], [⟨some _, k + 1, [.int .i64 g0, .int .i64 g1, .int .i64 g2, .int .i64 g3]⟩] => .need (Nat.ble (k + 1) 1000000 && allK (lnI g0 g1 g2 g3) (k + 1)) (.leaf (slO 2 1 (k + 1), [strT (k + 1) (LF L g0 g1 g2 g3)]))
 | _, _, _, _ => .fail 721
def msSp (L : FL) : Spec := fun args h => specT [(false, [.t skyD]), (false, [.fn 69])] glW (msF L) args h
theorem ms_ok : SpecOk Tryz.prog 68 (msSp lnB) := by
 refine specT_ok (by decide) (by decide) fun l m n ts v news hl hm hn ht hnil hF => ?_
 unfold msF at hF
 split at hF
 ·rename_i id k g0 g1 g2 g3
  obtain ⟨hok, hF⟩ := Tree.need_some hF
  rw [Bool.and_eq_true] at hok
  simp only [Tree.run, Option.some.injEq, Prod.mk.injEq] at hF
  obtain ⟨rfl, rfl⟩ := hF
  exact ms_call k g0 g1 g2 g3 (Nat.le_of_ble_eq_true hok.1) hok.2
 ·cases hF
end Go.Ev
