/- A sky's text, by the reference. Conditions: a valid sky. -/
import Derived.Test.YtkalcencblhlgaaGreatDoorPrS
namespace Go.Ev
open Go Go.RowKit Go.Proofs
set_option maxRecDepth 100000
section
variable (nm : ByteArray) (n : Nat) (g0 g1 g2 g3 : Nat → Int)
def tbQ : List (FuncId × Spec) := (76, txtSp) :: tb_tiny
theorem tbQ_ok : TabOk Tryz.prog (tabOf tbQ) := tab_cons tb_tiny_ok txt_ok
noncomputable def reQ : Code → St → Tree (X × St) := recT Tryz.prog (tabOf tbQ)
def pqB : St := baseB 48 [skyA nm n] (skH n g0 g1 g2 g3)
def pqHS (s : ByteArray) (i : Int) : St := skN 48 n g0 g1 g2 g3 [(1, pt 1), (3, .one (.lit (.string s))), (4, int i)] [skyB 24 nm n]
def pqX (s : ByteArray) : St := skN 48 n g0 g1 g2 g3 [(3, .one (.lit (.string s)))] []
def pqR (s : ByteArray) : St := skN 48 n g0 g1 g2 g3 [(2, .one (.lit (.string s)))] []
noncomputable def pqO : Tree ((X × St) ⊕ (List Bool × St)) := evO reQ (bodyOf Tryz.f23) [1, 3, 4] [2] (pqB nm n g0 g1 g2 g3)
noncomputable def pqT (s : ByteArray) (k : Nat) : Tree (X × St) := (reQ (loopF Tryz.f23) (pqHS nm n g0 g1 g2 g3 s (k : Int))).bind (canonT [1, 3, 4] [3] (pqB nm n g0 g1 g2 g3))
noncomputable def pqP (s : ByteArray) : Tree ((X × St) ⊕ (List Bool × St)) := evO2 reQ true (bodyOf Tryz.f23) (pathF Tryz.f23) [] [2] (pqB nm n g0 g1 g2 g3) (.exit 0, pqX n g0 g1 g2 g3 s)
end
def chN (f : ByteArray → SkX) : List (Option Int × ByteArray) → ByteArray → SkX
 | [], s => f s
 | (none, b) :: l, s => .need (szN s b) (chN f l (s ++ b))
 | (some a, b) :: l, s => .need (smI a) (.need (szN s b) (chN f l (s ++ b)))
def chF : List (Option Int × ByteArray) → ByteArray → ByteArray
 | [], s => s
 | (_, b) :: l, s => chF l (s ++ b)
def sSunB : ByteArray := ⟨#[115, 117, 110, 32]⟩
def sunL (t x y z : Int) : List (Option Int × ByteArray) := [(none, sSunB), (some t, txtB t), (none, blankB), (some x, txtB x), (none, blankB), (some y, txtB y), (none, blankB), (some z, txtB z), (none, nlB)]
theorem ch_ok {p : X × St → Prop} {f : ByteArray → SkX} : ∀ (l : List (Option Int × ByteArray)) (s : ByteArray), (∀ e ∈ l, e.2.size ≤ 100 ∧ ∀ a, e.1 = some a → smI a = true) → s.size + 100 * l.length ≤ 100000000 → SkLeads p (f (chF l s)) → SkLeads p (chN f l s)
 | [], s, _, _, hf => hf
 | (none, b) :: l, s, h, hs, hf => by
  have hb := (h _ List.mem_cons_self).1
  rw [List.length_cons] at hs
  have hb : b.size ≤ 100 := hb
  exact sk_need (szN_ok (by omega) (by omega)) (ch_ok l (s ++ b) (fun e he => h e (List.mem_cons_of_mem _ he)) (by rw [ByteArray.size_append]; omega) hf)
 | (some a, b) :: l, s, h, hs, hf => by
  have hb := h _ List.mem_cons_self
  rw [List.length_cons] at hs
  have hb1 : b.size ≤ 100 := hb.1
  exact sk_need (hb.2 a rfl) (sk_need (szN_ok (by omega) (by omega)) (ch_ok l (s ++ b) (fun e he => h e (List.mem_cons_of_mem _ he)) (by rw [ByteArray.size_append]; omega) hf))
theorem txtB_le (a : Int) : (txtB a).size ≤ 21 := by
 have := txtB_size a
 rw [Array.length_toList] at this
 exact this
theorem chF_sun (s : ByteArray) (t x y z : Int) : chF (sunL t x y z) s = s ++ lnB t x y z := by
 refine ba_ext ?_
 show (((((((((s ++ sSunB) ++ txtB t) ++ blankB) ++ txtB x) ++ blankB) ++ txtB y) ++ blankB) ++ txtB z) ++ nlB).data.toList = (s ++ (⟨(sSun.data.toList ++ (blankB.data.toList ++ ((txtB t).data.toList ++ (blankB.data.toList ++ ((txtB x).data.toList ++ (blankB.data.toList ++ ((txtB y).data.toList ++ (blankB.data.toList ++ (txtB z).data.toList)))))))).toArray⟩ ++ nlB)).data.toList
 have e : sSunB.data.toList = sSun.data.toList ++ blankB.data.toList := rfl
 simp only [app_list, e, List.append_assoc]
theorem smI_ok {x : Int} (h : smB x) : smI x = true := by
 unfold smI smB at *
 simp only [Bool.and_eq_true, decide_eq_true_eq]
 omega
section
variable (nm : ByteArray) (n : Nat) (g0 g1 g2 g3 : Nat → Int)
noncomputable def pqOS : SkO := .need (szN sSky nm) (.need (szN (sSky ++ nm) nlB) (.leaf (.inr (pathF Tryz.f23, pqHS nm n g0 g1 g2 g3 ((sSky ++ nm) ++ nlB) 0))))
noncomputable def pqS (s : ByteArray) (k : Nat) : SkX := .node (decide ((k : Int) < (n : Int))) (.need (kB n k) (.need (Nat.blt (ixN k) n) (need3 (Nat.blt (ixN k) n) (chN (fun s => .leaf (.normal, pqHS nm n g0 g1 g2 g3 s (IntKind.i64.wrap ((k : Int) + 1)))) (sunL (g0 (ixN k)) (g1 (ixN k)) (g2 (ixN k)) (g3 (ixN k))) s)))) (.leaf (.exit 0, pqX n g0 g1 g2 g3 s))
theorem pqO_into : pqO nm n g0 g1 g2 g3 = into (pqO nm n g0 g1 g2 g3) (pqOS nm n g0 g1 g2 g3) := by kernel_rfl
theorem pqO_fits : fits (pqO nm n g0 g1 g2 g3) (pqOS nm n g0 g1 g2 g3) = true := by kernel_rfl
theorem pqT_into (s : ByteArray) (k : Nat) : pqT nm n g0 g1 g2 g3 s k = into (pqT nm n g0 g1 g2 g3 s k) (pqS nm n g0 g1 g2 g3 s k) := by kernel_rfl
theorem pqT_fits (s : ByteArray) (k : Nat) : fits (pqT nm n g0 g1 g2 g3 s k) (pqS nm n g0 g1 g2 g3 s k) = true := by kernel_rfl
theorem pqP_is (s : ByteArray) : pqP nm n g0 g1 g2 g3 s = .leaf (.inl (.ret, pqR n g0 g1 g2 g3 s)) := by kernel_rfl
theorem pq_left (s : ByteArray) : Left2 Tryz.prog Tryz.f23 (skH n g0 g1 g2 g3) (.one (.lit (.string s))) (skH n g0 g1 g2 g3) (.ret, pqR n g0 g1 g2 g3 s) := left_of (b := true) (by kernel_rfl)
def pqA (k : Nat) : ByteArray := ((sSky ++ nm) ++ nlB) ++ jnA (LF lnB g0 g1 g2 g3) k
end
section
variable {nm : ByteArray} {n : Nat} {g0 g1 g2 g3 : Nat → Int} (hs : SkyOk n g0 g1 g2 g3) (hnm : nm.size ≤ 1000)
include hs hnm
theorem pqA_size {k : Nat} (hk : k ≤ n) : (pqA nm g0 g1 g2 g3 k).size ≤ 10000 := by
 have hn := hs.few
 have hj := jn_size (LF_size g0 g1 g2 g3) k
 have h1 : sSky.size = 4 := rfl
 have h2 : nlB.size = 1 := rfl
 unfold pqA
 rw [ByteArray.size_append, ByteArray.size_append, ByteArray.size_append]
 omega
theorem pq_loop : ComesF Tryz.prog (.loop (loopF Tryz.f23)) (pqB nm n g0 g1 g2 g3) (pqHS nm n g0 g1 g2 g3 (pqA nm g0 g1 g2 g3 0) ((0 : Nat) : Int)) fun q => q = (.exit 0, pqX n g0 g1 g2 g3 (pqA nm g0 g1 g2 g3 n)) := by
 have hn := hs.few
 refine loop_count (recT_ok tbQ_ok) rfl [1, 3, 4] [3] (fun k => pqHS nm n g0 g1 g2 g3 (pqA nm g0 g1 g2 g3 k) (k : Int)) (fun _ => (.exit 0, pqX n g0 g1 g2 g3 (pqA nm g0 g1 g2 g3 n))) n (fun k => pqT nm n g0 g1 g2 g3 (pqA nm g0 g1 g2 g3 k) k) (fun k => pqS nm n g0 g1 g2 g3 (pqA nm g0 g1 g2 g3 k) k) (fun k => by delta pqT; rfl) (fun k => pqT_into nm n g0 g1 g2 g3 _ k) (fun k => pqT_fits nm n g0 g1 g2 g3 _ k) (fun k hk => ?_) ?_
 ·obtain ⟨e1, e2, e3⟩ := rnd_lt hk
  have hx : ixN k = k := idx_nat k
  obtain ⟨a, b, c, d⟩ := sky_sm hs hk
  have hz := pqA_size hs hnm (Nat.le_of_lt hk)
  unfold pqS
  have e3 : Nat.blt (ixN k) n = true := e3
  rw [hx] at e3 ⊢
  refine sk_yes e1 (sk_need e2 (sk_need e3 (need3_ok e3 (ch_ok _ _ (fun e he => ?_) (by show _ + 100 * 9 ≤ _; omega) (sk_leaf (rnd_next ?_ rfl))))))
  ·have h1 := txtB_le (g0 k)
   have h2 := txtB_le (g1 k)
   have h3 := txtB_le (g2 k)
   have h4 := txtB_le (g3 k)
   simp only [sunL, List.mem_cons, List.not_mem_nil, or_false] at he
   rcases he with rfl | rfl | rfl | rfl | rfl | rfl | rfl | rfl | rfl
   ·exact ⟨by decide, fun a h => by cases h⟩
   ·exact ⟨by show (txtB _).size ≤ 100; omega, fun x h => by injection h with h; subst h; exact smI_ok a⟩
   ·exact ⟨by decide, fun a h => by cases h⟩
   ·exact ⟨by show (txtB _).size ≤ 100; omega, fun x h => by injection h with h; subst h; exact smI_ok b⟩
   ·exact ⟨by decide, fun a h => by cases h⟩
   ·exact ⟨by show (txtB _).size ≤ 100; omega, fun x h => by injection h with h; subst h; exact smI_ok c⟩
   ·exact ⟨by decide, fun a h => by cases h⟩
   ·exact ⟨by show (txtB _).size ≤ 100; omega, fun x h => by injection h with h; subst h; exact smI_ok d⟩
   ·exact ⟨by decide, fun a h => by cases h⟩
  ·rw [wrap_succ (by omega), chF_sun]
   have : pqA nm g0 g1 g2 g3 k ++ lnB (g0 k) (g1 k) (g2 k) (g3 k) = pqA nm g0 g1 g2 g3 (k + 1) := by
    unfold pqA
    rw [ByteArray.append_assoc]
    rfl
   rw [this]
   exact St.Le.refl _
 ·unfold pqS
  exact sk_no (rnd_end n) (sk_leaf rfl)
theorem pq_call : CallAt Tryz.prog 23 [skyA nm n] (skH n g0 g1 g2 g3) (.one (.lit (.string (txP (LF lnB g0 g1 g2 g3) nm n)))) (skH n g0 g1 g2 g3) := by
 have hA0 : pqA nm g0 g1 g2 g3 0 = (sSky ++ nm) ++ nlB := by
  unfold pqA
  show ((sSky ++ nm) ++ nlB) ++ (⟨#[]⟩ : ByteArray) = _
  exact ByteArray.append_empty
 have hAn : pqA nm g0 g1 g2 g3 n = txP (LF lnB g0 g1 g2 g3) nm n := by
  unfold pqA txP
  rw [jn_is]
 have h1 : sSky.size = 4 := rfl
 have h2 : nlB.size = 1 := rfl
 refine call_baseS (recT_ok tbQ_ok) (c := bodyOf Tryz.f23) (fn := Tryz.f23) Tryz.func23 (by kernel_rfl) (by kernel_rfl) (false, false) 1 [1, 3, 4] [2] (sB := pqB nm n g0 g1 g2 g3) (by kernel_rfl) (t := pqO nm n g0 g1 g2 g3) (by delta pqO; rfl) (pqO_into nm n g0 g1 g2 g3) (pqO_fits nm n g0 g1 g2 g3) ?_
 unfold pqOS
 refine sk_need (szN_ok (by omega) (by omega)) (sk_need (szN_ok (by rw [ByteArray.size_append]; omega) (by omega)) ?_)
 rw [← hA0]
 refine sk_stop _ true [] [2] (pq_loop hs hnm) fun q hq => ?_
 subst hq
 rw [← hAn]
 exact leads_leaf (show _ = pqP nm n g0 g1 g2 g3 (pqA nm g0 g1 g2 g3 n) by delta pqP; rfl) (pqP_is nm n g0 g1 g2 g3 _) (cutF_dn (pq_left n g0 g1 g2 g3 _))
end
def pqF (E : FE) (T : FTx) : FT
 | [], [], [nm], [⟨_, n, [.int .i64 g0, .int .i64 g1, .int .i64 g2, .int .i64 g3]⟩] => .need (okE E nm n g0 g1 g2 g3) (.leaf (.one (.lit (.string (T nm n g0 g1 g2 g3))), []))
 | _, _, _, _ => .fail 726
def pqSp (E : FE) (T : FTx) : Spec := fun args h => specT [(true, [.s, .t skyD])] [] (pqF E T) args h
theorem pq_ok : SpecOk Tryz.prog 23 (pqSp skyE txS) := by
 refine specT_ok (by decide) (by decide) fun l m n ts v news hl hm hn ht hnil hF => ?_
 unfold pqF at hF
 split at hF
 ·rename_i nm id n g0 g1 g2 g3
  obtain ⟨hok, hF2⟩ := Tree.need_some hF
  clear hF
  unfold okE at hok
  rw [Bool.and_eq_true, beq_iff_eq] at hok
  simp only [Tree.run, Option.some.injEq, Prod.mk.injEq] at hF2
  obtain ⟨rfl, rfl⟩ := hF2
  have hs := (sky_ok hok.1).1
  have h2 := hs.two
  cases id with
  | none => have := hnil _ (List.mem_singleton.2 rfl) rfl; simp only [] at this; omega
  | some id => exact pq_call hs (Nat.le_of_ble_eq_true hok.2)
 ·cases hF
end Go.Ev
