/- The greatest common divisor of the reference. Conditions: as the entry says. (Lines of the sun claim's text.) -/
import Derived.Test.YtlpchgidkibbeaaGreatDoorTank1
import Derived.Test.YtlpchgidkibbeaaGreatDoorTank3
namespace Go.Ev
open Go Go.Proofs
def eucl : Nat → Int → Int → Int
 | 0, a, _ => a
 | n + 1, a, b => match b == 0 with | true => a | false => eucl n b (a.tmod b)
theorem tmod_lt (a : Int) {b : Int} (h : b ≠ 0) : (a.tmod b).natAbs < b.natAbs := by
 rw [Int.natAbs_tmod]
 exact Nat.mod_lt _ (by omega)
theorem eucl_more : ∀ (n m : Nat) (a b : Int), b.natAbs < n → b.natAbs < m → eucl n a b = eucl m a b
 | n + 1, m + 1, a, b, h, h' => by
  unfold eucl
  split
  ·rfl
  ·rename_i hb
   have hb : b ≠ 0 := by simpa using hb
   have := tmod_lt a hb
   exact eucl_more n m b _ (by omega) (by omega)
 | 0, _, _, _, h, _ => by omega
 | _ + 1, 0, _, _, _, h => by omega
theorem eucl_abs : ∀ (n : Nat) (a b : Int), b.natAbs < n → (eucl n a b).natAbs = Int.gcd a b
 | n + 1, a, b, h => by
  unfold eucl
  split
  ·rename_i hb
   have hb : b = 0 := by simpa using hb
   subst hb; simp
  ·rename_i hb
   have hb : b ≠ 0 := by simpa using hb
   have h2 := tmod_lt a hb
   rw [eucl_abs n b _ (by omega)]
   unfold Int.gcd
   rw [Int.natAbs_tmod, Nat.gcd_comm, ← Nat.gcd_rec, Nat.gcd_comm]
 | 0, _, _, h => by omega
def euc (a b : Int) : Int := eucl (b.natAbs + 1) a b
theorem euc_abs (a b : Int) : (euc a b).natAbs = Int.gcd a b := eucl_abs _ a b (by omega)
theorem euc_step (a : Int) {b : Int} (h : b ≠ 0) : euc a b = euc b (a.tmod b) := by
 unfold euc
 rw [eucl]
 have hb : (b == 0) = false := by simpa using h
 rw [hb]
 exact eucl_more _ _ _ _ (tmod_lt a h) (by omega)
def divH (x : Int × Int) : St := stE 24 (envL [(0, int x.1), (1, int x.2)])
def divStep (x : Int × Int) : Tree (X × St) := .node (x.2 != 0) (.need (!(x.2 == 0)) (.leaf (.normal, divH (x.2, x.1.tmod x.2)))) (.leaf (.exit 0, divH x))
theorem div_round (x : Int × Int) : roundF Tryz.prog noTab Tryz.f109 [0, 1] [0, 1] (divH x) = divStep x := by
 obtain ⟨a, b⟩ := x
 kernel_rfl
theorem div_loop (x : Int × Int) : SumAt Tryz.prog (loopF Tryz.f109) (divH x) (.exit 0, divH (euc x.1 x.2, 0)) := by
 refine sum_loop rec0 divH (fun x => x.2.natAbs) (fun _ => True) (fun x => (.exit 0, divH (euc x.1 x.2, 0))) divStep (fun x _ => div_round x) (fun x _ => ?_) x trivial
 obtain ⟨a, b⟩ := x
 unfold divStep
 by_cases h : b = 0
 ·subst h
  show (X.exit 0, divH (a, 0)) = (X.exit 0, divH (euc a 0, 0))
  rfl
 ·have h1 : (b != 0) = true := by simpa using h
  have h2 : (!(b == 0)) = true := by simpa using h
  simp only [h1, h2, Tree.All]
  refine ⟨trivial, (b, a.tmod b), rfl, trivial, tmod_lt a h, ?_⟩
  rw [euc_step a h]
def absW (a : Int) : Int := if a < 0 then IntKind.i64.wrap (0 - a) else a
def divV (g : Int) : Int := if g = 0 then 1 else g
theorem div_call (a b : Int) : CallAt Tryz.prog 109 [int a, int b] hp0 (int (divV (euc (absW a) (absW b)))) hp0 := by
 have hpre : preT Tryz.prog noTab Tryz.f109 [int a, int b] hp0 [0, 1] =
   .node (decide (a < 0)) (.node (decide (b < 0)) (.leaf (.inr (pathF Tryz.f109, divH (IntKind.i64.wrap (0 - a), IntKind.i64.wrap (0 - b))))) (.leaf (.inr (pathF Tryz.f109, divH (IntKind.i64.wrap (0 - a), b)))))
    (.node (decide (b < 0)) (.leaf (.inr (pathF Tryz.f109, divH (a, IntKind.i64.wrap (0 - b))))) (.leaf (.inr (pathF Tryz.f109, divH (a, b))))) := by kernel_rfl
 have hpost : ∀ g : Int, postT Tryz.prog noTab Tryz.f109 (.exit 0) (divH (g, 0)) hp0 [] =
   .node (g == 0) (.leaf (.inl (true, int 1, hp0))) (.leaf (.inl (true, int g, hp0))) := fun g => by kernel_rfl
 have hend : ∀ a' b' : Int, CutP Tryz.prog noTab Tryz.f109 hp0 (int (divV (euc a' b'))) hp0 1 (.inr (pathF Tryz.f109, divH (a', b'))) := fun a' b' => by
  refine cut_stop _ [] (div_loop (a', b')) rfl ?_
  rw [hpost]
  unfold divV
  simp only [Tree.All]
  by_cases h : euc a' b' = 0
  ·rw [if_pos h, show (euc a' b' == 0) = true by simpa using h]; rfl
  ·rw [if_neg h, show (euc a' b' == 0) = false by simpa using h]; rfl
 refine call_pre noTab_ok Tryz.func109 (by kernel_rfl) 1 [0, 1] (by kernel_rfl) ?_
 rw [hpre]
 simp only [Tree.All]
 unfold absW
 by_cases h1 : a < 0 <;> by_cases h2 : b < 0
 ·rw [if_pos h1, if_pos h2, decide_eq_true h1, decide_eq_true h2]; exact hend _ _
 ·rw [if_pos h1, if_neg h2, decide_eq_true h1, decide_eq_false h2]; exact hend _ _
 ·rw [if_neg h1, if_pos h2, decide_eq_false h1, decide_eq_true h2]; exact hend _ _
 ·rw [if_neg h1, if_neg h2, decide_eq_false h1, decide_eq_false h2]; exact hend _ _
theorem eucl_pos : ∀ (n : Nat) {a b : Int}, 0 ≤ a → 0 ≤ b → 0 ≤ eucl n a b
 | 0, a, b, ha, _ => ha
 | n + 1, a, b, ha, hb => by
  unfold eucl
  split
  ·exact ha
  ·exact eucl_pos n hb (Int.tmod_nonneg _ ha)
def gcd1 (a b : Int) : Int := match Int.gcd a b == 0 with | true => 1 | false => Int.gcd a b
theorem divV_gcd {a b : Int} (ha : -9223372036854775808 < a ∧ a < 9223372036854775808) (hb : -9223372036854775808 < b ∧ b < 9223372036854775808) : divV (euc (absW a) (absW b)) = gcd1 a b := by
 have h1 : ∀ {a : Int}, (-9223372036854775808 < a ∧ a < 9223372036854775808) → absW a = a.natAbs := fun {a} ha => by
  unfold absW
  split
  ·rw [wrap_id (by omega) (by omega)]; omega
  ·omega
 rw [h1 ha, h1 hb]
 have h2 : euc a.natAbs b.natAbs = Int.gcd a b := by
  have h3 := euc_abs a.natAbs b.natAbs
  have h4 : 0 ≤ euc a.natAbs b.natAbs := eucl_pos _ (by omega) (by omega)
  rw [show Int.gcd (a.natAbs : Int) (b.natAbs : Int) = Int.gcd a b from rfl] at h3
  omega
 rw [h2]
 unfold divV gcd1
 by_cases h : Int.gcd a b = 0
 ·rw [if_pos (by omega), show (Int.gcd a b == 0) = true by simpa using h]
 ·rw [if_neg (by omega), show (Int.gcd a b == 0) = false by simpa using h]
def in63 (a : Int) : Bool := decide (-9223372036854775808 < a) && decide (a < 9223372036854775808)
def specDivisor : Spec := fun args h => match args with
 | [.one (.lit (.int .i64 a)), .one (.lit (.int .i64 b))] => .need (in63 a && in63 b) (.leaf (int (gcd1 a b), h))
 | _ => .fail 321
theorem specDivisor_ok : SpecOk Tryz.prog 109 specDivisor := by
 intro args h v h' hr E w vals rh hargs
 unfold specDivisor at hr
 split at hr
 ·rename_i a b
  obtain ⟨hn, hr⟩ := Tree.need_some hr
  simp only [Tree.run, Option.some.injEq, Prod.mk.injEq] at hr
  obtain ⟨rfl, rfl⟩ := hr
  simp only [in63, Bool.and_eq_true, decide_eq_true_eq] at hn
  rw [← divV_gcd hn.1 hn.2]
  exact lift0 (div_call a b) rfl rfl rh hargs
 ·cases hr
end Go.Ev
namespace Go.Ev
open Go Go.Proofs
set_option maxRecDepth 100000
section
variable (n : Nat) (room index : Int) (z1 z2 : Nat → Int)
def waB : St := { baseB 52 [tankA room n, int index] (tankH n z1 z2) with keep := true }
def waN (env : List (Nat × A)) (news : List Blk) : St := stN 52 (envL env) (bsS [⟨some 0, n, tkC z1 z2⟩] []) [] news true
def waM (a h : Int) : List Blk := [⟨false, 84, .flat [ci 0, ci 0]⟩, ⟨false, 152, .flat [ci a, ci h]⟩]
def waH (a h : Int) (x : Int × Int) : St := waN n z1 z2 [(4, .one (.ptr 1 0 1 0)), (7, .one (.ptr 2 0 1 0)), (8, int x.1), (9, int x.2)] (waM a h)
def waX (a h : Int) (g : Int) : St := waN n z1 z2 [(4, .one (.ptr 1 0 1 0)), (7, .one (.ptr 2 0 1 0)), (8, int g)] (waM a h)
def waR (e r0 r1 : Int) : St := waN n z1 z2 [(4, .one (.ptr 1 0 1 0)), (5, int e)] [⟨false, 84, .flat [ci r0, ci r1]⟩]
noncomputable def waRe : Code → St → Tree (X × St) := recT Tryz.prog (tabOf tbT1)
noncomputable def waO : Tree ((X × St) ⊕ (List Bool × St)) := evO waRe (bodyOf Tryz.f44) [4, 7, 8, 9] [4, 5] (waB n room index z1 z2)
noncomputable def waT (a h : Int) (x : Int × Int) : Tree (X × St) := (waRe (loopF Tryz.f44) (waH n z1 z2 a h x)).bind (canonT [4, 7, 8, 9] [4, 7, 8] (waB n room index z1 z2))
noncomputable def waP (a h g : Int) : Tree ((X × St) ⊕ (List Bool × St)) := evO2 waRe true (bodyOf Tryz.f44) (pathF Tryz.f44) [] [4, 5] (waB n room index z1 z2) (.exit 0, waX n z1 z2 a h g)
def waE (b : Bool) : Int := firstZ [tankE n room z1 z2, errIf b 10]
abbrev SkW := Sk ((X × St) ⊕ (List Bool × St))
noncomputable def waG : SkW := .need (decide (0 ≤ index) && decide (index < (n : Int))) (.need (Nat.blt (0 + index.toNat) n) (.need (Nat.blt (0 + index.toNat) n) (.leaf (.inr (pathF Tryz.f44, waH n z1 z2 (z1 (0 + index.toNat)) (z2 (0 + index.toNat)) (z2 (0 + index.toNat), z1 (0 + index.toNat)))))))
noncomputable def waOS : SkW := .need (okN n) (.need (Nat.ble n 17) (.node (decide (index < 0)) (.node (waE n room z1 z2 true != 0) (.leaf (.inl (.ret, waR n z1 z2 (waE n room z1 z2 true) 0 0))) (waG n index z1 z2)) (.node (waE n room z1 z2 (decide (index ≥ (n : Int))) != 0) (.leaf (.inl (.ret, waR n z1 z2 (waE n room z1 z2 (decide (index ≥ (n : Int)))) 0 0))) (waG n index z1 z2))))
noncomputable def waTS (a h : Int) (x : Int × Int) : Sk (X × St) := .node (x.2 != 0) (.need (!(x.2 == 0)) (.leaf (.normal, waH n z1 z2 a h (x.2, x.1.tmod x.2)))) (.leaf (.exit 0, waX n z1 z2 a h x.1))
noncomputable def waPS (a h g : Int) : SkW := .need (!(g == 0)) (.need (!(g == 0)) (.leaf (.inl (.ret, waR n z1 z2 0 (w64 (h.tdiv g)) (w64 (a.tdiv g))))))
theorem waO_into : waO n room index z1 z2 = into (waO n room index z1 z2) (waOS n room index z1 z2) := by kernel_rfl
theorem waO_fits : fits (waO n room index z1 z2) (waOS n room index z1 z2) = true := by kernel_rfl
theorem waT_into (a h x y : Int) : waT n room index z1 z2 a h (x, y) = into (waT n room index z1 z2 a h (x, y)) (waTS n z1 z2 a h (x, y)) := by kernel_rfl
theorem waT_fits (a h x y : Int) : fits (waT n room index z1 z2 a h (x, y)) (waTS n z1 z2 a h (x, y)) = true := by kernel_rfl
theorem waP_into (a h g : Int) : waP n room index z1 z2 a h g = into (waP n room index z1 z2 a h g) (waPS n z1 z2 a h g) := by kernel_rfl
theorem waP_fits (a h g : Int) : fits (waP n room index z1 z2 a h g) (waPS n z1 z2 a h g) = true := by kernel_rfl
theorem waRe_ok : RecOk Tryz.prog waRe := recT_ok tbT1_ok
theorem wa_loop (a h : Int) (x : Int × Int) : ComesF Tryz.prog (.loop (loopF Tryz.f44)) (waB n room index z1 z2) (waH n z1 z2 a h x) fun q => q = (.exit 0, waX n z1 z2 a h (euc x.1 x.2)) := by
 refine loop_all (rec := waRe) waRe_ok rfl [4, 7, 8, 9] [4, 7, 8] (fun x : Int × Int => waH n z1 z2 a h x) (fun x => x.2.natAbs) (fun _ => True) (fun x => (.exit 0, waX n z1 z2 a h (euc x.1 x.2))) (fun x _ => ?_) x trivial
 obtain ⟨x, y⟩ := x
 refine all_into (waT_into n room index z1 z2 a h x y) (waT_fits n room index z1 z2 a h x y) (SkLeads.all ?_)
 refine sk_either (fun hy => ?_) fun hy => sk_leaf ?_
 ·have h0 : y ≠ 0 := by simpa using hy
  refine sk_need (by simpa using h0) (sk_leaf ⟨(y, x.tmod y), St.Le.refl _, trivial, tmod_lt x h0, ?_⟩)
  simp only []
  rw [← euc_step x h0]
 ·have h0 : y = 0 := by simpa using hy
  subst h0
  rfl
end
theorem euc_gcd1 {a b : Int} (ha : 0 ≤ a) (hb : 1 ≤ b) : euc a b = gcd1 a b ∧ euc a b ≠ 0 := by
 have h1 := euc_abs a b
 have h2 : 0 ≤ euc a b := eucl_pos _ ha (by omega)
 have h3 : Int.gcd a b ≠ 0 := fun e => by
  have := (Int.gcd_eq_zero_iff.1 e).2
  omega
 refine ⟨?_, by omega⟩
 unfold gcd1
 rw [show (Int.gcd a b == 0) = false by simpa using h3]
 simp only
 omega
def waU (a h e : Int) : A := match e != 0 with
 | true => .tup [(true, [ci 0, ci 0]), (false, [ci e])]
 | false => .tup [(true, [ci (w64 (h.tdiv (gcd1 h a))), ci (w64 (a.tdiv (gcd1 h a)))]), (false, [ci 0])]
section
variable (n : Nat) (room index : Int) (z1 z2 : Nat → Int)
def waV : A := match decide (index < 0) with
 | true => waU (z1 (0 + index.toNat)) (z2 (0 + index.toNat)) (waE n room z1 z2 true)
 | false => waU (z1 (0 + index.toNat)) (z2 (0 + index.toNat)) (waE n room z1 z2 (decide (index ≥ (n : Int))))
theorem wa_left (e r0 r1 : Int) : Left2 Tryz.prog Tryz.f44 (tankH n z1 z2) (.tup [(true, [ci r0, ci r1]), (false, [ci e])]) (tankH n z1 z2) (.ret, waR n z1 z2 e r0 r1) := left_of (b := true) (by kernel_rfl)
abbrev WaCut (k : Nat) : (X × St) ⊕ (List Bool × St) → Prop := CutF Tryz.prog waRe (bodyOf Tryz.f44) (waB n room index z1 z2) (Left2 Tryz.prog Tryz.f44 (tankH n z1 z2) (waV n room index z1 z2) (tankH n z1 z2)) k
theorem waG_ok (h0 : tankE n room z1 z2 = 0) (h1 : 0 ≤ index) (h2 : index < (n : Int)) (hV : waV n room index z1 z2 = waU (z1 (0 + index.toNat)) (z2 (0 + index.toNat)) 0) : SkLeads (WaCut n room index z1 z2 1) (waG n index z1 z2) := by
 obtain ⟨k, rfl⟩ : ∃ k : Nat, index = (k : Int) := ⟨index.toNat, by omega⟩
 have hk : k < n := by omega
 obtain ⟨b1, b2, b3⟩ := rnd_lt hk
 rw [idx_nat] at hV
 obtain ⟨⟨c1, c2⟩, c3, c4⟩ := tank_rows h0 k hk
 obtain ⟨d1, d2⟩ := euc_gcd1 c3 c1
 unfold waG
 refine sk_need b2 (sk_need b3 (sk_need b3 (sk_leaf ⟨_, true, [], [4, 5], wa_loop n room _ z1 z2 _ _ _, fun q hq => Leads.all ?_⟩)))
 subst hq
 rw [idx_nat]
 refine leads_in (show _ = waP n room (k : Int) z1 z2 (z1 k) (z2 k) (euc (z2 k) (z1 k)) by delta waP; rfl) (waP_into n room _ z1 z2 _ _ _) (waP_fits n room _ z1 z2 _ _ _) ?_
 have hd : (!(euc (z2 k) (z1 k) == 0)) = true := by simpa using d2
 refine sk_need hd (sk_need hd (sk_leaf (cutF_dn ?_)))
 rw [hV, d1]
 exact wa_left n z1 z2 _ _ _
theorem wa_call (hn : n ≤ 17) : CallAt Tryz.prog 44 [tankA room n, int index] (tankH n z1 z2) (waV n room index z1 z2) (tankH n z1 z2) := by
 refine call_base (rec := waRe) waRe_ok (c := bodyOf Tryz.f44) (fn := Tryz.f44) Tryz.func44 (by kernel_rfl) (by kernel_rfl) (false, true) 1 [4, 7, 8, 9] [4, 5] (sB := waB n room index z1 z2) (by kernel_rfl) (t := waO n room index z1 z2) (by delta waO; rfl) (all_into (waO_into n room index z1 z2) (waO_fits n room index z1 z2) (SkLeads.all ?_))
 have hE : ∀ {b : Bool}, (waE n room z1 z2 b != 0) = false → tankE n room z1 z2 = 0 ∧ b = false := fun {b} h => by
  obtain ⟨a1, a2⟩ := first0 (ne0 h)
  obtain ⟨a2, _⟩ := first0 a2
  exact ⟨a1, errIf0 (by decide) a2⟩
 refine sk_need (okN_ok n) (sk_need (by rw [Nat.ble_eq]; exact hn) (sk_either (fun g0 => sk_either (fun g1 => sk_leaf (cutF_dn ?_)) fun g1 => ?_) fun g0 => sk_either (fun g1 => sk_leaf (cutF_dn ?_)) fun g1 => ?_))
 ·unfold waV waU; rw [g0]; simp only; rw [g1]; exact wa_left n z1 z2 _ _ _
 ·exact absurd (hE g1).2 (by decide)
 ·unfold waV waU; rw [g0]; simp only; rw [g1]; exact wa_left n z1 z2 _ _ _
 ·obtain ⟨e1, e2⟩ := hE g1
  simp only [decide_eq_false_iff_not] at g0 e2
  refine waG_ok n room index z1 z2 e1 (by omega) (by omega) ?_
  unfold waV
  rw [show decide (index < 0) = false by simpa using g0]
  simp only
  rw [ne0 g1]
theorem call_tree {T : FuncId → Option Spec} (hT : TabOk Tryz.prog T) {f : FuncId} {fn : Func} (hfn : Tryz.prog.funcs[f]? = some fn) (hc : fn.body = some (bodyOf fn)) {args : List A} {h : Hp} (m : Bool × Bool) {v : A} {h' : Hp}
  (hsz : (Nat.ble args.length fn.ntmps && Nat.ble args.length lim) = true) {t : Tree ((Bool × A × Hp) ⊕ (List Bool × St))} (h1 : preA Tryz.prog T fn args h m = t)
  (h3 : t.All fun o => match o with | .inl r => r.2 = (v, h') | .inr _ => False) : CallAt Tryz.prog f args h v h' := by
 subst h1
 refine call_all (recT_ok hT) hfn hc hsz m (Tree.All_mono (fun o ho => ?_) h3)
 cases o with
 | inl r => exact ho
 | inr x => exact ho.elim
def waNT (room index : Int) (z1 z2 : Nat → Int) : Tree ((Bool × A × Hp) ⊕ (List Bool × St)) := .need true (.need true (.node (decide (index < 0)) (.need true (.need true (.node (waE 0 room z1 z2 true != 0) (.leaf (.inl (true, .tup [(true, [ci 0, ci 0]), (false, [ci (waE 0 room z1 z2 true)])], hpT [] [] []))) (.fail 67))))
  (.need true (.node (waE 0 room z1 z2 (decide (index ≥ ((0 : Nat) : Int))) != 0) (.leaf (.inl (true, .tup [(true, [ci 0, ci 0]), (false, [ci (waE 0 room z1 z2 (decide (index ≥ ((0 : Nat) : Int))))])], hpT [] [] []))) (.fail 67)))))
theorem waN_eq (room index : Int) (z1 z2 : Nat → Int) : preA Tryz.prog (tabOf tbT1) Tryz.f44 [.agg [ci room, nilC], int index] (hpT [] [] []) (false, true) = waNT room index z1 z2 := by kernel_rfl
theorem waN_all (room index : Int) (z1 z2 : Nat → Int) : (waNT room index z1 z2).All fun o => match o with | .inl r => r.2 = (waV 0 room index z1 z2, hpT [] [] []) | .inr _ => False := by
 unfold waNT waV waU
 cases g0 : decide (index < 0) with
 | true =>
  cases g1 : waE 0 room z1 z2 true != 0 with
  | true => exact ⟨rfl, rfl, rfl, rfl, rfl⟩
  | false =>
   obtain ⟨_, a2⟩ := first0 (ne0 g1)
   obtain ⟨a2, _⟩ := first0 a2
   exact absurd (errIf0 (by decide) a2) (by decide)
 | false =>
  cases g1 : waE 0 room z1 z2 (decide (index ≥ ((0 : Nat) : Int))) != 0 with
  | true => exact ⟨rfl, rfl, rfl, rfl⟩
  | false =>
   obtain ⟨_, a2⟩ := first0 (ne0 g1)
   obtain ⟨a2, _⟩ := first0 a2
   have := errIf0 (by decide) a2
   simp only [decide_eq_false_iff_not] at this g0
   omega
theorem wa_nil (room index : Int) (z1 z2 : Nat → Int) : CallAt Tryz.prog 44 [.agg [ci room, nilC], int index] (hpT [] [] []) (waV 0 room index z1 z2) (hpT [] [] []) :=
 call_tree tbT1_ok Tryz.func44 (by kernel_rfl) (false, true) (by kernel_rfl) (waN_eq room index z1 z2) (waN_all room index z1 z2)
def waF : FT
 | [room, index], [], [], [⟨_, n, [.int .i64 z1, .int .i64 z2]⟩] => .need (Nat.ble n 17) (.leaf (waV n room index z1 z2, []))
 | _, _, _, _ => .fail 385
def waSp : Spec := fun args h => specT [tkS, (false, [.i])] [] waF args h
theorem wa_ok : SpecOk Tryz.prog 44 waSp := by
 refine specT_ok rfl (by decide) fun l m n ts v news hl hm hn ht hnil hF => ?_
 unfold waF at hF
 split at hF
 ·rename_i room index id n z1 z2
  obtain ⟨hok, hF⟩ := Tree.need_some hF
  have hok := Nat.le_of_ble_eq_true hok
  simp only [Tree.run, Option.some.injEq, Prod.mk.injEq] at hF
  obtain ⟨rfl, rfl⟩ := hF
  cases id with
  | none =>
   have h0 : n = 0 := hnil _ (List.mem_singleton.2 rfl) rfl
   subst h0
   exact wa_nil room index z1 z2
  | some id => exact wa_call n room index z1 z2 hok
 ·cases hF
end
end Go.Ev
