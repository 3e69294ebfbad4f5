/- The greatest common divisors and the roots of the program: (sun).common, (spillageref01).Divisor, (sun).root. Conditions: as the tables' entries say. -/
import Derived.Test.YtjckcdpjibfacaaGreatBas
namespace Go.Ev
open Go Go.Proofs
theorem wrap_id {n : Int} (h0 : -9223372036854775808 ≤ n) (h1 : n ≤ 9223372036854775807) : IntKind.i64.wrap n = n := by
 unfold IntKind.wrap
 simp only [show IntKind.i64.bits = 64 from rfl, show IntKind.i64.signed = true from rfl, Bool.true_and, decide_eq_true_eq]
 split <;> omega
def eucl : Nat → Int → Int → Int
 | 0, a, _ => a
 | n + 1, a, b => match b == 0 with | true => a | false => eucl n b (a.tmod b)
theorem tmod_lt (a : Int) {b : Int} (h : b ≠ 0) : (a.tmod b).natAbs < b.natAbs := by
 rw [Int.natAbs_tmod]
 exact Nat.mod_lt _ (by omega)
theorem eucl_more : ∀ (n m : Nat) (a b : Int), b.natAbs < n → b.natAbs < m → eucl n a b = eucl m a b
 | n + 1, m + 1, a, b, h, h' => by
  unfold eucl
  split
  ·rfl
  ·rename_i hb
   have hb : b ≠ 0 := by simpa using hb
   have := tmod_lt a hb
   exact eucl_more n m b _ (by omega) (by omega)
 | 0, _, _, _, h, _ => by omega
 | _ + 1, 0, _, _, _, h => by omega
theorem eucl_abs : ∀ (n : Nat) (a b : Int), b.natAbs < n → (eucl n a b).natAbs = Int.gcd a b
 | n + 1, a, b, h => by
  unfold eucl
  split
  ·rename_i hb
   have hb : b = 0 := by simpa using hb
   subst hb; simp
  ·rename_i hb
   have hb : b ≠ 0 := by simpa using hb
   have h2 := tmod_lt a hb
   rw [eucl_abs n b _ (by omega)]
   unfold Int.gcd
   rw [Int.natAbs_tmod, Nat.gcd_comm, ← Nat.gcd_rec, Nat.gcd_comm]
 | 0, _, _, h => by omega
def euc (a b : Int) : Int := eucl (b.natAbs + 1) a b
theorem euc_abs (a b : Int) : (euc a b).natAbs = Int.gcd a b := eucl_abs _ a b (by omega)
theorem euc_step (a : Int) {b : Int} (h : b ≠ 0) : euc a b = euc b (a.tmod b) := by
 unfold euc
 rw [eucl]
 have hb : (b == 0) = false := by simpa using h
 rw [hb]
 exact eucl_more _ _ _ _ (tmod_lt a h) (by omega)
def comH (x : Int × Int) : St := stE 15 (envL [(0, int x.1), (1, int x.2)])
def comStep (x : Int × Int) : Tree (X × St) := .node (x.2 != 0) (.need (!(x.2 == 0)) (.leaf (.normal, comH (x.2, x.1.tmod x.2)))) (.leaf (.exit 0, comH x))
theorem com_round (x : Int × Int) : roundF Tryz.prog noTab Tryz.f79 [0, 1] [0, 1] (comH x) = comStep x := by
 obtain ⟨a, b⟩ := x
 kernel_rfl
theorem com_loop (x : Int × Int) : SumAt Tryz.prog (loopF Tryz.f79) (comH x) (.exit 0, comH (euc x.1 x.2, 0)) := by
 refine sum_loop rec0 comH (fun x => x.2.natAbs) (fun _ => True) (fun x => (.exit 0, comH (euc x.1 x.2, 0))) comStep (fun x _ => com_round x) (fun x _ => ?_) x trivial
 obtain ⟨a, b⟩ := x
 unfold comStep
 by_cases h : b = 0
 ·subst h
  show (X.exit 0, comH (a, 0)) = (X.exit 0, comH (euc a 0, 0))
  rfl
 ·have h1 : (b != 0) = true := by simpa using h
  have h2 : (!(b == 0)) = true := by simpa using h
  simp only [h1, h2, Tree.All]
  refine ⟨trivial, (b, a.tmod b), rfl, trivial, tmod_lt a h, ?_⟩
  rw [euc_step a h]
def max2 (x y : Int) : Int := if y > x then y else x
theorem com_call (a b : Int) : CallAt Tryz.prog 79 [int a, int b] hp0 (int (max2 (euc a b) (IntKind.i64.wrap (0 - euc a b)))) hp0 := by
 have hpre : preT Tryz.prog noTab Tryz.f79 [int a, int b] hp0 [0, 1] = .leaf (.inr (pathF Tryz.f79, comH (a, b))) := by kernel_rfl
 refine call_pre noTab_ok Tryz.func79 (by kernel_rfl) 1 [0, 1] (by kernel_rfl) ?_
 rw [hpre]
 refine cut_stop _ [] (com_loop (a, b)) rfl ?_
 have hpost : postT Tryz.prog noTab Tryz.f79 (.exit 0) (comH (euc a b, 0)) hp0 [] = .leaf (.inl (true, int (max2 (euc a b) (IntKind.i64.wrap (0 - euc a b))), hp0)) := by kernel_rfl
 rw [hpost]
 exact cut_done
theorem max2_gcd {g : Int} {n : Nat} (h : g.natAbs = n) (hn : n < 9223372036854775808) : max2 g (IntKind.i64.wrap (0 - g)) = n := by
 rw [wrap_id (by omega) (by omega)]
 unfold max2
 split <;> omega
def specCommon : Spec := fun args h => match args with
 | [.one (.lit (.int .i64 a)), .one (.lit (.int .i64 b))] => .need (Nat.blt (Int.gcd a b) 9223372036854775808) (.leaf (int (Int.gcd a b), h))
 | _ => .fail 320
theorem specCommon_ok : SpecOk Tryz.prog 79 specCommon := by
 intro args h v h' hr E w vals rh hargs
 unfold specCommon at hr
 split at hr
 ·rename_i a b
  obtain ⟨hn, hr⟩ := Tree.need_some hr
  simp only [Tree.run, Option.some.injEq, Prod.mk.injEq] at hr
  obtain ⟨rfl, rfl⟩ := hr
  rw [← max2_gcd (euc_abs a b) (by simpa [Nat.blt_eq] using hn)]
  exact lift0 (com_call a b) rfl rfl rh hargs
 ·cases hr
def divH (x : Int × Int) : St := stE 24 (envL [(0, int x.1), (1, int x.2)])
def divStep (x : Int × Int) : Tree (X × St) := .node (x.2 != 0) (.need (!(x.2 == 0)) (.leaf (.normal, divH (x.2, x.1.tmod x.2)))) (.leaf (.exit 0, divH x))
theorem div_round (x : Int × Int) : roundF Tryz.prog noTab Tryz.f74 [0, 1] [0, 1] (divH x) = divStep x := by
 obtain ⟨a, b⟩ := x
 kernel_rfl
theorem div_loop (x : Int × Int) : SumAt Tryz.prog (loopF Tryz.f74) (divH x) (.exit 0, divH (euc x.1 x.2, 0)) := by
 refine sum_loop rec0 divH (fun x => x.2.natAbs) (fun _ => True) (fun x => (.exit 0, divH (euc x.1 x.2, 0))) divStep (fun x _ => div_round x) (fun x _ => ?_) x trivial
 obtain ⟨a, b⟩ := x
 unfold divStep
 by_cases h : b = 0
 ·subst h
  show (X.exit 0, divH (a, 0)) = (X.exit 0, divH (euc a 0, 0))
  rfl
 ·have h1 : (b != 0) = true := by simpa using h
  have h2 : (!(b == 0)) = true := by simpa using h
  simp only [h1, h2, Tree.All]
  refine ⟨trivial, (b, a.tmod b), rfl, trivial, tmod_lt a h, ?_⟩
  rw [euc_step a h]
def absW (a : Int) : Int := if a < 0 then IntKind.i64.wrap (0 - a) else a
def divV (g : Int) : Int := if g = 0 then 1 else g
theorem div_call (a b : Int) : CallAt Tryz.prog 74 [int a, int b] hp0 (int (divV (euc (absW a) (absW b)))) hp0 := by
 have hpre : preT Tryz.prog noTab Tryz.f74 [int a, int b] hp0 [0, 1] =
   .node (decide (a < 0)) (.node (decide (b < 0)) (.leaf (.inr (pathF Tryz.f74, divH (IntKind.i64.wrap (0 - a), IntKind.i64.wrap (0 - b))))) (.leaf (.inr (pathF Tryz.f74, divH (IntKind.i64.wrap (0 - a), b)))))
    (.node (decide (b < 0)) (.leaf (.inr (pathF Tryz.f74, divH (a, IntKind.i64.wrap (0 - b))))) (.leaf (.inr (pathF Tryz.f74, divH (a, b))))) := by kernel_rfl
 have hpost : ∀ g : Int, postT Tryz.prog noTab Tryz.f74 (.exit 0) (divH (g, 0)) hp0 [] =
   .node (g == 0) (.leaf (.inl (true, int 1, hp0))) (.leaf (.inl (true, int g, hp0))) := fun g => by kernel_rfl
 have hend : ∀ a' b' : Int, CutP Tryz.prog noTab Tryz.f74 hp0 (int (divV (euc a' b'))) hp0 1 (.inr (pathF Tryz.f74, divH (a', b'))) := fun a' b' => by
  refine cut_stop _ [] (div_loop (a', b')) rfl ?_
  rw [hpost]
  unfold divV
  simp only [Tree.All]
  by_cases h : euc a' b' = 0
  ·rw [if_pos h, show (euc a' b' == 0) = true by simpa using h]; rfl
  ·rw [if_neg h, show (euc a' b' == 0) = false by simpa using h]; rfl
 refine call_pre noTab_ok Tryz.func74 (by kernel_rfl) 1 [0, 1] (by kernel_rfl) ?_
 rw [hpre]
 simp only [Tree.All]
 unfold absW
 by_cases h1 : a < 0 <;> by_cases h2 : b < 0
 ·rw [if_pos h1, if_pos h2, decide_eq_true h1, decide_eq_true h2]; exact hend _ _
 ·rw [if_pos h1, if_neg h2, decide_eq_true h1, decide_eq_false h2]; exact hend _ _
 ·rw [if_neg h1, if_pos h2, decide_eq_false h1, decide_eq_true h2]; exact hend _ _
 ·rw [if_neg h1, if_neg h2, decide_eq_false h1, decide_eq_false h2]; exact hend _ _
theorem eucl_pos : ∀ (n : Nat) {a b : Int}, 0 ≤ a → 0 ≤ b → 0 ≤ eucl n a b
 | 0, a, b, ha, _ => ha
 | n + 1, a, b, ha, hb => by
  unfold eucl
  split
  ·exact ha
  ·exact eucl_pos n hb (Int.tmod_nonneg _ ha)
def gcd1 (a b : Int) : Int := match Int.gcd a b == 0 with | true => 1 | false => Int.gcd a b
theorem divV_gcd {a b : Int} (ha : -9223372036854775808 < a ∧ a < 9223372036854775808) (hb : -9223372036854775808 < b ∧ b < 9223372036854775808) : divV (euc (absW a) (absW b)) = gcd1 a b := by
 have h1 : ∀ {a : Int}, (-9223372036854775808 < a ∧ a < 9223372036854775808) → absW a = a.natAbs := fun {a} ha => by
  unfold absW
  split
  ·rw [wrap_id (by omega) (by omega)]; omega
  ·omega
 rw [h1 ha, h1 hb]
 have h2 : euc a.natAbs b.natAbs = Int.gcd a b := by
  have h3 := euc_abs a.natAbs b.natAbs
  have h4 : 0 ≤ euc a.natAbs b.natAbs := eucl_pos _ (by omega) (by omega)
  rw [show Int.gcd (a.natAbs : Int) (b.natAbs : Int) = Int.gcd a b from rfl] at h3
  omega
 rw [h2]
 unfold divV gcd1
 by_cases h : Int.gcd a b = 0
 ·rw [if_pos (by omega), show (Int.gcd a b == 0) = true by simpa using h]
 ·rw [if_neg (by omega), show (Int.gcd a b == 0) = false by simpa using h]
def in63 (a : Int) : Bool := decide (-9223372036854775808 < a) && decide (a < 9223372036854775808)
def specDivisor : Spec := fun args h => match args with
 | [.one (.lit (.int .i64 a)), .one (.lit (.int .i64 b))] => .need (in63 a && in63 b) (.leaf (int (gcd1 a b), h))
 | _ => .fail 321
theorem specDivisor_ok : SpecOk Tryz.prog 74 specDivisor := by
 intro args h v h' hr E w vals rh hargs
 unfold specDivisor at hr
 split at hr
 ·rename_i a b
  obtain ⟨hn, hr⟩ := Tree.need_some hr
  simp only [Tree.run, Option.some.injEq, Prod.mk.injEq] at hr
  obtain ⟨rfl, rfl⟩ := hr
  simp only [in63, Bool.and_eq_true, decide_eq_true_eq] at hn
  rw [← divV_gcd hn.1 hn.2]
  exact lift0 (div_call a b) rfl rfl rh hargs
 ·cases hr
end Go.Ev
