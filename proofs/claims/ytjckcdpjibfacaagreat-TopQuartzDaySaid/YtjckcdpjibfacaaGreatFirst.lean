/- The functions that return the first number of a list that is not 0. Conditions: the list lies by itself in memory. (Printed by gen_first.py.) -/
import Derived.Test.YtjckcdpjibfacaaGreatGcd
namespace Go.Ev
open Go Go.Proofs
def fnz (z : Nat → Int) : Nat → Nat → Option Int
 | 0, _ => none
 | m + 1, k => match z k != 0 with
  | true => some (z k)
  | false => fnz z m (k + 1)
def firstZ : List Int → Int
 | [] => 0
 | z :: l => match z != 0 with
  | true => z
  | false => firstZ l
theorem fnz_list : ∀ (l : List Int) (pre : List Int), fnz (fun k => (pre ++ l).getD k 0) l.length pre.length = if firstZ l = 0 then none else some (firstZ l)
 | [], _ => by simp [fnz, firstZ]
 | a :: l, pre => by
  have ih := fnz_list l (pre ++ [a])
  simp only [List.append_assoc, List.singleton_append, List.length_append, List.length_singleton] at ih
  have ha : (pre ++ a :: l).getD pre.length 0 = a := by simp
  simp only [List.length_cons, fnz, firstZ, ha]
  by_cases h : a = 0
  ·subst h; simpa using ih
  ·have : (a != 0) = true := by simpa using h
   simp [this, h]
def rowsI (z : Nat → Int) (n : Nat) (ro : Bool) (et : TypeId) : Blk := ⟨ro, et, .rows n [.int .i64 z]⟩
def intsC : List C → Option (List Int)
 | [] => some []
 | .lit (.int .i64 a) :: cs => match intsC cs with | some l => some (a :: l) | none => none
 | _ => none
theorem intsC_eq : ∀ {cs : List C} {l : List Int}, intsC cs = some l → cs = l.map ci
 | [], l, h => by simp only [intsC, Option.some.injEq] at h; subst h; rfl
 | c :: cs, l, h => by
  unfold intsC at h
  split at h
  ·rename_i e; cases e
  ·rename_i a cs' e
   obtain ⟨rfl, rfl⟩ := List.cons.inj e
   split at h
   ·rename_i l' hl
    simp only [Option.some.injEq] at h; subst h
    rw [intsC_eq hl]; rfl
   ·cases h
  ·cases h
theorem sub_ints {ro : Bool} {et : TypeId} {l : List Int} : Sub ⟨ro, et, .flat (l.map ci)⟩ (rowsI (fun k => l.getD k 0) l.length ro et) := by
 refine ⟨rfl, fun _ => rfl, fun E E' arr h k j c hk hj => ?_, fun _ cs1 e => (by cases e), rfl⟩
 have hj0 : j = 0 := by have := nth_lt hj; simp at this; omega
 subst hj0
 obtain rfl : Col.int .i64 (fun k => l.getD k 0) = c := by simpa [nth] using hj
 have hk' : nth (l.map ci) k = some (ci (l.getD k 0)) := by rw [nth_eq]; simp [hk]
 obtain ⟨x, hx, hi⟩ := h k _ hk'
 exact ⟨x, by simpa using hx, hi⟩
def listOf (h : Hp) : A → Option (List Int)
 | .one (.sl true id 0 1 0 n) => match h.blk id with
  | some ⟨false, _, .flat cs⟩ => match intsC cs with
   | some l => match Nat.beq l.length n with
    | true => some l
    | false => none
   | none => none
  | _ => none
 | _ => none
theorem listOf_spec {h : Hp} {a : A} {l : List Int} (hl : listOf h a = some l) : ∃ id et, a = .one (.sl true id 0 1 0 l.length) ∧ h.blk id = some ⟨false, et, .flat (l.map ci)⟩ := by
 unfold listOf at hl
 split at hl
 ·rename_i id n
  split at hl
  ·rename_i et cs hb
   split at hl
   ·rename_i l' hi
    split at hl
    ·rename_i hn
     injection hl with hl; subst hl
     obtain rfl := Nat.eq_of_beq_eq_true hn
     rw [intsC_eq hi] at hb
     exact ⟨id, et, rfl, hb⟩
    ·cases hl
   ·cases hl
  ·cases hl
 ·cases hl
def tabOfI (h : Hp) : A → Option (Nat × Nat × (Nat → Int))
 | .one (.sl true id 0 1 0 n) => match h.blk id with
  | some ⟨false, _, .rows n' [.int .i64 z]⟩ => some (n, n', z)
  | _ => none
 | _ => none
theorem tabOfI_spec {h : Hp} {a : A} {n n' : Nat} {z : Nat → Int} (hl : tabOfI h a = some (n, n', z)) : ∃ id et, a = .one (.sl true id 0 1 0 n) ∧ h.blk id = some ⟨false, et, .rows n' [.int .i64 z]⟩ := by
 unfold tabOfI at hl
 split at hl
 ·rename_i id n0
  split at hl
  ·rename_i et n1 z1 hb
   simp only [Option.some.injEq, Prod.mk.injEq] at hl
   obtain ⟨rfl, rfl, rfl⟩ := hl
   exact ⟨id, et, rfl, hb⟩
  ·cases hl
 ·cases hl
theorem sub_tabI {et : TypeId} {n n' : Nat} {z : Nat → Int} (hn : n ≤ n') : Sub ⟨false, et, .rows n' [.int .i64 z]⟩ (rowsI z n false et) := by
 refine ⟨rfl, fun _ => rfl, fun E E' arr h k j c hk hj => ?_, fun e => (by cases e), rfl⟩
 obtain ⟨x, hx, hi⟩ := h k j c (Nat.lt_of_lt_of_le hk hn) hj
 exact ⟨x, hx, at_is hi⟩
def isNilA : A → Bool
 | .one (.lit (.slice none 0 0)) => true
 | _ => false
def nilA : A := .one (.lit (.slice none 0 0))
theorem isNilA_eq {a : A} (h : isNilA a = true) : a = nilA := by
 unfold isNilA at h
 split at h
 ·rfl
 ·cases h
def specFirst : Spec := fun args h => match args with
 | [a] => match listOf h a with
  | some l => .leaf (int (firstZ l), h)
  | none => match tabOfI h a with
   | some (n, n', z) => .need (Nat.ble n n') (.leaf (int ((fnz z n 0).getD 0), h))
   | none => match isNilA a with
    | true => .leaf (int 0, h)
    | false => .fail 331
 | _ => .fail 331
def slI (n : Nat) : A := .one (.sl true 0 0 1 0 n)
theorem first_ok {P : Program} {f : FuncId} (hc : ∀ (z : Nat → Int) (n : Nat) (et : TypeId), n ≤ 9223372036854775807 → CallAt P f [slI n] (hpL [rowsI z n false et] []) (int ((fnz z n 0).getD 0)) (hpL [rowsI z n false et] [])) (hnil : CallAt P f [nilA] hp0 (int 0) hp0) : SpecOk P f specFirst := by
 intro args h v h' hr E w vals rh hargs
 unfold specFirst at hr
 split at hr
 ·rename_i a
  split at hr
  ·rename_i l hl
   simp only [Tree.run, Option.some.injEq, Prod.mk.injEq] at hr
   obtain ⟨rfl, rfl⟩ := hr
   obtain ⟨id, et, rfl, hb⟩ := listOf_spec hl
   have hv : (fnz (fun k => l.getD k 0) l.length 0).getD 0 = firstZ l := by
    have := fnz_list l []
    simp only [List.nil_append, List.length_nil] at this
    rw [this]
    split
    ·rename_i e; rw [e]; rfl
    ·rfl
   rw [← hv]
   match vals, hargs with
   | [y], ⟨hy, _⟩ =>
    have hn : l.length ≤ 9223372036854775807 := by
     obtain ⟨_, _, _, cap, _, _, h1, h2, _⟩ := sl_some hy (.inl rfl)
     simp only [maxLen] at h2
     omega
    refine lift_sub (ids := [id]) (hc (fun k => l.getD k 0) l.length et hn) rfl rh rfl (by simp [lim]) (by simp) (fun i id' b1 hi hb1 => ?_) (fun g i hg => by cases hg) ⟨?_, trivial⟩
    ·cases i with
     | zero =>
      injection hi with hi; subst hi
      injection hb1 with hb1; subst hb1
      exact ⟨_, hb, sub_ints⟩
     | succ i => cases hi
    ·obtain ⟨bn, s, o, cap, hE, r⟩ := sl_some hy (.inl rfl)
     exact .inl ⟨bn, s, o, cap, hE, r⟩
  ·split at hr
   ·rename_i n n' z hl
    obtain ⟨hn', hr⟩ := Tree.need_some hr
    simp only [Tree.run, Option.some.injEq, Prod.mk.injEq] at hr
    obtain ⟨rfl, rfl⟩ := hr
    obtain ⟨id, et, rfl, hb⟩ := tabOfI_spec hl
    match vals, hargs with
    | [y], ⟨hy, _⟩ =>
     have hn : n ≤ 9223372036854775807 := by
      obtain ⟨_, _, _, cap, _, _, h1, h2, _⟩ := sl_some hy (.inl rfl)
      simp only [maxLen] at h2
      omega
     refine lift_sub (ids := [id]) (hc z n et hn) rfl rh rfl (by simp [lim]) (by simp) (fun i id' b1 hi hb1 => ?_) (fun g i hg => by cases hg) ⟨?_, trivial⟩
     ·cases i with
      | zero =>
       injection hi with hi; subst hi
       injection hb1 with hb1; subst hb1
       exact ⟨_, hb, sub_tabI (Nat.le_of_ble_eq_true hn')⟩
      | succ i => cases hi
     ·obtain ⟨bn, s, o, cap, hE, r⟩ := sl_some hy (.inl rfl)
      exact .inl ⟨bn, s, o, cap, hE, r⟩
   ·split at hr
    ·rename_i hni
     simp only [Tree.run, Option.some.injEq, Prod.mk.injEq] at hr
     obtain ⟨rfl, rfl⟩ := hr
     obtain rfl := isNilA_eq hni
     exact lift0 hnil rfl rfl rh hargs
    ·cases hr
 ·cases hr
def stL (size : Nat) (env : Tr A) (bs : List Blk) : St := { size := size, env := env, hp := hpL bs [] }
theorem toNat_succ {i : Int} (h0 : 0 ≤ i) (h1 : i ≤ 9223372036854775806) : (IntKind.i64.wrap (i + 1)).toNat = i.toNat + 1 := by
 rw [wrap_id (by omega) (by omega)]; omega
def fiSH (z : Nat → Int) (n : Nat) (et : TypeId) (i : Int) : St := stL 15 (envL [(5, slI n), (6, int n), (7, int i)]) [rowsI z n false et]
def fiSX (z : Nat → Int) (n : Nat) (et : TypeId) : Option Int → X × St
 | some e => (.ret, stL 15 (envL [(2, int e)]) [rowsI z n false et])
 | none => (.exit 0, stL 15 (Tr.nil.set D 2 none) [rowsI z n false et])
def fiSS (z : Nat → Int) (n : Nat) (et : TypeId) (i : Int) : Tree (X × St) := .node (decide (i < n)) (.need (decide (0 ≤ i) && decide (i < n)) (.need (Nat.blt (0 + i.toNat) n) (.node (z (0 + i.toNat) != 0) (.leaf (fiSX z n et (some (z (0 + i.toNat))))) (.leaf (.normal, fiSH z n et (IntKind.i64.wrap (i + 1))))))) (.leaf (fiSX z n et none))
theorem fiS_round (z : Nat → Int) (n : Nat) (et : TypeId) (i : Int) : roundF Tryz.prog noTab Tryz.f37 [5, 6, 7] [2] (fiSH z n et i) = fiSS z n et i := by kernel_rfl
theorem fiS_loop (z : Nat → Int) (n : Nat) (et : TypeId) (hn : n ≤ 9223372036854775807) (i : Int) (hi : 0 ≤ i ∧ i ≤ n) : SumAt Tryz.prog (loopF Tryz.f37) (fiSH z n et i) (fiSX z n et (fnz z (n - i.toNat) i.toNat)) := by
 refine sum_loop rec0 (fiSH z n et) (fun i => n - i.toNat) (fun i => 0 ≤ i ∧ i ≤ n) (fun i => fiSX z n et (fnz z (n - i.toNat) i.toNat)) (fiSS z n et) (fun i _ => fiS_round z n et i) (fun i hi => ?_) i hi
 unfold fiSS
 by_cases h : i < n
 ·have e1 : decide (i < (n : Int)) = true := by simpa using h
  have e2 : (decide (0 ≤ i) && true) = true := by simpa using hi.1
  have e3 : Nat.blt i.toNat n = true := by rw [Nat.blt_eq]; omega
  have e5 : n - i.toNat = (n - i.toNat - 1) + 1 := by omega
  simp only [e1, Tree.All, Nat.zero_add]
  refine ⟨e2, e3, ?_⟩
  rw [e5, fnz]
  cases hz : z i.toNat != 0 with
  | true => rfl
  | false =>
   refine ⟨IntKind.i64.wrap (i + 1), rfl, ?_, ?_, ?_⟩
   ·rw [wrap_id (by omega) (by omega)]; omega
   ·rw [toNat_succ hi.1 (by omega)]; omega
   ·rw [toNat_succ hi.1 (by omega)]
    rw [show n - (i.toNat + 1) = n - i.toNat - 1 by omega]
 ·have e1 : decide (i < (n : Int)) = false := by simpa using h
  simp only [e1, Tree.All]
  rw [show n - i.toNat = 0 by omega]
  rfl
theorem fiS_call (z : Nat → Int) (n : Nat) (et : TypeId) (hn : n ≤ 9223372036854775807) : CallAt Tryz.prog 37 [slI n] (hpL [rowsI z n false et] []) (int ((fnz z n 0).getD 0)) (hpL [rowsI z n false et] []) := by
 have hpre : preT Tryz.prog noTab Tryz.f37 [slI n] (hpL [rowsI z n false et] []) [5, 6, 7] = .leaf (.inr (pathF Tryz.f37, fiSH z n et 0)) := by kernel_rfl
 refine call_pre noTab_ok Tryz.func37 (by kernel_rfl) 1 [5, 6, 7] (by kernel_rfl) ?_
 rw [hpre]
 refine cut_stop _ [] (fiS_loop z n et hn 0 ⟨by omega, by omega⟩) (by simp only [Int.toNat_zero]; cases fnz z (n - 0) 0 <;> rfl) ?_
 have hnone : postT Tryz.prog noTab Tryz.f37 (fiSX z n et none).1 (fiSX z n et none).2 (hpL [rowsI z n false et] []) [] = .leaf (.inl (true, int 0, hpL [rowsI z n false et] [])) := by kernel_rfl
 have hsome : ∀ e : Int, postT Tryz.prog noTab Tryz.f37 (fiSX z n et (some e)).1 (fiSX z n et (some e)).2 (hpL [rowsI z n false et] []) [] = .leaf (.inl (true, int e, hpL [rowsI z n false et] [])) := fun e => by kernel_rfl
 simp only [Int.toNat_zero, Nat.sub_zero]
 cases fnz z n 0 with
 | none => rw [hnone]; exact cut_done
 | some e => rw [hsome]; exact cut_done
theorem fiS_ok : SpecOk Tryz.prog 37 specFirst := first_ok (fun z n et hn => fiS_call z n et hn) (call_ev noTab_ok (by kernel_rfl))
def fiLH (z : Nat → Int) (n : Nat) (et : TypeId) (i : Int) : St := stL 15 (envL [(5, slI n), (6, int n), (7, int i)]) [rowsI z n false et]
def fiLX (z : Nat → Int) (n : Nat) (et : TypeId) : Option Int → X × St
 | some e => (.ret, stL 15 (envL [(2, int e)]) [rowsI z n false et])
 | none => (.exit 0, stL 15 (Tr.nil.set D 2 none) [rowsI z n false et])
def fiLS (z : Nat → Int) (n : Nat) (et : TypeId) (i : Int) : Tree (X × St) := .node (decide (i < n)) (.need (decide (0 ≤ i) && decide (i < n)) (.need (Nat.blt (0 + i.toNat) n) (.node (z (0 + i.toNat) != 0) (.leaf (fiLX z n et (some (z (0 + i.toNat))))) (.leaf (.normal, fiLH z n et (IntKind.i64.wrap (i + 1))))))) (.leaf (fiLX z n et none))
theorem fiL_round (z : Nat → Int) (n : Nat) (et : TypeId) (i : Int) : roundF Tryz.prog noTab Tryz.f65 [5, 6, 7] [2] (fiLH z n et i) = fiLS z n et i := by kernel_rfl
theorem fiL_loop (z : Nat → Int) (n : Nat) (et : TypeId) (hn : n ≤ 9223372036854775807) (i : Int) (hi : 0 ≤ i ∧ i ≤ n) : SumAt Tryz.prog (loopF Tryz.f65) (fiLH z n et i) (fiLX z n et (fnz z (n - i.toNat) i.toNat)) := by
 refine sum_loop rec0 (fiLH z n et) (fun i => n - i.toNat) (fun i => 0 ≤ i ∧ i ≤ n) (fun i => fiLX z n et (fnz z (n - i.toNat) i.toNat)) (fiLS z n et) (fun i _ => fiL_round z n et i) (fun i hi => ?_) i hi
 unfold fiLS
 by_cases h : i < n
 ·have e1 : decide (i < (n : Int)) = true := by simpa using h
  have e2 : (decide (0 ≤ i) && true) = true := by simpa using hi.1
  have e3 : Nat.blt i.toNat n = true := by rw [Nat.blt_eq]; omega
  have e5 : n - i.toNat = (n - i.toNat - 1) + 1 := by omega
  simp only [e1, Tree.All, Nat.zero_add]
  refine ⟨e2, e3, ?_⟩
  rw [e5, fnz]
  cases hz : z i.toNat != 0 with
  | true => rfl
  | false =>
   refine ⟨IntKind.i64.wrap (i + 1), rfl, ?_, ?_, ?_⟩
   ·rw [wrap_id (by omega) (by omega)]; omega
   ·rw [toNat_succ hi.1 (by omega)]; omega
   ·rw [toNat_succ hi.1 (by omega)]
    rw [show n - (i.toNat + 1) = n - i.toNat - 1 by omega]
 ·have e1 : decide (i < (n : Int)) = false := by simpa using h
  simp only [e1, Tree.All]
  rw [show n - i.toNat = 0 by omega]
  rfl
theorem fiL_call (z : Nat → Int) (n : Nat) (et : TypeId) (hn : n ≤ 9223372036854775807) : CallAt Tryz.prog 65 [slI n] (hpL [rowsI z n false et] []) (int ((fnz z n 0).getD 0)) (hpL [rowsI z n false et] []) := by
 have hpre : preT Tryz.prog noTab Tryz.f65 [slI n] (hpL [rowsI z n false et] []) [5, 6, 7] = .leaf (.inr (pathF Tryz.f65, fiLH z n et 0)) := by kernel_rfl
 refine call_pre noTab_ok Tryz.func65 (by kernel_rfl) 1 [5, 6, 7] (by kernel_rfl) ?_
 rw [hpre]
 refine cut_stop _ [] (fiL_loop z n et hn 0 ⟨by omega, by omega⟩) (by simp only [Int.toNat_zero]; cases fnz z (n - 0) 0 <;> rfl) ?_
 have hnone : postT Tryz.prog noTab Tryz.f65 (fiLX z n et none).1 (fiLX z n et none).2 (hpL [rowsI z n false et] []) [] = .leaf (.inl (true, int 0, hpL [rowsI z n false et] [])) := by kernel_rfl
 have hsome : ∀ e : Int, postT Tryz.prog noTab Tryz.f65 (fiLX z n et (some e)).1 (fiLX z n et (some e)).2 (hpL [rowsI z n false et] []) [] = .leaf (.inl (true, int e, hpL [rowsI z n false et] [])) := fun e => by kernel_rfl
 simp only [Int.toNat_zero, Nat.sub_zero]
 cases fnz z n 0 with
 | none => rw [hnone]; exact cut_done
 | some e => rw [hsome]; exact cut_done
theorem fiL_ok : SpecOk Tryz.prog 65 specFirst := first_ok (fun z n et hn => fiL_call z n et hn) (call_ev noTab_ok (by kernel_rfl))
def fiQH (z : Nat → Int) (n : Nat) (et : TypeId) (i : Int) : St := stL 19 (envL [(0, slI n), (3, int i)]) [rowsI z n false et]
def fiQX (z : Nat → Int) (n : Nat) (et : TypeId) : Option Int → X × St
 | some e => (.ret, stL 19 (envL [(2, int e)]) [rowsI z n false et])
 | none => (.exit 0, stL 19 (Tr.nil.set D 2 none) [rowsI z n false et])
def fiQS (z : Nat → Int) (n : Nat) (et : TypeId) (i : Int) : Tree (X × St) := .node (decide (i < n)) (.need (decide (0 ≤ i) && decide (i < n)) (.need (Nat.blt (0 + i.toNat) n) (.node (z (0 + i.toNat) != 0) (.need (decide (0 ≤ i) && decide (i < n)) (.need (Nat.blt (0 + i.toNat) n) (.leaf (fiQX z n et (some (z (0 + i.toNat))))))) (.leaf (.normal, fiQH z n et (IntKind.i64.wrap (i + 1))))))) (.leaf (fiQX z n et none))
theorem fiQ_round (z : Nat → Int) (n : Nat) (et : TypeId) (i : Int) : roundF Tryz.prog noTab Tryz.f23 [0, 3] [2] (fiQH z n et i) = fiQS z n et i := by kernel_rfl
theorem fiQ_loop (z : Nat → Int) (n : Nat) (et : TypeId) (hn : n ≤ 9223372036854775807) (i : Int) (hi : 0 ≤ i ∧ i ≤ n) : SumAt Tryz.prog (loopF Tryz.f23) (fiQH z n et i) (fiQX z n et (fnz z (n - i.toNat) i.toNat)) := by
 refine sum_loop rec0 (fiQH z n et) (fun i => n - i.toNat) (fun i => 0 ≤ i ∧ i ≤ n) (fun i => fiQX z n et (fnz z (n - i.toNat) i.toNat)) (fiQS z n et) (fun i _ => fiQ_round z n et i) (fun i hi => ?_) i hi
 unfold fiQS
 by_cases h : i < n
 ·have e1 : decide (i < (n : Int)) = true := by simpa using h
  have e2 : (decide (0 ≤ i) && true) = true := by simpa using hi.1
  have e3 : Nat.blt i.toNat n = true := by rw [Nat.blt_eq]; omega
  have e5 : n - i.toNat = (n - i.toNat - 1) + 1 := by omega
  simp only [e1, Tree.All, Nat.zero_add]
  refine ⟨e2, e3, ?_⟩
  rw [e5, fnz]
  cases hz : z i.toNat != 0 with
  | true => exact ⟨e2, e3, rfl⟩
  | false =>
   refine ⟨IntKind.i64.wrap (i + 1), rfl, ?_, ?_, ?_⟩
   ·rw [wrap_id (by omega) (by omega)]; omega
   ·rw [toNat_succ hi.1 (by omega)]; omega
   ·rw [toNat_succ hi.1 (by omega)]
    rw [show n - (i.toNat + 1) = n - i.toNat - 1 by omega]
 ·have e1 : decide (i < (n : Int)) = false := by simpa using h
  simp only [e1, Tree.All]
  rw [show n - i.toNat = 0 by omega]
  rfl
theorem fiQ_call (z : Nat → Int) (n : Nat) (et : TypeId) (hn : n ≤ 9223372036854775807) : CallAt Tryz.prog 23 [slI n] (hpL [rowsI z n false et] []) (int ((fnz z n 0).getD 0)) (hpL [rowsI z n false et] []) := by
 have hpre : preT Tryz.prog noTab Tryz.f23 [slI n] (hpL [rowsI z n false et] []) [0, 3] = .leaf (.inr (pathF Tryz.f23, fiQH z n et 0)) := by kernel_rfl
 refine call_pre noTab_ok Tryz.func23 (by kernel_rfl) 1 [0, 3] (by kernel_rfl) ?_
 rw [hpre]
 refine cut_stop _ [] (fiQ_loop z n et hn 0 ⟨by omega, by omega⟩) (by simp only [Int.toNat_zero]; cases fnz z (n - 0) 0 <;> rfl) ?_
 have hnone : postT Tryz.prog noTab Tryz.f23 (fiQX z n et none).1 (fiQX z n et none).2 (hpL [rowsI z n false et] []) [] = .leaf (.inl (true, int 0, hpL [rowsI z n false et] [])) := by kernel_rfl
 have hsome : ∀ e : Int, postT Tryz.prog noTab Tryz.f23 (fiQX z n et (some e)).1 (fiQX z n et (some e)).2 (hpL [rowsI z n false et] []) [] = .leaf (.inl (true, int e, hpL [rowsI z n false et] [])) := fun e => by kernel_rfl
 simp only [Int.toNat_zero, Nat.sub_zero]
 cases fnz z n 0 with
 | none => rw [hnone]; exact cut_done
 | some e => rw [hsome]; exact cut_done
theorem fiQ_ok : SpecOk Tryz.prog 23 specFirst := first_ok (fun z n et hn => fiQ_call z n et hn) (call_ev noTab_ok (by kernel_rfl))
end Go.Ev
