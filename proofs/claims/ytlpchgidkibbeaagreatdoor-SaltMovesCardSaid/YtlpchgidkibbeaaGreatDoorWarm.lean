/- Tanks: the warmth of a layer. Conditions: few layers. -/
import Derived.Test.YtlpchgidkibbeaaGreatDoorTank3
import Derived.Test.YtlpchgidkibbeaaGreatDoorGcd
namespace Go.Ev
open Go Go.Proofs
set_option maxRecDepth 100000

section
variable (n : Nat) (room index : Int) (z1 z2 : Nat → Int)
def waB : St := { baseB 52 [tankA room n, int index] (tankH n z1 z2) with keep := true }
def waN (env : List (Nat × A)) (news : List Blk) : St := stN 52 (envL env) (bsS [⟨some 0, n, tkC z1 z2⟩] []) [] news true
def waM (a h : Int) : List Blk := [⟨false, 84, .flat [ci 0, ci 0]⟩, ⟨false, 152, .flat [ci a, ci h]⟩]
def waH (a h : Int) (x : Int × Int) : St := waN n z1 z2 [(4, .one (.ptr 1 0 1 0)), (7, .one (.ptr 2 0 1 0)), (8, int x.1), (9, int x.2)] (waM a h)
def waX (a h : Int) (g : Int) : St := waN n z1 z2 [(4, .one (.ptr 1 0 1 0)), (7, .one (.ptr 2 0 1 0)), (8, int g)] (waM a h)
def waR (e r0 r1 : Int) : St := waN n z1 z2 [(4, .one (.ptr 1 0 1 0)), (5, int e)] [⟨false, 84, .flat [ci r0, ci r1]⟩]
noncomputable def waRe : Code → St → Tree (X × St) := recT Tryz.prog (tabOf tbT1)
noncomputable def waO : Tree ((X × St) ⊕ (List Bool × St)) := evO waRe (bodyOf Tryz.f44) [4, 7, 8, 9] [4, 5] (waB n room index z1 z2)
noncomputable def waT (a h : Int) (x : Int × Int) : Tree (X × St) := (waRe (loopF Tryz.f44) (waH n z1 z2 a h x)).bind (canonT [4, 7, 8, 9] [4, 7, 8] (waB n room index z1 z2))
noncomputable def waP (a h g : Int) : Tree ((X × St) ⊕ (List Bool × St)) := evO2 waRe true (bodyOf Tryz.f44) (pathF Tryz.f44) [] [4, 5] (waB n room index z1 z2) (.exit 0, waX n z1 z2 a h g)
def waE (b : Bool) : Int := firstZ [tankE n room z1 z2, errIf b 10]
abbrev SkW := Sk ((X × St) ⊕ (List Bool × St))
noncomputable def waG : SkW := .need (decide (0 ≤ index) && decide (index < (n : Int))) (.need (Nat.blt (0 + index.toNat) n) (.need (Nat.blt (0 + index.toNat) n) (.leaf (.inr (pathF Tryz.f44, waH n z1 z2 (z1 (0 + index.toNat)) (z2 (0 + index.toNat)) (z2 (0 + index.toNat), z1 (0 + index.toNat)))))))
noncomputable def waOS : SkW := .need (okN n) (.need (Nat.ble n 17) (.node (decide (index < 0)) (.node (waE n room z1 z2 true != 0) (.leaf (.inl (.ret, waR n z1 z2 (waE n room z1 z2 true) 0 0))) (waG n index z1 z2)) (.node (waE n room z1 z2 (decide (index ≥ (n : Int))) != 0) (.leaf (.inl (.ret, waR n z1 z2 (waE n room z1 z2 (decide (index ≥ (n : Int)))) 0 0))) (waG n index z1 z2))))
noncomputable def waTS (a h : Int) (x : Int × Int) : Sk (X × St) := .node (x.2 != 0) (.need (!(x.2 == 0)) (.leaf (.normal, waH n z1 z2 a h (x.2, x.1.tmod x.2)))) (.leaf (.exit 0, waX n z1 z2 a h x.1))
noncomputable def waPS (a h g : Int) : SkW := .need (!(g == 0)) (.need (!(g == 0)) (.leaf (.inl (.ret, waR n z1 z2 0 (w64 (h.tdiv g)) (w64 (a.tdiv g))))))
theorem waO_into : waO n room index z1 z2 = into (waO n room index z1 z2) (waOS n room index z1 z2) := by kernel_rfl
theorem waO_fits : fits (waO n room index z1 z2) (waOS n room index z1 z2) = true := by kernel_rfl
theorem waT_into (a h x y : Int) : waT n room index z1 z2 a h (x, y) = into (waT n room index z1 z2 a h (x, y)) (waTS n z1 z2 a h (x, y)) := by kernel_rfl
theorem waT_fits (a h x y : Int) : fits (waT n room index z1 z2 a h (x, y)) (waTS n z1 z2 a h (x, y)) = true := by kernel_rfl
theorem waP_into (a h g : Int) : waP n room index z1 z2 a h g = into (waP n room index z1 z2 a h g) (waPS n z1 z2 a h g) := by kernel_rfl
theorem waP_fits (a h g : Int) : fits (waP n room index z1 z2 a h g) (waPS n z1 z2 a h g) = true := by kernel_rfl
theorem waRe_ok : RecOk Tryz.prog waRe := recT_ok tbT1_ok
theorem wa_loop (a h : Int) (x : Int × Int) : ComesF Tryz.prog (.loop (loopF Tryz.f44)) (waB n room index z1 z2) (waH n z1 z2 a h x) fun q => q = (.exit 0, waX n z1 z2 a h (euc x.1 x.2)) := by
  refine loop_all (rec := waRe) waRe_ok rfl [4, 7, 8, 9] [4, 7, 8] (fun x : Int × Int => waH n z1 z2 a h x) (fun x => x.2.natAbs) (fun _ => True) (fun x => (.exit 0, waX n z1 z2 a h (euc x.1 x.2))) (fun x _ => ?_) x trivial
  obtain ⟨x, y⟩ := x
  refine all_into (waT_into n room index z1 z2 a h x y) (waT_fits n room index z1 z2 a h x y) (SkLeads.all ?_)
  refine sk_either (fun hy => ?_) fun hy => sk_leaf ?_
  · have h0 : y ≠ 0 := by simpa using hy
    refine sk_need (by simpa using h0) (sk_leaf ⟨(y, x.tmod y), St.Le.refl _, trivial, tmod_lt x h0, ?_⟩)
    simp only []
    rw [← euc_step x h0]
  · have h0 : y = 0 := by simpa using hy
    subst h0
    rfl
end
/-- the layers of a tank without an error -/
theorem tank_fnz {g : Nat → Int} : ∀ {m k : Nat}, (fnz g m k).getD 0 = 0 → ∀ j, k ≤ j → j < k + m → g j = 0
  | 0, k, _, j, h1, h2 => by omega
  | m + 1, k, h, j, h1, h2 => by
    unfold fnz at h
    split at h
    · rename_i hz
      have : g k ≠ 0 := by simpa using hz
      exact absurd h this
    · rename_i hz
      rcases Nat.eq_or_lt_of_le h1 with e | e
      · subst e; simpa using hz
      · exact tank_fnz h j e (by omega)
theorem tank_rows {n : Nat} {room : Int} {z1 z2 : Nat → Int} (h : tankE n room z1 z2 = 0) : ∀ k, k < n → (1 ≤ z1 k ∧ z1 k ≤ 1000000) ∧ 0 ≤ z2 k ∧ z2 k ≤ 1000000000 := fun k hk => by
  unfold tankE at h
  split at h
  · rename_i h1
    rw [h] at h1
    cases h1
  · have h2 : (fnz (layE z1 z2) n 0).getD 0 = 0 := by
      split at h
      · rename_i e he; rw [he]; exact h
      · rename_i he; rw [he]; rfl
    have h3 := tank_fnz h2 k (Nat.zero_le k) (by omega)
    have h4 : rowE z1 z2 k = 0 := by
      unfold layE at h3
      split at h3
      · rename_i h1
        rw [h3] at h1
        cases h1
      · rename_i h1
        exact ne0 h1
    obtain ⟨h5, h6⟩ := first0 h4
    obtain ⟨h6, _⟩ := first0 h6
    exact ⟨wW0 h5, wW0 h6⟩
theorem euc_gcd1 {a b : Int} (ha : 0 ≤ a) (hb : 1 ≤ b) : euc a b = gcd1 a b ∧ euc a b ≠ 0 := by
  have h1 := euc_abs a b
  have h2 : 0 ≤ euc a b := eucl_pos _ ha (by omega)
  have h3 : Int.gcd a b ≠ 0 := fun e => by
    have := (Int.gcd_eq_zero_iff.1 e).2
    omega
  refine ⟨?_, by omega⟩
  unfold gcd1
  rw [show (Int.gcd a b == 0) = false by simpa using h3]
  simp only
  omega
/-- what is handed back -/
def waU (a h e : Int) : A := match e != 0 with
  | true => .tup [(true, [ci 0, ci 0]), (false, [ci e])]
  | false => .tup [(true, [ci (w64 (h.tdiv (gcd1 h a))), ci (w64 (a.tdiv (gcd1 h a)))]), (false, [ci 0])]
section
variable (n : Nat) (room index : Int) (z1 z2 : Nat → Int)
def waV : A := match decide (index < 0) with
  | true => waU (z1 (0 + index.toNat)) (z2 (0 + index.toNat)) (waE n room z1 z2 true)
  | false => waU (z1 (0 + index.toNat)) (z2 (0 + index.toNat)) (waE n room z1 z2 (decide (index ≥ (n : Int))))
theorem wa_left (e r0 r1 : Int) : Left2 Tryz.prog Tryz.f44 (tankH n z1 z2) (.tup [(true, [ci r0, ci r1]), (false, [ci e])]) (tankH n z1 z2) (.ret, waR n z1 z2 e r0 r1) := left_of (b := true) (by kernel_rfl)
abbrev WaCut (k : Nat) : (X × St) ⊕ (List Bool × St) → Prop := CutF Tryz.prog waRe (bodyOf Tryz.f44) (waB n room index z1 z2) (Left2 Tryz.prog Tryz.f44 (tankH n z1 z2) (waV n room index z1 z2) (tankH n z1 z2)) k
theorem waG_ok (h0 : tankE n room z1 z2 = 0) (h1 : 0 ≤ index) (h2 : index < (n : Int)) (hV : waV n room index z1 z2 = waU (z1 (0 + index.toNat)) (z2 (0 + index.toNat)) 0) : SkLeads (WaCut n room index z1 z2 1) (waG n index z1 z2) := by
  obtain ⟨k, rfl⟩ : ∃ k : Nat, index = (k : Int) := ⟨index.toNat, by omega⟩
  have hk : k < n := by omega
  obtain ⟨b1, b2, b3⟩ := rnd_lt hk
  rw [idx_nat] at hV
  obtain ⟨⟨c1, c2⟩, c3, c4⟩ := tank_rows h0 k hk
  obtain ⟨d1, d2⟩ := euc_gcd1 c3 c1
  unfold waG
  refine sk_need b2 (sk_need b3 (sk_need b3 (sk_leaf ⟨_, true, [], [4, 5], wa_loop n room _ z1 z2 _ _ _, fun q hq => Leads.all ?_⟩)))
  subst hq
  rw [idx_nat]
  refine leads_in (show _ = waP n room (k : Int) z1 z2 (z1 k) (z2 k) (euc (z2 k) (z1 k)) by delta waP; rfl) (waP_into n room _ z1 z2 _ _ _) (waP_fits n room _ z1 z2 _ _ _) ?_
  have hd : (!(euc (z2 k) (z1 k) == 0)) = true := by simpa using d2
  refine sk_need hd (sk_need hd (sk_leaf (cutF_dn ?_)))
  rw [hV, d1]
  exact wa_left n z1 z2 _ _ _
theorem wa_call (hn : n ≤ 17) : CallAt Tryz.prog 44 [tankA room n, int index] (tankH n z1 z2) (waV n room index z1 z2) (tankH n z1 z2) := by
  refine call_base (rec := waRe) waRe_ok (c := bodyOf Tryz.f44) (fn := Tryz.f44) Tryz.func44 (by kernel_rfl) (by kernel_rfl) (false, true) 1 [4, 7, 8, 9] [4, 5] (sB := waB n room index z1 z2) (by kernel_rfl) (t := waO n room index z1 z2) (by delta waO; rfl) (all_into (waO_into n room index z1 z2) (waO_fits n room index z1 z2) (SkLeads.all ?_))
  have hE : ∀ {b : Bool}, (waE n room z1 z2 b != 0) = false → tankE n room z1 z2 = 0 ∧ b = false := fun {b} h => by
    obtain ⟨a1, a2⟩ := first0 (ne0 h)
    obtain ⟨a2, _⟩ := first0 a2
    exact ⟨a1, errIf0 (by decide) a2⟩
  refine sk_need (okN_ok n) (sk_need (by rw [Nat.ble_eq]; exact hn) (sk_either (fun g0 => sk_either (fun g1 => sk_leaf (cutF_dn ?_)) fun g1 => ?_) fun g0 => sk_either (fun g1 => sk_leaf (cutF_dn ?_)) fun g1 => ?_))
  · unfold waV waU; rw [g0]; simp only; rw [g1]; exact wa_left n z1 z2 _ _ _
  · exact absurd (hE g1).2 (by decide)
  · unfold waV waU; rw [g0]; simp only; rw [g1]; exact wa_left n z1 z2 _ _ _
  · obtain ⟨e1, e2⟩ := hE g1
    simp only [decide_eq_false_iff_not] at g0 e2
    refine waG_ok n room index z1 z2 e1 (by omega) (by omega) ?_
    unfold waV
    rw [show decide (index < 0) = false by simpa using g0]
    simp only
    rw [ne0 g1]
/-- a function's whole code, by its tree -/
theorem call_tree {T : FuncId → Option Spec} (hT : TabOk Tryz.prog T) {f : FuncId} {fn : Func} (hfn : Tryz.prog.funcs[f]? = some fn) (hc : fn.body = some (bodyOf fn)) {args : List A} {h : Hp} (m : Bool × Bool) {v : A} {h' : Hp}
    (hsz : (Nat.ble args.length fn.ntmps && Nat.ble args.length lim) = true) {t : Tree ((Bool × A × Hp) ⊕ (List Bool × St))} (h1 : preA Tryz.prog T fn args h m = t)
    (h3 : t.All fun o => match o with | .inl r => r.2 = (v, h') | .inr _ => False) : CallAt Tryz.prog f args h v h' := by
  subst h1
  refine call_all (recT_ok hT) hfn hc hsz m (Tree.All_mono (fun o ho => ?_) h3)
  cases o with
  | inl r => exact ho
  | inr x => exact ho.elim
def waNT (room index : Int) (z1 z2 : Nat → Int) : Tree ((Bool × A × Hp) ⊕ (List Bool × St)) := .need true (.need true (.node (decide (index < 0)) (.need true (.need true (.node (waE 0 room z1 z2 true != 0) (.leaf (.inl (true, .tup [(true, [ci 0, ci 0]), (false, [ci (waE 0 room z1 z2 true)])], hpT [] [] []))) (.fail 67))))
    (.need true (.node (waE 0 room z1 z2 (decide (index ≥ ((0 : Nat) : Int))) != 0) (.leaf (.inl (true, .tup [(true, [ci 0, ci 0]), (false, [ci (waE 0 room z1 z2 (decide (index ≥ ((0 : Nat) : Int))))])], hpT [] [] []))) (.fail 67)))))
theorem waN_eq (room index : Int) (z1 z2 : Nat → Int) : preA Tryz.prog (tabOf tbT1) Tryz.f44 [.agg [ci room, nilC], int index] (hpT [] [] []) (false, true) = waNT room index z1 z2 := by kernel_rfl
theorem waN_all (room index : Int) (z1 z2 : Nat → Int) : (waNT room index z1 z2).All fun o => match o with | .inl r => r.2 = (waV 0 room index z1 z2, hpT [] [] []) | .inr _ => False := by
  unfold waNT waV waU
  cases g0 : decide (index < 0) with
  | true =>
    cases g1 : waE 0 room z1 z2 true != 0 with
    | true => exact ⟨rfl, rfl, rfl, rfl, rfl⟩
    | false =>
      obtain ⟨_, a2⟩ := first0 (ne0 g1)
      obtain ⟨a2, _⟩ := first0 a2
      exact absurd (errIf0 (by decide) a2) (by decide)
  | false =>
    cases g1 : waE 0 room z1 z2 (decide (index ≥ ((0 : Nat) : Int))) != 0 with
    | true => exact ⟨rfl, rfl, rfl, rfl⟩
    | false =>
      obtain ⟨_, a2⟩ := first0 (ne0 g1)
      obtain ⟨a2, _⟩ := first0 a2
      have := errIf0 (by decide) a2
      simp only [decide_eq_false_iff_not] at this g0
      omega
theorem wa_nil (room index : Int) (z1 z2 : Nat → Int) : CallAt Tryz.prog 44 [.agg [ci room, nilC], int index] (hpT [] [] []) (waV 0 room index z1 z2) (hpT [] [] []) :=
  call_tree tbT1_ok Tryz.func44 (by kernel_rfl) (false, true) (by kernel_rfl) (waN_eq room index z1 z2) (waN_all room index z1 z2)
def waF : FT
  | [room, index], [], [], [⟨_, n, [.int .i64 z1, .int .i64 z2]⟩] => .need (Nat.ble n 17) (.leaf (waV n room index z1 z2, []))
  | _, _, _, _ => .fail 385
def waSp : Spec := fun args h => specT [tkS, (false, [.i])] [] waF args h
theorem wa_ok : SpecOk Tryz.prog 44 waSp := by
  refine specT_ok rfl (by decide) fun l m n ts v news hl hm hn ht hnil hF => ?_
  unfold waF at hF
  split at hF
  · rename_i room index id n z1 z2
    obtain ⟨hok, hF⟩ := Tree.need_some hF
    have hok := Nat.le_of_ble_eq_true hok
    simp only [Tree.run, Option.some.injEq, Prod.mk.injEq] at hF
    obtain ⟨rfl, rfl⟩ := hF
    cases id with
    | none =>
      have h0 : n = 0 := hnil _ (List.mem_singleton.2 rfl) rfl
      subst h0
      exact wa_nil room index z1 z2
    | some id => exact wa_call n room index z1 z2 hok
  · cases hF
end
end Go.Ev
