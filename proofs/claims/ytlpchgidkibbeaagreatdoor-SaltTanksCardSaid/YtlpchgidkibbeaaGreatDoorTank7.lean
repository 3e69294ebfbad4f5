/- Tanks: the entries of the law, where the tank's error is known. Conditions: few layers. -/
import Derived.Test.YtlpchgidkibbeaaGreatDoorTank6
import Derived.Test.YtlpchgidkibbeaaGreatDoorWarm
namespace Go.Ev
open Go Go.Proofs
set_option maxRecDepth 100000

/-! ### SameTank as an entry -/
section
variable (room room' : Int) (a h a' h' : Nat → Int)
theorem sm_ns (m : Nat) : CallAt Tryz.prog 73 [.agg [ci room, nilC], .agg [ci room', slC false 0 2 m]] (hpT [⟨some 0, m, tkC a' h'⟩] [] []) (boo (sameT 0 m room room' a h a' h')) (hpT [⟨some 0, m, tkC a' h'⟩] [] []) := by
  refine call_sk noTab_ok Tryz.func73 (by kernel_rfl) (false, true) (by kernel_rfl) (S := .node (room != room') (.tt (.leaf (.inl (true, boo false, hpT [⟨some 0, m, tkC a' h'⟩] [] [])))) (.node (((0 : Nat) : Int) != (m : Int)) (.leaf (.inl (true, boo false, hpT [⟨some 0, m, tkC a' h'⟩] [] []))) (.ff (.leaf (.inl (true, boo true, hpT [⟨some 0, m, tkC a' h'⟩] [] [])))))) (by kernel_rfl) (by kernel_rfl) (SkLeads.all ?_)
  unfold sameT
  refine sk_either (fun g1 => ?_) fun g1 => sk_either (fun g2 => ?_) fun g2 => ?_
  · rw [g1]; exact sk_tt (sk_leaf rfl)
  · rw [g1]; simp only; rw [g2]; exact sk_leaf rfl
  · rw [g1]; simp only; rw [g2]; exact sk_ff (sk_leaf rfl)
theorem sm_sn (n : Nat) : CallAt Tryz.prog 73 [.agg [ci room, slC false 0 2 n], .agg [ci room', nilC]] (hpT [⟨some 0, n, tkC a h⟩] [] []) (boo (sameT n 0 room room' a h a' h')) (hpT [⟨some 0, n, tkC a h⟩] [] []) := by
  cases n with
  | zero =>
    refine call_sk noTab_ok Tryz.func73 (by kernel_rfl) (false, true) (by kernel_rfl) (S := .node (room != room') (.tt (.leaf (.inl (true, boo false, hpT [⟨some 0, 0, tkC a h⟩] [] [])))) (.ff (.ff (.leaf (.inl (true, boo true, hpT [⟨some 0, 0, tkC a h⟩] [] [])))))) (by kernel_rfl) (by kernel_rfl) (SkLeads.all ?_)
    unfold sameT
    refine sk_either (fun g1 => ?_) fun g1 => ?_
    · rw [g1]; exact sk_tt (sk_leaf rfl)
    · rw [g1]; exact sk_ff (sk_ff (sk_leaf rfl))
  | succ k =>
    refine call_sk noTab_ok Tryz.func73 (by kernel_rfl) (false, true) (by kernel_rfl) (S := .node (room != room') (.tt (.leaf (.inl (true, boo false, hpT [⟨some 0, k + 1, tkC a h⟩] [] [])))) (.tt (.leaf (.inl (true, boo false, hpT [⟨some 0, k + 1, tkC a h⟩] [] []))))) (by kernel_rfl) (by kernel_rfl) (SkLeads.all ?_)
    unfold sameT
    refine sk_either (fun g1 => ?_) fun g1 => ?_
    · rw [g1]; exact sk_tt (sk_leaf rfl)
    · rw [g1]; exact sk_tt (sk_leaf rfl)
theorem sm_nn : CallAt Tryz.prog 73 [.agg [ci room, nilC], .agg [ci room', nilC]] (hpT [] [] []) (boo (sameT 0 0 room room' a h a' h')) (hpT [] [] []) := by
  refine call_sk noTab_ok Tryz.func73 (by kernel_rfl) (false, true) (by kernel_rfl) (S := .node (room != room') (.tt (.leaf (.inl (true, boo false, hpT [] [] [])))) (.ff (.ff (.leaf (.inl (true, boo true, hpT [] [] [])))))) (by kernel_rfl) (by kernel_rfl) (SkLeads.all ?_)
  unfold sameT
  refine sk_either (fun g1 => ?_) fun g1 => ?_
  · rw [g1]; exact sk_tt (sk_leaf rfl)
  · rw [g1]; exact sk_ff (sk_ff (sk_leaf rfl))
end
def smF : FT
  | [room, room'], [], [], [⟨_, n, [.int .i64 a, .int .i64 h]⟩, ⟨_, m, [.int .i64 a', .int .i64 h']⟩] => .need (Nat.ble n 1000000) (.leaf (boo (sameT n m room room' a h a' h'), []))
  | _, _, _, _ => .fail 386
def smSp : Spec := fun args h => specT [tkS, tkS] [] smF args h
theorem sm_ok : SpecOk Tryz.prog 73 smSp := by
  refine specT_ok rfl (by decide) fun l m n ts v news hl hm hn ht hnil hF => ?_
  unfold smF at hF
  split at hF
  · rename_i room room' i n a h j m a' h'
    obtain ⟨hok, hF⟩ := Tree.need_some hF
    have hok := Nat.le_of_ble_eq_true hok
    simp only [Tree.run, Option.some.injEq, Prod.mk.injEq] at hF
    obtain ⟨rfl, rfl⟩ := hF
    cases i with
    | none =>
      have h0 : n = 0 := hnil _ List.mem_cons_self rfl
      subst h0
      cases j with
      | none =>
        have h0 : m = 0 := hnil _ (List.mem_cons_of_mem _ List.mem_cons_self) rfl
        subst h0
        exact sm_nn room room' a h a' h'
      | some j => exact sm_ns room room' a h a' h' m
    | some i =>
      cases j with
      | none =>
        have h0 : m = 0 := hnil _ (List.mem_cons_of_mem _ List.mem_cons_self) rfl
        subst h0
        exact sm_sn room room' a h a' h' n
      | some j => exact sm_call n m room room' a h a' h' hok
  · cases hF

/-! ### Entries that say less -/
theorem specT_sub {P : Program} {f : FuncId} {sh : Shp} {gl : List (Nat × List C)} {F F' : FT} (h : SpecOk P f fun args h => specT sh gl F args h) (hF : ∀ l m n ts r, (F' l m n ts).run = some r → (F l m n ts).run = some r) : SpecOk P f fun args h => specT sh gl F' args h := by
  intro args hp v h' hr
  refine h args hp v h' ?_
  simp only at hr ⊢
  unfold specT at hr ⊢
  split at hr
  · rename_i d gids hd hgi
    obtain ⟨hok, hr⟩ := Tree.need_some hr
    obtain ⟨r, hF', hr⟩ := Tree.bind_some hr
    simp only [Tree.run, hok, Tree.run_bind, hF _ _ _ _ _ hF', Option.bind_some]
    exact hr
  · cases hr
section
variable (e : Int)
def ctFE : FT
  | [room], [], [], [⟨_, n, [.int .i64 z1, .int .i64 z2]⟩] => .need (Nat.ble n 17) (.need (tankE n room z1 z2 == e) (.leaf (int e, [])))
  | _, _, _, _ => .fail 387
def waEe (e : Int) (b : Bool) : Int := firstZ [e, errIf b 10]
def waVe (e : Int) (n : Nat) (index : Int) (z1 z2 : Nat → Int) : A := match decide (index < 0) with
  | true => waU (z1 (0 + index.toNat)) (z2 (0 + index.toNat)) (waEe e true)
  | false => waU (z1 (0 + index.toNat)) (z2 (0 + index.toNat)) (waEe e (decide (index ≥ (n : Int))))
def waUT (a h e : Int) : Tree (A × List Blk) := .node (e != 0) (.leaf (.tup [(true, [ci 0, ci 0]), (false, [ci e])], [])) (.leaf (.tup [(true, [ci (w64 (h.tdiv (gcd1 h a))), ci (w64 (a.tdiv (gcd1 h a)))]), (false, [ci 0])], []))
theorem waUT_run (a h e : Int) : (waUT a h e).run = some (waU a h e, []) := by
  unfold waUT waU
  cases e != 0 <;> rfl
def waFE : FT
  | [room, index], [], [], [⟨_, n, [.int .i64 z1, .int .i64 z2]⟩] => .need (Nat.ble n 17) (.need (tankE n room z1 z2 == e) (match e != 0 with | true => .leaf (.tup [(true, [ci 0, ci 0]), (false, [ci e])], []) | false => .node (decide (index < 0)) (waUT (z1 (0 + index.toNat)) (z2 (0 + index.toNat)) (waEe e true)) (waUT (z1 (0 + index.toNat)) (z2 (0 + index.toNat)) (waEe e (decide (index ≥ (n : Int)))))))
  | _, _, _, _ => .fail 387
def cpEe (num den : Int) : Int := firstZ [e, wW den 1 1000, wW num 0 den]
def cpFE (g : (Nat → Int) → (Nat → Int) → Nat → T3) : FT
  | [room, num, den], [], [], [⟨_, n, [.int .i64 z1, .int .i64 z2]⟩] => .need (Nat.ble n 17) (.need (tankE n room z1 z2 == e) (.node (cpEe e num den != 0) (.leaf (.tup [(true, [ci 0, nilC]), (false, [ci 0]), (false, [ci (cpEe e num den)])], []))
      (.leaf (.tup [tkVal room (coolG g n z1 z2 num den) n, (false, [ci (sumA (coolN z2 num den) n)]), (false, [ci 0])], tkMem 81 152 room (coolG g n z1 z2 num den) n))))
  | _, _, _, _ => .fail 387
end
theorem run_need {α : Type} {b : Bool} {t : Tree α} (h : b = true) : (Tree.need b t).run = t.run := by subst h; rfl
theorem ctE_ok (e : Int) : SpecOk Tryz.prog 55 fun args h => specT [tkS] [] (ctFE e) args h := specT_sub (F := ctF) ct_ok fun l m n ts r hr => by
  unfold ctFE at hr
  split at hr
  · obtain ⟨h1, hr⟩ := Tree.need_some hr
    obtain ⟨h2, hr⟩ := Tree.need_some hr
    obtain rfl := eq_of_beq h2
    unfold ctF
    rw [run_need h1]
    exact hr
  · cases hr
theorem qcE_ok (e : Int) : SpecOk Tryz.prog 47 fun args h => specT [tkS] [] (ctFE e) args h := specT_sub (F := qcF) qc_ok fun l m n ts r hr => by
  unfold ctFE at hr
  split at hr
  · obtain ⟨h1, hr⟩ := Tree.need_some hr
    obtain ⟨h2, hr⟩ := Tree.need_some hr
    obtain rfl := eq_of_beq h2
    unfold qcF
    rw [run_need h1]
    exact hr
  · cases hr
theorem waE_ok (e : Int) : SpecOk Tryz.prog 44 fun args h => specT [tkS, (false, [.i])] [] (waFE e) args h := specT_sub (F := waF) wa_ok fun l m n ts r hr => by
  unfold waFE at hr
  split at hr
  · rename_i room index id n z1 z2
    obtain ⟨h1, hr⟩ := Tree.need_some hr
    obtain ⟨h2, hr⟩ := Tree.need_some hr
    obtain rfl := eq_of_beq h2
    unfold waF
    rw [run_need h1]
    rw [← hr]
    unfold waV
    cases he : tankE n room z1 z2 != 0 with
    | true =>
      have hx : ∀ b a h, waU a h (waE n room z1 z2 b) = .tup [(true, [ci 0, ci 0]), (false, [ci (tankE n room z1 z2)])] := fun b a h => by
        have e1 : waE n room z1 z2 b = tankE n room z1 z2 := by unfold waE firstZ; rw [he]
        unfold waU
        rw [e1, he]
      cases decide (index < 0) <;> simp only [hx]
    | false =>
      cases hd : decide (index < 0) with
      | true => exact (waUT_run _ _ _).symm
      | false => exact (waUT_run _ _ _).symm
  · cases hr
theorem cpE_ok (e : Int) : SpecOk Tryz.prog 46 fun args h => specT clSh [] (cpFE e togS) args h := specT_sub (F := cpFG togS) coolP_ok fun l m n ts r hr => by
  unfold cpFE at hr
  split at hr
  · obtain ⟨h1, hr⟩ := Tree.need_some hr
    obtain ⟨h2, hr⟩ := Tree.need_some hr
    obtain rfl := eq_of_beq h2
    unfold cpFG
    rw [run_need h1]
    exact hr
  · cases hr
def tbE (e : Int) (g : (Nat → Int) → (Nat → Int) → Nat → T3) : List (FuncId × Spec) := (13, specAwake) :: (55, fun args h => specT [tkS] [] (ctFE e) args h) :: (47, fun args h => specT [tkS] [] (ctFE e) args h) :: (44, fun args h => specT [tkS, (false, [.i])] [] (waFE e) args h) ::
  (46, fun args h => specT clSh [] (cpFE e g) args h) :: (109, specDivisor) :: (73, smSp) :: tbG3 g
theorem tbE_ok (e : Int) : TabOk Tryz.prog (tabOf (tbE e togS)) := tab_cons (tab_cons (tab_cons (tab_cons (tab_cons (tab_cons (tab_cons tbG3_ok sm_ok) specDivisor_ok) (cpE_ok e)) (waE_ok e)) (qcE_ok e)) (ctE_ok e)) specAwake_ok
end Go.Ev
