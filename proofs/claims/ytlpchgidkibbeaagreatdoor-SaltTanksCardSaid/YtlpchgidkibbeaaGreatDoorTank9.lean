/- Tanks: mixed tanks, and a tank that is compared with what is expected. Conditions: few layers. -/
import Derived.Test.YtlpchgidkibbeaaGreatDoorTank8
namespace Go.Ev
open Go Go.Proofs
set_option maxRecDepth 100000

/-! ### both Mixed -/
noncomputable def mxRe (g : (Nat → Int) → (Nat → Int) → Nat → T3) : Code → St → Tree (X × St) := recT Tryz.prog (tabOf (tbE 0 g))
section
variable (g : (Nat → Int) → (Nat → Int) → Nat → T3) (n : Nat) (room : Int) (z1 z2 : Nat → Int)
def mpB : St := { baseB 24 [tankA room n] (tankH n z1 z2) with keep := true }
def mqB : St := { baseB 18 [tankA room n] (tankH n z1 z2) with keep := true }
noncomputable def mpT : Tree (X × St) := (mxRe g (bodyOf Tryz.f45) (mpB n room z1 z2)).bind (canonT [] [2, 3] (mpB n room z1 z2))
noncomputable def mqT : Tree (X × St) := (mxRe g (bodyOf Tryz.f52) (mqB n room z1 z2)).bind (canonT [] [2, 3] (mqB n room z1 z2))
def mxW (e l : TypeId) (room : Int) (z1 z2 : Nat → Int) : Nat → List Blk
  | 0 => []
  | k + 1 => [tbox e room (slC true 2 2 1), ⟨false, l, .flat [ci (sumA z1 (k + 1)), ci (sumA z2 (k + 1))]⟩]
def mxV (room : Int) : Nat → A
  | 0 => .tup [(true, [ci 0, nilC]), (false, [ci 12])]
  | _ + 1 => .tup [(true, [ci room, slC true 2 2 1]), (false, [ci 0])]
def mxR (size : Nat) (e l : TypeId) : St := stN size (envL [(2, .one (.ptr 1 0 1 0)), (3, int 0)]) (bsS [⟨some 0, n + 1, tkC z1 z2⟩] []) [] (mxW e l room z1 z2 (n + 1)) true
def mpS : Sk (X × St) := .need (okN (n + 1)) (.need (Nat.ble (n + 1) 17) (.need (tankE (n + 1) room z1 z2 == 0) (.ff (.need (okN (n + 1)) (.need (Nat.ble (n + 1) 17) (.leaf (.ret, mxR n room z1 z2 24 81 152)))))))
def mqS : Sk (X × St) := .ff (.need (okN (n + 1)) (.need (Nat.ble (n + 1) 1000000) (.need (okN (n + 1)) (.need (Nat.ble (n + 1) 1000000) (.leaf (.ret, mxR n room z1 z2 18 76 98))))))
theorem mp_into : mpT g (n + 1) room z1 z2 = into (mpT g (n + 1) room z1 z2) (mpS n room z1 z2) := by kernel_rfl
theorem mp_fits : fits (mpT g (n + 1) room z1 z2) (mpS n room z1 z2) = true := by kernel_rfl
theorem mq_into : mqT g (n + 1) room z1 z2 = into (mqT g (n + 1) room z1 z2) (mqS n room z1 z2) := by kernel_rfl
theorem mq_fits : fits (mqT g (n + 1) room z1 z2) (mqS n room z1 z2) = true := by kernel_rfl
end
section
variable (n : Nat) (room : Int) (z1 z2 : Nat → Int)
theorem mp_call (hn : n ≤ 17) (h0 : tankE n room z1 z2 = 0) : CallAt Tryz.prog 45 [tankA room n] (tankH n z1 z2) (mxV room n) (hpT [⟨some 0, n, tkC z1 z2⟩] [] (mxW 81 152 room z1 z2 n)) := by
  cases n with
  | zero => exact call_sk (tbE_ok 0) Tryz.func45 (by kernel_rfl) (false, true) (by kernel_rfl) (S := .nn (.nn (.need (tankE 0 room z1 z2 == 0) (.tt (.leaf (.inl (true, mxV room 0, hpT [⟨some 0, 0, tkC z1 z2⟩] [] []))))))) (by kernel_rfl) (by kernel_rfl) (SkLeads.all (sk_nn (sk_nn (sk_need (by rw [h0]; rfl) (sk_tt (sk_leaf rfl))))))
  | succ k =>
    refine call_whole (rec := mxRe togS) (recT_ok (tbE_ok 0)) Tryz.func45 (by kernel_rfl) (by kernel_rfl) (false, true) [2, 3] (sB := mpB (k + 1) room z1 z2) (by kernel_rfl) (T := mpT togS (k + 1) room z1 z2) (by delta mpT; rfl) (mp_into togS k room z1 z2) (mp_fits togS k room z1 z2) ?_
    exact sk_need (okN_ok _) (sk_need (ble_lit hn) (sk_need (by rw [h0]; rfl) (sk_ff (sk_need (okN_ok _) (sk_need (ble_lit hn) (sk_leaf (left_of (b := false) (by kernel_rfl))))))))
theorem mq_call (hn : n ≤ 17) : CallAt Tryz.prog 52 [tankA room n] (tankH n z1 z2) (mxV room n) (hpT [⟨some 0, n, tkC z1 z2⟩] [] (mxW 76 98 room z1 z2 n)) := by
  cases n with
  | zero => exact call_sk (tbE_ok 0) Tryz.func52 (by kernel_rfl) (false, true) (by kernel_rfl) (S := .tt (.leaf (.inl (true, mxV room 0, hpT [⟨some 0, 0, tkC z1 z2⟩] [] [])))) (by kernel_rfl) (by kernel_rfl) (SkLeads.all (sk_tt (sk_leaf rfl)))
  | succ k =>
    refine call_whole (rec := mxRe togS) (recT_ok (tbE_ok 0)) Tryz.func52 (by kernel_rfl) (by kernel_rfl) (false, true) [2, 3] (sB := mqB (k + 1) room z1 z2) (by kernel_rfl) (T := mqT togS (k + 1) room z1 z2) (by delta mqT; rfl) (mq_into togS k room z1 z2) (mq_fits togS k room z1 z2) ?_
    exact sk_ff (sk_need (okN_ok _) (sk_need (ble_lit (by omega)) (sk_need (okN_ok _) (sk_need (ble_lit (by omega)) (sk_leaf (left_of (b := false) (by kernel_rfl)))))))
theorem mp_nil (h0 : tankE 0 room z1 z2 = 0) : CallAt Tryz.prog 45 [.agg [ci room, nilC]] (hpT [] [] []) (mxV room 0) (hpT [] [] []) :=
  call_sk (tbE_ok 0) Tryz.func45 (by kernel_rfl) (false, true) (by kernel_rfl) (S := .nn (.nn (.need (tankE 0 room z1 z2 == 0) (.tt (.leaf (.inl (true, mxV room 0, hpT [] [] []))))))) (by kernel_rfl) (by kernel_rfl) (SkLeads.all (sk_nn (sk_nn (sk_need (by rw [h0]; rfl) (sk_tt (sk_leaf rfl))))))
theorem mq_nil : CallAt Tryz.prog 52 [.agg [ci room, nilC]] (hpT [] [] []) (mxV room 0) (hpT [] [] []) :=
  call_sk (tbE_ok 0) Tryz.func52 (by kernel_rfl) (false, true) (by kernel_rfl) (S := .tt (.leaf (.inl (true, mxV room 0, hpT [] [] [])))) (by kernel_rfl) (by kernel_rfl) (SkLeads.all (sk_tt (sk_leaf rfl)))
end
def mxF (b : Bool) (e l : TypeId) : FT
  | [room], [], [], [⟨_, n, [.int .i64 z1, .int .i64 z2]⟩] => .need (Nat.ble n 17) (.need (b || tankE n room z1 z2 == 0) (.leaf (mxV room n, mxW e l room z1 z2 n)))
  | _, _, _, _ => .fail 389
theorem mpE_ok : SpecOk Tryz.prog 45 fun args h => specT [tkS] [] (mxF false 81 152) args h := by
  refine specT_ok rfl (by decide) fun l m n ts v news hl hm hn ht hnil hF => ?_
  unfold mxF at hF
  split at hF
  · rename_i room id n z1 z2
    obtain ⟨hok, hF⟩ := Tree.need_some hF
    obtain ⟨h0, hF⟩ := Tree.need_some hF
    have hok := Nat.le_of_ble_eq_true hok
    have h0 : tankE n room z1 z2 = 0 := eq_of_beq (by simpa using h0)
    simp only [Tree.run, Option.some.injEq, Prod.mk.injEq] at hF
    obtain ⟨rfl, rfl⟩ := hF
    cases id with
    | none =>
      have h00 : n = 0 := hnil _ (List.mem_singleton.2 rfl) rfl
      subst h00
      exact mp_nil room z1 z2 h0
    | some id => exact mp_call n room z1 z2 hok h0
  · cases hF
theorem mqE_ok : SpecOk Tryz.prog 52 fun args h => specT [tkS] [] (mxF true 76 98) args h := by
  refine specT_ok rfl (by decide) fun l m n ts v news hl hm hn ht hnil hF => ?_
  unfold mxF at hF
  split at hF
  · rename_i room id n z1 z2
    obtain ⟨hok, hF⟩ := Tree.need_some hF
    obtain ⟨h0, hF⟩ := Tree.need_some hF
    have hok := Nat.le_of_ble_eq_true hok
    simp only [Tree.run, Option.some.injEq, Prod.mk.injEq] at hF
    obtain ⟨rfl, rfl⟩ := hF
    cases id with
    | none =>
      have h00 : n = 0 := hnil _ (List.mem_singleton.2 rfl) rfl
      subst h00
      exact mq_nil room
    | some id => exact mq_call n room z1 z2 hok
  · cases hF
end Go.Ev
