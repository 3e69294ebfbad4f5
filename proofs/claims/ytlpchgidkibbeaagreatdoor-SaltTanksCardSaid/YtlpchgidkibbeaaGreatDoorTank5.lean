/- Tanks: the entries of both functions that cool a tank. Conditions: few layers. -/
import Derived.Test.YtlpchgidkibbeaaGreatDoorTank4
namespace Go.Ev
open Go Go.Proofs
set_option maxRecDepth 100000

def clSh : List (Bool × List CK) := [tkS, (false, [.i]), (false, [.i])]
def coolG (g : (Nat → Int) → (Nat → Int) → Nat → T3) (n : Nat) (z1 z2 : Nat → Int) (num den : Int) : T3 := g z1 (coolH z2 num den) n
def cpFG (g : (Nat → Int) → (Nat → Int) → Nat → T3) : FT
  | [room, num, den], [], [], [⟨_, n, [.int .i64 z1, .int .i64 z2]⟩] => .need (Nat.ble n 17) (.node (cpE n room num den z1 z2 != 0) (.leaf (.tup [(true, [ci 0, nilC]), (false, [ci 0]), (false, [ci (cpE n room num den z1 z2)])], []))
      (.leaf (.tup [tkVal room (coolG g n z1 z2 num den) n, (false, [ci (sumA (coolN z2 num den) n)]), (false, [ci 0])], tkMem 81 152 room (coolG g n z1 z2 num den) n)))
  | _, _, _, _ => .fail 383
def clFG (g : (Nat → Int) → (Nat → Int) → Nat → T3) : FT
  | [room, num, den], [], [], [⟨_, n, [.int .i64 z1, .int .i64 z2]⟩] => .need (Nat.ble n 100000) (.need (!(den == 0)) (.leaf (.tup [tkVal room (coolG g n z1 z2 num den) n, (false, [ci (sumA (coolN z2 num den) n)])], tkMem 76 98 room (coolG g n z1 z2 num den) n)))
  | _, _, _, _ => .fail 384
def cpSpG (g : (Nat → Int) → (Nat → Int) → Nat → T3) : Spec := fun args h => specT clSh [] (cpFG g) args h
def clSpG (g : (Nat → Int) → (Nat → Int) → Nat → T3) : Spec := fun args h => specT clSh [] (clFG g) args h
theorem cp_nil (room num den : Int) (z1 z2 : Nat → Int) : CallAt Tryz.prog 46 [.agg [ci room, nilC], int num, int den] (hpT [] [] []) (cpV2 0 room num den z1 z2) (hpT [] [] (cpW2 0 room num den z1 z2)) := by
  refine call_sk tbT2_ok Tryz.func46 (by kernel_rfl) (false, true) (by kernel_rfl) (S := .node (cpE 0 room num den z1 z2 != 0) (.leaf (.inl (true, .tup [(true, [ci 0, nilC]), (false, [ci 0]), (false, [ci (cpE 0 room num den z1 z2)])], hpT [] [] []))) (.ff (.tt (.leaf (.inl (true, .tup [(true, [ci room, nilC]), (false, [ci 0]), (false, [ci 0])], hpT [] [] [])))))) (by kernel_rfl) (by kernel_rfl) (SkLeads.all ?_)
  unfold cpV2 cpW2
  refine sk_either (fun h => ?_) fun h => ?_
  · rw [h]; exact sk_leaf rfl
  · rw [h]; exact sk_ff (sk_tt (sk_leaf rfl))
theorem coolP_ok : SpecOk Tryz.prog 46 (cpSpG togS) := by
  refine specT_ok rfl (by decide) fun l m n ts v news hl hm hn ht hnil hF => ?_
  unfold cpFG at hF
  split at hF
  · rename_i room num den id n z1 z2
    obtain ⟨hok, hF⟩ := Tree.need_some hF
    have hok := Nat.le_of_ble_eq_true hok
    have hv : v = cpV2 n room num den z1 z2 ∧ news = cpW2 n room num den z1 z2 := by
      unfold cpV2 cpW2
      cases h : cpE n room num den z1 z2 != 0 with
      | true =>
        rw [h] at hF
        simp only [Tree.run, Option.some.injEq, Prod.mk.injEq] at hF
        obtain ⟨rfl, rfl⟩ := hF
        exact ⟨rfl, rfl⟩
      | false =>
        rw [h] at hF
        simp only [Tree.run, Option.some.injEq, Prod.mk.injEq] at hF
        obtain ⟨rfl, rfl⟩ := hF
        exact ⟨rfl, rfl⟩
    obtain ⟨rfl, rfl⟩ := hv
    cases id with
    | none =>
      have h0 : n = 0 := hnil _ (List.mem_singleton.2 rfl) rfl
      subst h0
      exact cp_nil room num den z1 z2
    | some id => exact cp_call2 n hok room num den z1 z2
  · cases hF
theorem cl_nil (room num den : Int) (z1 z2 : Nat → Int) : CallAt Tryz.prog 54 [.agg [ci room, nilC], int num, int den] (hpT [] [] []) (clV 0 room num den z1 z2) (hpT [] [] (clW 0 room num den z1 z2)) :=
  call_sk tbT2_ok Tryz.func54 (by kernel_rfl) (false, true) (by kernel_rfl) (S := .ff (.tt (.leaf (.inl (true, .tup [(true, [ci room, nilC]), (false, [ci 0])], hpT [] [] []))))) (by kernel_rfl) (by kernel_rfl) (SkLeads.all (sk_ff (sk_tt (sk_leaf rfl))))
theorem coolQ_ok : SpecOk Tryz.prog 54 (clSpG togS) := by
  refine specT_ok rfl (by decide) fun l m n ts v news hl hm hn ht hnil hF => ?_
  unfold clFG at hF
  split at hF
  · rename_i room num den id n z1 z2
    obtain ⟨hok, hF⟩ := Tree.need_some hF
    have hok := Nat.le_of_ble_eq_true hok
    obtain ⟨hd, hF⟩ := Tree.need_some hF
    simp only [Tree.run, Option.some.injEq, Prod.mk.injEq] at hF
    obtain ⟨rfl, rfl⟩ := hF
    cases id with
    | none =>
      have h0 : n = 0 := hnil _ (List.mem_singleton.2 rfl) rfl
      subst h0
      exact cl_nil room num den z1 z2
    | some id => exact cl_call n room num den z1 z2 hok hd
  · cases hF
def tbG3 (g : (Nat → Int) → (Nat → Int) → Nat → T3) : List (FuncId × Spec) := (46, cpSpG g) :: (54, clSpG g) :: tbG g
theorem tbG3_ok : TabOk Tryz.prog (tabOf (tbG3 togS)) := tab_cons (tab_cons tbT2_ok coolQ_ok) coolP_ok
end Go.Ev
