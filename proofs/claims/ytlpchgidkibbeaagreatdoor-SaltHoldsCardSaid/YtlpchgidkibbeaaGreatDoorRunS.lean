/- Run of the program as an entry. Conditions: the list is short. -/
import Derived.Test.YtlpchgidkibbeaaGreatDoorRun
import Derived.Test.YtlpchgidkibbeaaGreatDoorSk1
namespace Go.Ev
open Go Go.Proofs
set_option maxRecDepth 100000

noncomputable def srNil (s : ByteArray) (heat r0 r1 r2 r3 r4 r5 : Int) : Tree ((Bool × A × Hp) ⊕ (List Bool × St)) := preA Tryz.prog (tabOf tb_cp) Tryz.f63 [.agg (rulesC r0 r1 r2 r3 r4 r5), .agg [cs s, ci heat], nilA] hpK (false, true)
def srNilS (s : ByteArray) (heat r0 r1 r2 r3 r4 r5 : Int) : Sk ((Bool × A × Hp) ⊕ (List Bool × St)) :=
  .tt (.node (firstZ [rulesErr r0 r1 r2 r3 r4 r5, recvErr s heat, errIf (decide (((0 : Nat) : Int) > 256)) 5, 0] != 0) (.leaf (.inl (true, runA emptyB 0 0 0 0 (firstZ [rulesErr r0 r1 r2 r3 r4 r5, recvErr s heat, errIf (decide (((0 : Nat) : Int) > 256)) 5, 0]), hpK))) (.ff (.leaf (.inl (true, runA s heat 0 0 0 0, hpK)))))
theorem sr_nil_into (s : ByteArray) (heat r0 r1 r2 r3 r4 r5 : Int) : srNil s heat r0 r1 r2 r3 r4 r5 = into (srNil s heat r0 r1 r2 r3 r4 r5) (srNilS s heat r0 r1 r2 r3 r4 r5) := by kernel_rfl
theorem sr_nil_fits (s : ByteArray) (heat r0 r1 r2 r3 r4 r5 : Int) : fits (srNil s heat r0 r1 r2 r3 r4 r5) (srNilS s heat r0 r1 r2 r3 r4 r5) = true := by kernel_rfl
theorem sr_nil (s : ByteArray) (heat r0 r1 r2 r3 r4 r5 : Int) (z0 : Nat → ByteArray) (z1 z2 : Nat → Int) : CallAt Tryz.prog 63 [.agg (rulesC r0 r1 r2 r3 r4 r5), .agg [cs s, ci heat], nilA] hpK (runV (srunE 0 z0 z1 z2 r0 r1 r2 r3 r4 r5 s heat) (srGo z0 z1 z2 r0 r1 r2 r3 r4 r5 0 0 s heat 0 0)) hpK := by
  refine call_sk tb_cp_ok Tryz.func63 (by kernel_rfl) (false, true) (by kernel_rfl) (sr_nil_into s heat r0 r1 r2 r3 r4 r5) (sr_nil_fits s heat r0 r1 r2 r3 r4 r5) ?_
  unfold srNilS runV rvS
  rw [show srunE 0 z0 z1 z2 r0 r1 r2 r3 r4 r5 s heat = firstZ [rulesErr r0 r1 r2 r3 r4 r5, recvErr s heat, errIf (decide (((0 : Nat) : Int) > 256)) 5, 0] from rfl]
  cases firstZ [rulesErr r0 r1 r2 r3 r4 r5, recvErr s heat, errIf (decide (((0 : Nat) : Int) > 256)) 5, 0] != 0 <;> rfl
noncomputable def srF : FT
  | [r0, r1, r2, r3, r4, r5, heat], [], [s], [⟨_, n, [.str z0, .int .i64 z1, .int .i64 z2]⟩] => .need (Nat.ble n 1000000) (.leaf (runV (srunE n z0 z1 z2 r0 r1 r2 r3 r4 r5 s heat) (srGo z0 z1 z2 r0 r1 r2 r3 r4 r5 n 0 s heat 0 0), []))
  | _, _, _, _ => .fail 363
def runShp : Shp := [(true, i6), (true, [.s, .i]), (false, [.t stepD])]
noncomputable def srSp : Spec := fun args h => specT runShp glA srF args h
theorem sr_ok : SpecOk Tryz.prog 63 srSp := by
  refine specT_ok glA_noId (by decide) fun l m n ts v news hl hm hn ht hnil hF => ?_
  unfold srF at hF
  split at hF
  · rename_i r0 r1 r2 r3 r4 r5 heat s id n z0 z1 z2
    obtain ⟨hok, hF⟩ := Tree.need_some hF
    have hok := Nat.le_of_ble_eq_true hok
    simp only [Tree.run, Option.some.injEq, Prod.mk.injEq] at hF
    obtain ⟨rfl, rfl⟩ := hF
    cases id with
    | none =>
      have h0 : n = 0 := hnil _ (List.mem_singleton.2 rfl) rfl
      subst h0
      exact sr_nil s heat r0 r1 r2 r3 r4 r5 z0 z1 z2
    | some id => exact sr_call n z0 z1 z2 r0 r1 r2 r3 r4 r5 s heat hok
  · cases hF
end Go.Ev
