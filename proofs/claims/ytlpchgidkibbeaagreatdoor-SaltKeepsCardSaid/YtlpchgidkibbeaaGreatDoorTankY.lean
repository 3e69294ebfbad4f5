/- Tanks: two tanks that are compared. Conditions: few layers. Tanks: the entries of the law, where the tank's error is known. Conditions: few layers. Tanks: the entries of the law, where the tank has no error and it is known what else is wrong. Conditions: few layers. Tanks: mixed tanks, and a tank that is compared with what is expected. Conditions: few layers. Tanks: a tank and an error that are compared with what is expected; the tables of the law. Conditions: few layers. -/
import Derived.Test.YtlpchgidkibbeaaGreatDoorTankX
import Derived.Test.YtlpchgidkibbeaaGreatDoorWrm
import Derived.Test.YtlpchgidkibbeaaGreatDoorIsT
namespace Go.Ev
open Go Go.Proofs
set_option maxRecDepth 100000
section
variable (e : Int)
def waEe (e : Int) (b : Bool) : Int := firstZ [e, errIf b 10]
def waVe (e : Int) (n : Nat) (index : Int) (z1 z2 : Nat → Int) : A := match decide (index < 0) with
 | true => waU (z1 (0 + index.toNat)) (z2 (0 + index.toNat)) (waEe e true)
 | false => waU (z1 (0 + index.toNat)) (z2 (0 + index.toNat)) (waEe e (decide (index ≥ (n : Int))))
def waUT (a h e : Int) : Tree (A × List Blk) := .node (e != 0) (.leaf (.tup [(true, [ci 0, ci 0]), (false, [ci e])], [])) (.leaf (.tup [(true, [ci (w64 (h.tdiv (gcd1 h a))), ci (w64 (a.tdiv (gcd1 h a)))]), (false, [ci 0])], []))
theorem waUT_run (a h e : Int) : (waUT a h e).run = some (waU a h e, []) := by
 unfold waUT waU
 cases e != 0 <;> rfl
def waFE : FT
 | [room, index], [], [], [⟨_, n, [.int .i64 z1, .int .i64 z2]⟩] => .need (Nat.ble n 17) (.need (tankE n room z1 z2 == e) (match e != 0 with | true => .leaf (.tup [(true, [ci 0, ci 0]), (false, [ci e])], []) | false => .node (decide (index < 0)) (waUT (z1 (0 + index.toNat)) (z2 (0 + index.toNat)) (waEe e true)) (waUT (z1 (0 + index.toNat)) (z2 (0 + index.toNat)) (waEe e (decide (index ≥ (n : Int)))))))
 | _, _, _, _ => .fail 387
def cpEe (num den : Int) : Int := firstZ [e, wW den 1 1000, wW num 0 den]
def cpFE (g : (Nat → Int) → (Nat → Int) → Nat → T3) : FT
 | [room, num, den], [], [], [⟨_, n, [.int .i64 z1, .int .i64 z2]⟩] => .need (Nat.ble n 17) (.need (tankE n room z1 z2 == e) (.node (cpEe e num den != 0) (.leaf (.tup [(true, [ci 0, nilC]), (false, [ci 0]), (false, [ci (cpEe e num den)])], []))
   (.leaf (.tup [tkVal room (coolG g n z1 z2 num den) n, (false, [ci (sumA (coolN z2 num den) n)]), (false, [ci 0])], tkMem 81 152 room (coolG g n z1 z2 num den) n))))
 | _, _, _, _ => .fail 387
end
theorem waE_ok (e : Int) : SpecOk Tryz.prog 44 fun args h => specT [tkS, (false, [.i])] [] (waFE e) args h := specT_sub (F := waF) wa_ok fun l m n ts r hr => by
 unfold waFE at hr
 split at hr
 ·rename_i room index id n z1 z2
  obtain ⟨h1, hr⟩ := Tree.need_some hr
  obtain ⟨h2, hr⟩ := Tree.need_some hr
  obtain rfl := eq_of_beq h2
  unfold waF
  rw [run_need h1]
  rw [← hr]
  unfold waV
  cases he : tankE n room z1 z2 != 0 with
  | true =>
   have hx : ∀ b a h, waU a h (waE n room z1 z2 b) = .tup [(true, [ci 0, ci 0]), (false, [ci (tankE n room z1 z2)])] := fun b a h => by
    have e1 : waE n room z1 z2 b = tankE n room z1 z2 := by unfold waE firstZ; rw [he]
    unfold waU
    rw [e1, he]
   cases decide (index < 0) <;> simp only [hx]
  | false =>
   cases hd : decide (index < 0) with
   | true => exact (waUT_run _ _ _).symm
   | false => exact (waUT_run _ _ _).symm
 ·cases hr
theorem cpE_ok (e : Int) : SpecOk Tryz.prog 46 fun args h => specT clSh [] (cpFE e togS) args h := specT_sub (F := cpFG togS) coolP_ok fun l m n ts r hr => by
 unfold cpFE at hr
 split at hr
 ·obtain ⟨h1, hr⟩ := Tree.need_some hr
  obtain ⟨h2, hr⟩ := Tree.need_some hr
  obtain rfl := eq_of_beq h2
  unfold cpFG
  rw [run_need h1]
  exact hr
 ·cases hr
def tbE (e : Int) (g : (Nat → Int) → (Nat → Int) → Nat → T3) : List (FuncId × Spec) := (13, specAwake) :: (55, fun args h => specT [tkS] [] (ctFE e) args h) :: (47, fun args h => specT [tkS] [] (ctFE e) args h) :: (44, fun args h => specT [tkS, (false, [.i])] [] (waFE e) args h) ::
 (46, fun args h => specT clSh [] (cpFE e g) args h) :: (109, specDivisor) :: (73, smSp) :: tbG3 g
theorem tbE_ok (e : Int) : TabOk Tryz.prog (tabOf (tbE e togS)) := tab_cons (tab_cons (tab_cons (tab_cons (tab_cons (tab_cons (tab_cons tbG3_ok sm_ok) specDivisor_ok) (cpE_ok e)) (waE_ok e)) (qcE_ok e)) (ctE_ok e)) specAwake_ok
end Go.Ev
namespace Go.Ev
open Go Go.Proofs
set_option maxRecDepth 100000
end Go.Ev
namespace Go.Ev
open Go Go.Proofs
set_option maxRecDepth 100000
noncomputable def mxRe (g : (Nat → Int) → (Nat → Int) → Nat → T3) : Code → St → Tree (X × St) := recT Tryz.prog (tabOf (tbE 0 g))
section
variable (g : (Nat → Int) → (Nat → Int) → Nat → T3) (n : Nat) (room : Int) (z1 z2 : Nat → Int)
def mpB : St := { baseB 24 [tankA room n] (tankH n z1 z2) with keep := true }
noncomputable def mpT : Tree (X × St) := (mxRe g (bodyOf Tryz.f45) (mpB n room z1 z2)).bind (canonT [] [2, 3] (mpB n room z1 z2))
def mxW (e l : TypeId) (room : Int) (z1 z2 : Nat → Int) : Nat → List Blk
 | 0 => []
 | k + 1 => [tbox e room (slC true 2 2 1), ⟨false, l, .flat [ci (sumA z1 (k + 1)), ci (sumA z2 (k + 1))]⟩]
def mxV (room : Int) : Nat → A
 | 0 => .tup [(true, [ci 0, nilC]), (false, [ci 12])]
 | _ + 1 => .tup [(true, [ci room, slC true 2 2 1]), (false, [ci 0])]
def mxR (size : Nat) (e l : TypeId) : St := stN size (envL [(2, .one (.ptr 1 0 1 0)), (3, int 0)]) (bsS [⟨some 0, n + 1, tkC z1 z2⟩] []) [] (mxW e l room z1 z2 (n + 1)) true
def mpS : Sk (X × St) := .need (okN (n + 1)) (.need (Nat.ble (n + 1) 17) (.need (tankE (n + 1) room z1 z2 == 0) (.ff (.need (okN (n + 1)) (.need (Nat.ble (n + 1) 17) (.leaf (.ret, mxR n room z1 z2 24 81 152)))))))
theorem mp_into : mpT g (n + 1) room z1 z2 = into (mpT g (n + 1) room z1 z2) (mpS n room z1 z2) := by kernel_rfl
theorem mp_fits : fits (mpT g (n + 1) room z1 z2) (mpS n room z1 z2) = true := by kernel_rfl
end
section
variable (n : Nat) (room : Int) (z1 z2 : Nat → Int)
theorem mp_call (hn : n ≤ 17) (h0 : tankE n room z1 z2 = 0) : CallAt Tryz.prog 45 [tankA room n] (tankH n z1 z2) (mxV room n) (hpT [⟨some 0, n, tkC z1 z2⟩] [] (mxW 81 152 room z1 z2 n)) := by
 cases n with
 | zero => exact call_sk (tbE_ok 0) Tryz.func45 (by kernel_rfl) (false, true) (by kernel_rfl) (S := .nn (.nn (.need (tankE 0 room z1 z2 == 0) (.tt (.leaf (.inl (true, mxV room 0, hpT [⟨some 0, 0, tkC z1 z2⟩] [] []))))))) (by kernel_rfl) (by kernel_rfl) (SkLeads.all (sk_nn (sk_nn (sk_need (by rw [h0]; rfl) (sk_tt (sk_leaf rfl))))))
 | succ k =>
  refine call_whole (rec := mxRe togS) (recT_ok (tbE_ok 0)) Tryz.func45 (by kernel_rfl) (by kernel_rfl) (false, true) [2, 3] (sB := mpB (k + 1) room z1 z2) (by kernel_rfl) (T := mpT togS (k + 1) room z1 z2) (by delta mpT; rfl) (mp_into togS k room z1 z2) (mp_fits togS k room z1 z2) ?_
  exact sk_need (okN_ok _) (sk_need (ble_lit hn) (sk_need (by rw [h0]; rfl) (sk_ff (sk_need (okN_ok _) (sk_need (ble_lit hn) (sk_leaf (left_of (b := false) (by kernel_rfl))))))))
theorem mp_nil (h0 : tankE 0 room z1 z2 = 0) : CallAt Tryz.prog 45 [.agg [ci room, nilC]] (hpT [] [] []) (mxV room 0) (hpT [] [] []) :=
 call_sk (tbE_ok 0) Tryz.func45 (by kernel_rfl) (false, true) (by kernel_rfl) (S := .nn (.nn (.need (tankE 0 room z1 z2 == 0) (.tt (.leaf (.inl (true, mxV room 0, hpT [] [] []))))))) (by kernel_rfl) (by kernel_rfl) (SkLeads.all (sk_nn (sk_nn (sk_need (by rw [h0]; rfl) (sk_tt (sk_leaf rfl))))))
end
def mxF (b : Bool) (e l : TypeId) : FT
 | [room], [], [], [⟨_, n, [.int .i64 z1, .int .i64 z2]⟩] => .need (Nat.ble n 17) (.need (b || tankE n room z1 z2 == 0) (.leaf (mxV room n, mxW e l room z1 z2 n)))
 | _, _, _, _ => .fail 389
theorem mpE_ok : SpecOk Tryz.prog 45 fun args h => specT [tkS] [] (mxF false 81 152) args h := by
 refine specT_ok rfl (by decide) fun l m n ts v news hl hm hn ht hnil hF => ?_
 unfold mxF at hF
 split at hF
 ·rename_i room id n z1 z2
  obtain ⟨hok, hF⟩ := Tree.need_some hF
  obtain ⟨h0, hF⟩ := Tree.need_some hF
  have hok := Nat.le_of_ble_eq_true hok
  have h0 : tankE n room z1 z2 = 0 := eq_of_beq (by simpa using h0)
  simp only [Tree.run, Option.some.injEq, Prod.mk.injEq] at hF
  obtain ⟨rfl, rfl⟩ := hF
  cases id with
  | none =>
   have h00 : n = 0 := hnil _ (List.mem_singleton.2 rfl) rfl
   subst h00
   exact mp_nil room z1 z2 h0
  | some id => exact mp_call n room z1 z2 hok h0
 ·cases hF
end Go.Ev
namespace Go.Ev
open Go Go.Proofs
set_option maxRecDepth 100000
end Go.Ev
