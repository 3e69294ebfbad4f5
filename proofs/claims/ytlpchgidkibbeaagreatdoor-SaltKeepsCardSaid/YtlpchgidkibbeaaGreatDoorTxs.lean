/- The law of a tank's texts: its entries, its tree. Conditions: as the entries say. The law of a tank's texts. Conditions: none. -/
import Derived.Test.YtlpchgidkibbeaaGreatDoorPars
import Derived.Test.YtlpchgidkibbeaaGreatDoorIsT
namespace Go.Ev
open Go Go.RowKit Go.Proofs
set_option maxRecDepth 100000
def prFE (tP : Int → (Nat → Int) → (Nat → Int) → Nat → ByteArray) (e : Nat) : FT
 | [room], [], [], [⟨_, n, [.int .i64 z1, .int .i64 z2]⟩] => .need (Nat.ble n 17 && (tankE n room z1 z2 == (e : Int))) (.leaf (match e with | 0 => prV (tP room z1 z2 n) 0 | c + 1 => prV ⟨#[]⟩ ((c + 1 : Nat) : Int), []))
 | _, _, _, _ => .fail 540
def psFE (V : Int → Nat → A) (W : Int → (Nat → Int) → (Nat → Int) → Nat → List Blk) (pE pA pR : ByteArray → Int) (p1 p2 : ByteArray → Nat → Int) (pN : ByteArray → Nat) (e nl : Nat) : FT
 | [], [], [s], [] => .need ((pE s == (e : Int)) && Nat.beq (pN s) nl) (.leaf (match e with | 0 => (V (pR s) nl, W (pR s) (p1 s) (p2 s) nl) | c + 1 => (errV (pA s) ((c + 1 : Nat) : Int), [])))
 | _, _, _, _ => .fail 542
section
variable (tP tQ : Int → (Nat → Int) → (Nat → Int) → Nat → ByteArray) (pE pA pR : ByteArray → Int) (p1 p2 : ByteArray → Nat → Int) (pN : ByteArray → Nat) (e e2 nl : Nat)
section
variable (n : Nat) (room : Int) (z1 z2 : Nat → Int) (s : ByteArray)
end
end
end Go.Ev
namespace Go.Ev
open Go Go.RowKit Go.Proofs
set_option maxRecDepth 100000
theorem prE_ok (e : Nat) : SpecOk Tryz.prog 68 fun args h => specT [tkS] glW (prFE txP e) args h := specT_sub (F := prF) pr_ok fun l m n ts r hr => by
 unfold prFE at hr
 split at hr
 ·rename_i room id n z1 z2
  obtain ⟨h1, hr⟩ := Tree.need_some hr
  rw [Bool.and_eq_true, beq_iff_eq] at h1
  unfold prF
  rw [run_need h1.1]
  have h2 := h1.2
  cases e with
  | zero =>
   have h3 : (tankE n room z1 z2 != 0) = false := by rw [h2]; rfl
   rw [h3]
   exact hr
  | succ c =>
   have h3 : (tankE n room z1 z2 != 0) = true := by rw [h2]; simp only [bne_iff_ne, ne_eq]; omega
   rw [h3, h2]
   exact hr
 ·cases hr
theorem paE_ok (e nl : Nat) : SpecOk Tryz.prog 69 fun args h => specT [(false, [.s])] [] (psFE paV paNw psE psAt rmP f1P f2P nlP e nl) args h := by
 refine specT_ok (by decide) (by decide) fun l m n ts v news hl hm hn ht hnil hF => ?_
 unfold psFE at hF
 split at hF
 ·rename_i s
  obtain ⟨hok, hF⟩ := Tree.need_some hF
  rw [Bool.and_eq_true, beq_iff_eq] at hok
  obtain ⟨h1, h2⟩ := hok
  have h2 := Nat.eq_of_beq_eq_true h2
  refine pa_call s v (hpT [] [] news) (fun h => ?_) fun h => ?_
  ·cases e with
   | zero => exact absurd h1 h
   | succ c =>
    simp only [Tree.run, Option.some.injEq, Prod.mk.injEq] at hF
    obtain ⟨rfl, rfl⟩ := hF
    exact ⟨by rw [h1], rfl⟩
  ·cases e with
   | zero =>
    simp only [Tree.run, Option.some.injEq, Prod.mk.injEq] at hF
    obtain ⟨rfl, rfl⟩ := hF
    rw [h2]
    exact ⟨rfl, rfl⟩
   | succ c => rw [h] at h1; exact absurd h1 (by omega)
 ·cases hF
section
variable (n : Nat) (room : Int) (z1 z2 : Nat → Int) (s : ByteArray)
end
end Go.Ev
