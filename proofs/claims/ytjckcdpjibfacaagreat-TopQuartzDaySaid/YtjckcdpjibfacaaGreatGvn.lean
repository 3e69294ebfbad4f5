/- quartzMirror returns true (a fixed example). Conditions: none. -/
import Derived.Test.YtjckcdpjibfacaaGreatMee
import Derived.Test.YtjckcdpjibfacaaGreatFlp
import Derived.Test.YtjckcdpjibfacaaGreatMlw
namespace Go.Ev
open Go Go.Proofs
set_option maxRecDepth 100000
theorem mir_run : (evFun Tryz.prog (tabOf tb_Cos) modes 1000 8 [] hp0).run = some (boo true, hp0) := by kernel_rfl
def mirSp : Spec := fun args h => match args with
 | [] => .leaf (boo true, h)
 | _ => .fail 750
theorem mir_ok : SpecOk Tryz.prog 8 mirSp := by
 intro args h v h' hr E w vals rh hargs
 unfold mirSp at hr
 split at hr
 ·simp only [Tree.run, Option.some.injEq, Prod.mk.injEq] at hr
  obtain ⟨rfl, rfl⟩ := hr
  exact lift0 (fun E w vals rh ha => (fun_ok tb_Cos_ok noOwn mixed 1000 _ _ _ _ _ mir_run E w vals rh ha).1 (by decide)) rfl rfl rh hargs
 ·cases hr
end Go.Ev
namespace Go.Ev
open Go Go.Proofs
set_option maxRecDepth 100000
theorem rh_two {E : Env} {h : Hp} {w : World} (rh : RH E h w) {jd id : Nat} (hne : ¬ jd = id) {ty et : TypeId} {nm : ByteArray} {n n' : Nat} {cols : List Col} {r : Bool} (hj : h.blk jd = some ⟨false, ty, .flat [cs nm, .sl true id 0 4 0 n]⟩) (hi : h.blk id = some ⟨r, et, .rows n' cols⟩) :
  RH (subEnv E [jd, id]) (hpL [⟨false, ty, .flat [cs nm, .sl true 1 0 4 0 n]⟩, ⟨r, et, .rows n' cols⟩] []) w := by
 have hE0 : subEnv E [jd, id] 0 = E jd := rfl
 have hE1 : subEnv E [jd, id] 1 = E id := rfl
 have hget : ∀ i b, (hpL [⟨false, ty, .flat [cs nm, .sl true 1 0 4 0 n]⟩, ⟨r, et, .rows n' cols⟩] []).heap.get D i = some b → (i = 0 ∧ b = ⟨false, ty, .flat [cs nm, .sl true 1 0 4 0 n]⟩) ∨ (i = 1 ∧ b = ⟨r, et, .rows n' cols⟩) := fun i b hb => by
  rw [hpL_get (bs := [⟨false, ty, .flat [cs nm, .sl true 1 0 4 0 n]⟩, ⟨r, et, .rows n' cols⟩]) (show (2 : Nat) ≤ lim by decide)] at hb
  match i, hb with
  | 0, hb => injection hb with hb; exact .inl ⟨rfl, hb.symm⟩
  | 1, hb => injection hb with hb; exact .inr ⟨rfl, hb.symm⟩
  | i + 2, hb => cases hb
 obtain ⟨p0, hp0, arr0, fz0, h1, h2, h3, h4⟩ := rh.cells hj rfl
 obtain ⟨p1, hp1, hb1⟩ := rh.blk _ _ hi
 refine ⟨show 2 ≤ lim by decide, fun k hk => ?_, fun k p hp => ?_, fun k b hb => ?_, fun k k' b b' p p' hb hb' hro hp hp' he => ?_, fun g i hg => (by cases hg), fun _ _ e => (by cases e)⟩
 ·have hk : 2 ≤ k := hk
  unfold subEnv
  rw [nth_eq, List.getElem?_eq_none (by simpa using hk)]
 ·unfold subEnv at hp
  split at hp
  ·exact rh.lt _ _ hp
  ·cases hp
 ·rcases hget k b hb with ⟨rfl, rfl⟩ | ⟨rfl, rfl⟩
  ·refine ⟨p0, hE0.trans hp0, .inl ⟨arr0, fz0, h1, h2, ⟨h3.1, fun i c hc => ?_⟩, h4⟩⟩
   match i, hc with
   | 0, hc =>
    injection hc with hc; subst hc
    exact h3.2 0 _ rfl
   | 1, hc =>
    injection hc with hc; subst hc
    obtain ⟨x, hx, hxi⟩ := h3.2 1 _ rfl
    refine ⟨x, hx, ?_⟩
    rcases hxi with ⟨b0, s, o, cap, he, r1⟩ | r1
    ·exact .inl ⟨b0, s, o, cap, hE1.trans he, r1⟩
    ·exact .inr r1
   | i + 2, hc => cases i <;> cases hc
  ·refine ⟨p1, hE1.trans hp1, ?_⟩
   obtain ⟨arr, fz, q1, q2, q3, q4⟩ := hb1.cells rfl
   refine .inl ⟨arr, fz, q1, q2, ⟨q3.1, fun k j c hk hj => ?_⟩, q4⟩
   obtain ⟨x, hx, hxi⟩ := q3.2 k j c hk hj
   exact ⟨x, hx, at_is hxi⟩
 ·rcases hget k b hb with ⟨rfl, rfl⟩ | ⟨rfl, rfl⟩ <;> rcases hget k' b' hb' with ⟨rfl, rfl⟩ | ⟨rfl, rfl⟩
  ·rfl
  ·exact absurd (rh.inj jd id _ _ p p' hj hi rfl (hE0.symm.trans hp) (hE1.symm.trans hp') he) hne
  ·exact absurd (rh.inj id jd _ _ p p' hi hj hro (hE1.symm.trans hp) (hE0.symm.trans hp') he).symm hne
  ·rfl
section
variable (nm : ByteArray) (n n' : Nat) (r : Bool) (ty et : TypeId) (g0 g1 g2 g3 : Nat → Int)
def gdBs : List Blk := [⟨false, ty, .flat [cs nm, .sl true 1 0 4 0 n]⟩, ⟨r, et, .rows n' (skC g0 g1 g2 g3)⟩]
def gdB : St := { size := 9, env := initEnv 0 [pt 0] .nil, hp := { hpL (gdBs nm n n' r ty et g0 g1 g2 g3) [] with low := 2 }, keep := true }
noncomputable def gdO : Tree ((X × St) ⊕ (List Bool × St)) := evO (recT Tryz.prog (tabOf tb_Cos)) (bodyOf Tryz.f9) [] [1] (gdB nm n n' r ty et g0 g1 g2 g3)
def gdM : List Blk := [⟨false, 38, .flat [cs nm, .sl true 3 0 4 0 n]⟩, ⟨false, 39, .rows n (skC g0 g1 g2 g3)⟩]
def gdR : St := { size := 9, env := envL [(1, pt 2)], hp := hpN (gdBs nm n n' r ty et g0 g1 g2 g3) [] (gdM nm n g0 g1 g2 g3), keep := true }
noncomputable def gdC : Bool := Nat.ble (0 + n) n' && Nat.ble ((n + 0) * 32) 140737488355328 && Nat.ble (n + 0) 9223372036854775807
noncomputable def gdS : SkO := .need (gdC n n') (.leaf (.inl (.ret, gdR nm n n' r ty et g0 g1 g2 g3)))
theorem gd_into : gdO nm n n' r ty et g0 g1 g2 g3 = into (gdO nm n n' r ty et g0 g1 g2 g3) (gdS nm n n' r ty et g0 g1 g2 g3) := by kernel_rfl
theorem gd_fits : fits (gdO nm n n' r ty et g0 g1 g2 g3) (gdS nm n n' r ty et g0 g1 g2 g3) = true := by kernel_rfl
theorem gd_left : Left2 Tryz.prog Tryz.f9 (hpL (gdBs nm n n' r ty et g0 g1 g2 g3) []) (.agg [cs nm, .sl true 3 0 4 0 n]) (hpN (gdBs nm n n' r ty et g0 g1 g2 g3) [] (gdM nm n g0 g1 g2 g3)) (.ret, gdR nm n n' r ty et g0 g1 g2 g3) := left_of (b := false) (by kernel_rfl)
theorem gd_call (h1 : n ≤ n') (h2 : n ≤ 1000000) : CallAt Tryz.prog 9 [pt 0] (hpL (gdBs nm n n' r ty et g0 g1 g2 g3) []) (.agg [cs nm, .sl true 3 0 4 0 n]) (hpN (gdBs nm n n' r ty et g0 g1 g2 g3) [] (gdM nm n g0 g1 g2 g3)) := by
 refine call_baseS (recT_ok tb_Cos_ok) (c := bodyOf Tryz.f9) (fn := Tryz.f9) Tryz.func9 (by kernel_rfl) (by kernel_rfl) (false, true) 0 [] [1] (sB := gdB nm n n' r ty et g0 g1 g2 g3) (by kernel_rfl) (t := gdO nm n n' r ty et g0 g1 g2 g3) (by delta gdO; rfl) (gd_into nm n n' r ty et g0 g1 g2 g3) (gd_fits nm n n' r ty et g0 g1 g2 g3)
  (sk_need ?_ (sk_done (gd_left nm n n' r ty et g0 g1 g2 g3)))
 unfold gdC
 simp only [Bool.and_eq_true, Nat.ble_eq]
 omega
end
def gdSp : Spec := fun args h => match args with
 | [.one (.ptr jd 0 1 0)] => match h.blk jd with
  | some ⟨false, _, .flat [.lit (.string nm), .sl true id 0 4 0 n]⟩ => match h.blk id, Nat.beq jd id with
   | some ⟨_, _, .rows n' [.int .i64 g0, .int .i64 g1, .int .i64 g2, .int .i64 g3]⟩, false => .need (Nat.ble n n' && (Nat.ble n 1000000 && Nat.ble (h.next + 2) lim)) (.leaf (mapA (upN [jd, id] h.next) (.agg [cs nm, .sl true 3 0 4 0 n]), layH (upN [jd, id] h.next) h (gdM nm n g0 g1 g2 g3)))
   | _, _ => .fail 760
  | _ => .fail 761
 | _ => .fail 762
theorem gdSp_ok : SpecOk Tryz.prog 9 gdSp := by
 intro args h v h' hr E w vals rh hargs
 unfold gdSp at hr
 split at hr
 ·rename_i jd
  split at hr
  ·rename_i ty nm id n hj
   split at hr
   ·rename_i r et n' g0 g1 g2 g3 hi hne
    obtain ⟨hnd, hr2⟩ := Tree.need_some hr
    simp only [Bool.and_eq_true] at hnd
    obtain ⟨h1, h2, h3⟩ := hnd
    have h1 := Nat.le_of_ble_eq_true h1
    have h2 := Nat.le_of_ble_eq_true h2
    have h3 := Nat.le_of_ble_eq_true h3
    simp only [Tree.run, Option.some.injEq, Prod.mk.injEq] at hr2
    obtain ⟨rfl, rfl⟩ := hr2
    have hne : ¬ jd = id := fun e => by subst e; simp at hne
    match vals, hargs with
    | [u], ⟨hu, _⟩ =>
     have hE0 : subEnv E [jd, id] 0 = E jd := rfl
     have hc := gd_call nm n n' r ty et g0 g1 g2 g3 h1 h2
     have hnews : ∀ b ∈ gdM nm n g0 g1 g2 g3, b.body.isMap = false := fun b hb => by
      rcases List.mem_cons.1 hb with rfl | hb
      ·rfl
      ·obtain rfl := List.mem_singleton.1 hb
       rfl
     have hargs' : All2 (A.Is (subEnv E [jd, id])) [pt 0] [u] := ⟨ptr_of hE0 hu, trivial⟩
     exact lift_newR hc hnews rh (ids := [jd, id]) rfl (show (gdBs nm n n' r ty et g0 g1 g2 g3).length + (gdM nm n g0 g1 g2 g3).length ≤ lim from (by decide : 2 + 2 ≤ lim)) h3 (rh_two rh hne hj hi) hargs'
   ·cases hr
  ·cases hr
 ·cases hr
end Go.Ev
