/- SaltMoves: a tank that is charged, by the program. Conditions: few layers. SaltMoves: a tank that is charged, by the reference. Conditions: few layers. SaltMoves: slices.DeleteFunc of the layers of nothing. Conditions: few layers; the list lies by itself. -/
import Derived.Test.YtlpchgidkibbeaaGreatDoorMvA
import Derived.Test.YtlpchgidkibbeaaGreatDoorTog
import Derived.Test.YtlpchgidkibbeaaGreatDoorCmt
import Derived.Test.YtlpchgidkibbeaaGreatDoorMvB
namespace Go.Ev
open Go Go.Proofs
set_option maxRecDepth 100000
theorem bleZ {a b : Nat} (h : a ≤ b) : Nat.ble a b = true := by rw [Nat.ble_eq]; exact h
theorem call_baseT {P : Program} {rec : Code → St → Tree (X × St)} (hrec : RecOk P rec) {f : FuncId} {fn : Func} {c : Code} (hfn : P.funcs[f]? = some fn) (hc : fn.body = some c) {args : List A} (hsz : (Nat.ble args.length fn.ntmps && Nat.ble args.length lim) = true) {h : Hp} (m : Bool × Bool) {v : A} {h' : Hp} (k : Nat) (slots slotsR : List Nat)
  {sB : St} (hsB : sB = st0 fn args h m) {t : Tree ((X × St) ⊕ (List Bool × St))} (hpre : evO rec c slots slotsR sB = t) {S : Sk ((X × St) ⊕ (List Bool × St))} (h1 : t = into t S) (h2 : fits t S = true) (h3 : SkLeads (CutF P rec c sB (Left2 P fn h v h') k) S) : CallAt P f args h v h' :=
 call_base hrec hfn hc hsz m k slots slotsR hsB hpre (all_into h1 h2 h3.all)
abbrev Gt := (Nat → Int) → (Nat → Int) → Nat → T3
def tbCh (g : Gt) : List (FuncId × Spec) := (114, insSp) :: (112, midSp) :: tbG g
theorem tbCh_ok : TabOk Tryz.prog (tabOf (tbCh togS)) := tab_cons (tab_cons tbT2_ok midSp_ok) insSp_ok
def atI (z1 z2 : Nat → Int) (n : Nat) (a b : Int) : Nat := match fstO (warmP z1 z2 a b) n 0 with
 | some i => i
 | none => n
theorem atI_le (z1 z2 : Nat → Int) (n : Nat) (a b : Int) : atI z1 z2 n a b ≤ n := by
 unfold atI
 cases h : fstO (warmP z1 z2 a b) n 0 with
 | none => exact Nat.le_refl _
 | some i => have := (fstO_some h).2.1; show i ≤ n; omega
def chL (g : Gt) (n : Nat) (am ht : Int) (z1 z2 : Nat → Int) : T3 := g (insF z1 (atI z1 z2 n am ht) am) (insF z2 (atI z1 z2 n am ht) ht) (n + 1)
def chE2 (n : Nat) (room am ht : Int) (z1 z2 : Nat → Int) : Int := firstZ [errIf (decide (am > w64 (room - sumA z1 n))) 4, errIf (decide (ht > w64 (1000000000 - sumA z2 n))) 23]
def chE3 (g : Gt) (n : Nat) (room am ht : Int) (z1 z2 : Nat → Int) : Int := match chE2 n room am ht z1 z2 != 0 with
 | true => chE2 n room am ht z1 z2
 | false => errIf (decide (((chL g n am ht z1 z2).1 : Int) > 16)) 5
def chE1 (n : Nat) (room am ht : Int) (z1 z2 : Nat → Int) : Int := firstZ [tankE n room z1 z2, wW am 1 1000000, wW ht 0 1000000000]
def chE (g : Gt) (n : Nat) (room am ht : Int) (z1 z2 : Nat → Int) : Int := match chE1 n room am ht z1 z2 != 0 with
 | true => chE1 n room am ht z1 z2
 | false => chE3 g n room am ht z1 z2
def badA (e : Int) : A := .tup [(true, [ci 0, nilC]), (false, [ci e])]
def goodA (room : Int) (m : Nat) : A := .tup [(true, [ci room, slC true 2 2 m]), (false, [ci 0])]
def boxT (e : TypeId) (room : Int) (c : C) : Blk := ⟨false, e, .flat [ci room, c]⟩
def layB (e : TypeId) (t : T3) : List Blk := [⟨false, e, .rows t.1 (tkC t.2.1 t.2.2)⟩]
section
variable (g : Gt) (n : Nat) (room am ht : Int) (z1 z2 : Nat → Int)
noncomputable def chRe : Code → St → Tree (X × St) := recT Tryz.prog (tabOf (stpL (tbCh g)))
def chB : St := { baseB 77 [tankA room n, int am, int ht] (tankH n z1 z2) with keep := true }
def chN (env : List (Nat × A)) (news : List Blk) : St := stN 77 (envL env) (bsS [⟨some 0, n, tkC z1 z2⟩] []) [] news true
noncomputable def chT : Tree ((X × St) ⊕ (List Bool × St)) := evO (chRe g) (bodyOf Tryz.f57) [] [6, 7] (chB n room am ht z1 z2)
def okK (n : Nat) : Bool := (true && (Nat.ble n n && true)) && true
def chXb (e : Int) : St := chN n z1 z2 [(6, .one (.ptr 1 0 1 0)), (7, int e)] [boxT 81 0 nilC]
def chXg (t : T3) : St := chN n z1 z2 [(6, .one (.ptr 1 0 1 0)), (7, int 0)] (boxT 81 room (slC true 2 2 t.1) :: layB 152 t)
def chBad (e : Int) : SkO2 := .leaf (.inl (.ret, chXb n z1 z2 e))
def chTail (i : Int) : SkO2 := .ff (.need (Nat.ble (0 + n) n && Nat.ble ((n + 0) * 16) 140737488355328 && Nat.ble (n + 0) 9223372036854775807) (.need (Nat.ble n n && Nat.ble n 1000 && (decide (0 ≤ i) && decide (i ≤ (n : Int)))) (.need (okN (n + 1) && Nat.ble (n + 1) 100000) (.ff
 (.node (decide (((g (insF z1 i.toNat am) (insF z2 i.toNat ht) (n + 1)).1 : Int) > 16)) (chBad n z1 z2 5) (.leaf (.inl (.ret, chXg n room z1 z2 (g (insF z1 i.toNat am) (insF z2 i.toNat ht) (n + 1))))))))))
def chS : SkO2 := .need (okK n && Nat.ble n 17) (.node (chE1 n room am ht z1 z2 != 0) (chBad n z1 z2 (chE1 n room am ht z1 z2)) (.need (okK n && Nat.ble n 17) (.node (chE2 n room am ht z1 z2 != 0) (chBad n z1 z2 (chE2 n room am ht z1 z2))
 (.need (Nat.ble n n && Nat.ble n 1000000) (.node (decide (fstI (warmP z1 z2 am ht) n < 0)) (chTail g n room am ht z1 z2 (n : Int)) (chTail g n room am ht z1 z2 (fstI (warmP z1 z2 am ht) n)))))))
end
theorem togS_one (f f' h h' : Nat → Int) (e1 : f 0 = f' 0) (e2 : h 0 = h' 0) : togS f h 1 = togS f' h' 1 := by
 show mergeN 1 (pushT _ (f 0) (h 0)) = mergeN 1 (pushT _ (f' 0) (h' 0))
 rw [e1, e2]
 rfl
theorem okK_ok (n : Nat) : okK n = true := by unfold okK; rw [bleZ (Nat.le_refl n)]; rfl
section
variable (g : Gt) (k : Nat) (room am ht : Int) (z1 z2 : Nat → Int)
theorem chT_into : chT g (k + 1) room am ht z1 z2 = into (chT g (k + 1) room am ht z1 z2) (chS g (k + 1) room am ht z1 z2) := by kernel_rfl
theorem chT_fits : fits (chT g (k + 1) room am ht z1 z2) (chS g (k + 1) room am ht z1 z2) = true := by kernel_rfl
theorem chT_eq : evO (chRe g) (bodyOf Tryz.f57) [] [6, 7] (chB (k + 1) room am ht z1 z2) = chT g (k + 1) room am ht z1 z2 := by delta chT; rfl
def chW (n : Nat) (t : T3) : Hp := hpT [⟨some 0, n, tkC z1 z2⟩] [] (boxT 81 room (slC true 2 2 t.1) :: layB 152 t)
theorem ch_leftb (e : Int) : Left2 Tryz.prog Tryz.f57 (tankH (k + 1) z1 z2) (badA e) (tankH (k + 1) z1 z2) (.ret, chXb (k + 1) z1 z2 e) := left_of (b := true) (by kernel_rfl)
theorem ch_leftg (t : T3) : Left2 Tryz.prog Tryz.f57 (tankH (k + 1) z1 z2) (goodA room t.1) (chW room z1 z2 (k + 1) t) (.ret, chXg (k + 1) room z1 z2 t) := left_of (b := false) (by kernel_rfl)
def chV (n : Nat) (H : Hp) (W : T3 → Hp) : A × Hp := match chE togS n room am ht z1 z2 != 0 with
 | true => (badA (chE togS n room am ht z1 z2), H)
 | false => (goodA room (chL togS n am ht z1 z2).1, W (chL togS n am ht z1 z2))
theorem ch_tail {i : Nat} (hi : i = atI z1 z2 (k + 1) am ht) (hk : k + 1 ≤ 17) (h1 : chE1 (k + 1) room am ht z1 z2 = 0) (h2 : chE2 (k + 1) room am ht z1 z2 = 0) :
  SkLeads (CutF Tryz.prog (chRe togS) (bodyOf Tryz.f57) (chB (k + 1) room am ht z1 z2) (Left2 Tryz.prog Tryz.f57 (tankH (k + 1) z1 z2) (chV room am ht z1 z2 (k + 1) (tankH (k + 1) z1 z2) (chW room z1 z2 (k + 1))).1 (chV room am ht z1 z2 (k + 1) (tankH (k + 1) z1 z2) (chW room z1 z2 (k + 1))).2) 0) (chTail togS (k + 1) room am ht z1 z2 (i : Int)) := by
 have hle := atI_le z1 z2 (k + 1) am ht
 unfold chTail
 rw [Int.toNat_natCast]
 refine sk_ff (sk_need ?_ (sk_need ?_ (sk_need ?_ (sk_ff (sk_either (fun g1 => sk_leaf (cutF_dn ?_)) fun g1 => sk_leaf (cutF_dn ?_))))))
 ·rw [bleZ (by omega), bleZ (by omega), bleZ (by omega)]; rfl
 ·rw [bleZ (by omega), bleZ (by omega), show decide ((0 : Int) ≤ (i : Int)) = true by simp, show decide ((i : Int) ≤ ((k + 1 : Nat) : Int)) = true by simp only [decide_eq_true_eq]; omega]; rfl
 ·rw [okN_ok, bleZ (by omega)]; rfl
 ·have e : chE togS (k + 1) room am ht z1 z2 = 5 := by
   unfold chE chE3 chL
   rw [h1, h2, ← hi, g1]; rfl
  unfold chV
  rw [e]
  exact ch_leftb k z1 z2 5
 ·have e : chE togS (k + 1) room am ht z1 z2 = 0 := by
   unfold chE chE3 chL
   rw [h1, h2, ← hi, g1]; rfl
  unfold chV
  rw [e]
  unfold chL
  rw [← hi]
  exact ch_leftg k room z1 z2 _
theorem ch_call (hk : k + 1 ≤ 17) : CallAt Tryz.prog 57 [tankA room (k + 1), int am, int ht] (tankH (k + 1) z1 z2) (chV room am ht z1 z2 (k + 1) (tankH (k + 1) z1 z2) (chW room z1 z2 (k + 1))).1 (chV room am ht z1 z2 (k + 1) (tankH (k + 1) z1 z2) (chW room z1 z2 (k + 1))).2 := by
 refine call_baseT (rec := chRe togS) (recT_ok (stpL_ok tbCh_ok)) (c := bodyOf Tryz.f57) (fn := Tryz.f57) Tryz.func57 (by kernel_rfl) (by kernel_rfl) (false, true) 0 [] [6, 7] (sB := chB (k + 1) room am ht z1 z2) (by kernel_rfl) (t := chT togS (k + 1) room am ht z1 z2) (chT_eq togS k room am ht z1 z2) (chT_into togS k room am ht z1 z2) (chT_fits togS k room am ht z1 z2) ?_
 have c1 : (okK (k + 1) && Nat.ble (k + 1) 17) = true := by rw [okK_ok, bleZ hk]; rfl
 refine sk_need c1 (sk_either (fun g1 => sk_leaf (cutF_dn ?_)) fun g1 => sk_need c1 (sk_either (fun g2 => sk_leaf (cutF_dn ?_)) fun g2 => sk_need (by rw [bleZ (Nat.le_refl _), bleZ (by omega)]; rfl) ?_))
 ·have e : chE togS (k + 1) room am ht z1 z2 = chE1 (k + 1) room am ht z1 z2 := by unfold chE; rw [g1]
  unfold chV
  rw [e, g1]
  exact ch_leftb k z1 z2 _
 ·have e : chE togS (k + 1) room am ht z1 z2 = chE2 (k + 1) room am ht z1 z2 := by unfold chE chE3; rw [g1, g2]
  unfold chV
  rw [e, g2]
  exact ch_leftb k z1 z2 _
 ·have h1 : chE1 (k + 1) room am ht z1 z2 = 0 := by simpa using g1
  have h2 : chE2 (k + 1) room am ht z1 z2 = 0 := by simpa using g2
  cases hf : fstO (warmP z1 z2 am ht) (k + 1) 0 with
  | none =>
   have e : fstI (warmP z1 z2 am ht) (k + 1) = -1 := by unfold fstI; rw [hf]
   rw [e]
   exact sk_yes rfl (ch_tail k room am ht z1 z2 (i := k + 1) (by unfold atI; rw [hf]) hk h1 h2)
  | some i =>
   have e : fstI (warmP z1 z2 am ht) (k + 1) = (i : Int) := by unfold fstI; rw [hf]
   rw [e]
   exact sk_no (by simp only [decide_eq_false_iff_not]; omega) (ch_tail k room am ht z1 z2 (i := i) (by unfold atI; rw [hf]) hk h1 h2)
end
section
variable (g : Gt) (room am ht : Int)
def chB0 : St := { baseB 77 [.agg [ci room, nilC], int am, int ht] (hpT [] [] []) with keep := true }
def chN0 (env : List (Nat × A)) (news : List Blk) : St := stN 77 (envL env) (bsS [] []) [] news true
def chXb0 (e : Int) : St := chN0 [(6, .one (.ptr 0 0 1 0)), (7, int e)] [boxT 81 0 nilC]
def chXg0 (t : T3) : St := chN0 [(6, .one (.ptr 0 0 1 0)), (7, int 0)] (boxT 81 room (slC true 1 2 t.1) :: layB 152 t)
def goodA0 (room : Int) (m : Nat) : A := .tup [(true, [ci room, slC true 1 2 m]), (false, [ci 0])]
def zF : Nat → Int := fun _ => 0
noncomputable def chT0 : Tree ((X × St) ⊕ (List Bool × St)) := evO (chRe g) (bodyOf Tryz.f57) [] [6, 7] (chB0 room am ht)
def chS0 : SkO2 := .node (chE1 0 room am ht zF zF != 0) (.leaf (.inl (.ret, chXb0 (chE1 0 room am ht zF zF)))) (.node (chE2 0 room am ht zF zF != 0) (.leaf (.inl (.ret, chXb0 (chE2 0 room am ht zF zF)))) (.tt (.tt (.ff
 (.node (decide (((g (fun _ => am) (fun _ => ht) 1).1 : Int) > 16)) (.leaf (.inl (.ret, chXb0 5))) (.leaf (.inl (.ret, chXg0 room (g (fun _ => am) (fun _ => ht) 1)))))))))
theorem chT0_into : chT0 g room am ht = into (chT0 g room am ht) (chS0 g room am ht) := by kernel_rfl
theorem chT0_fits : fits (chT0 g room am ht) (chS0 g room am ht) = true := by kernel_rfl
theorem chT0_eq : evO (chRe g) (bodyOf Tryz.f57) [] [6, 7] (chB0 room am ht) = chT0 g room am ht := by delta chT0; rfl
def chW0 (t : T3) : Hp := hpT [] [] (boxT 81 room (slC true 1 2 t.1) :: layB 152 t)
theorem ch_leftb0 (e : Int) : Left2 Tryz.prog Tryz.f57 (hpT [] [] []) (badA e) (hpT [] [] []) (.ret, chXb0 e) := left_of (b := true) (by kernel_rfl)
theorem ch_leftg0 (t : T3) : Left2 Tryz.prog Tryz.f57 (hpT [] [] []) (goodA0 room t.1) (chW0 room t) (.ret, chXg0 room t) := left_of (b := false) (by kernel_rfl)
def chV0 (z1 z2 : Nat → Int) : A × Hp := match chE togS 0 room am ht z1 z2 != 0 with
 | true => (badA (chE togS 0 room am ht z1 z2), hpT [] [] [])
 | false => (goodA0 room (chL togS 0 am ht z1 z2).1, chW0 room (chL togS 0 am ht z1 z2))
theorem ch_call0 (z1 z2 : Nat → Int) : CallAt Tryz.prog 57 [.agg [ci room, nilC], int am, int ht] (hpT [] [] []) (chV0 room am ht z1 z2).1 (chV0 room am ht z1 z2).2 := by
 have eL : chL togS 0 am ht z1 z2 = togS (fun _ => am) (fun _ => ht) 1 := togS_one _ _ _ _ rfl rfl
 have eE1 : chE1 0 room am ht z1 z2 = chE1 0 room am ht zF zF := rfl
 have eE2 : chE2 0 room am ht z1 z2 = chE2 0 room am ht zF zF := rfl
 refine call_baseT (rec := chRe togS) (recT_ok (stpL_ok tbCh_ok)) (c := bodyOf Tryz.f57) (fn := Tryz.f57) Tryz.func57 (by kernel_rfl) (by kernel_rfl) (false, true) 0 [] [6, 7] (sB := chB0 room am ht) (by kernel_rfl) (t := chT0 togS room am ht) (chT0_eq togS room am ht) (chT0_into togS room am ht) (chT0_fits togS room am ht) ?_
 unfold chV0 chE chE3
 rw [eE1, eE2, eL]
 refine sk_either (fun g1 => sk_leaf (cutF_dn ?_)) fun g1 => sk_either (fun g2 => sk_leaf (cutF_dn ?_)) fun g2 => sk_tt (sk_tt (sk_ff (sk_either (fun g3 => sk_leaf (cutF_dn ?_)) fun g3 => sk_leaf (cutF_dn ?_))))
 ·rw [g1]; simp only []; rw [g1]; exact ch_leftb0 _
 ·rw [g1]; simp only []; rw [g2]; simp only []; rw [g2]; exact ch_leftb0 _
 ·rw [g1]; simp only []; rw [g2, g3]; exact ch_leftb0 5
 ·rw [g1]; simp only []; rw [g2, g3]; exact ch_leftg0 room _
end
def chF (e : Int) (g : Gt) : FT
 | [room, am, ht], [], [], [⟨some _, n, [.int .i64 z1, .int .i64 z2]⟩] => .need (Nat.blt 0 n && Nat.ble n 17) (.need (chE g n room am ht z1 z2 == e) (match e != 0 with
  | true => .leaf (badA e, [])
  | false => .leaf (goodA room (chL g n am ht z1 z2).1, boxT 81 room (slC true 2 2 (chL g n am ht z1 z2).1) :: layB 152 (chL g n am ht z1 z2))))
 | [room, am, ht], [], [], [⟨none, 0, [.int .i64 z1, .int .i64 z2]⟩] => .need (chE g 0 room am ht z1 z2 == e) (match e != 0 with
  | true => .leaf (badA e, [])
  | false => .leaf (goodA0 room (chL g 0 am ht z1 z2).1, boxT 81 room (slC true 1 2 (chL g 0 am ht z1 z2).1) :: layB 152 (chL g 0 am ht z1 z2)))
 | _, _, _, _ => .fail 440
theorem chF_ok (e : Int) : SpecOk Tryz.prog 57 fun args h => specT [tkS, (false, [.i]), (false, [.i])] [] (chF e togS) args h := by
 refine specT_ok rfl (by decide) fun l m n ts v news hl hm hn hts hnil hF => ?_
 unfold chF at hF
 split at hF
 ·rename_i room am ht i n z1 z2
  obtain ⟨hok, hF⟩ := Tree.need_some hF
  obtain ⟨he, hF⟩ := Tree.need_some hF
  rw [Bool.and_eq_true, Nat.blt_eq] at hok
  have hk := Nat.le_of_ble_eq_true hok.2
  obtain ⟨k, rfl⟩ : ∃ k, n = k + 1 := ⟨n - 1, by omega⟩
  have he := eq_of_beq he
  have hc := ch_call k room am ht z1 z2 hk
  unfold chV at hc
  rw [he] at hc
  split at hF
  ·rename_i g
   rw [g] at hc
   simp only [Tree.run, Option.some.injEq, Prod.mk.injEq] at hF
   obtain ⟨rfl, rfl⟩ := hF
   exact hc
  ·rename_i g
   rw [g] at hc
   simp only [Tree.run, Option.some.injEq, Prod.mk.injEq] at hF
   obtain ⟨rfl, rfl⟩ := hF
   exact hc
 ·rename_i room am ht z1 z2
  obtain ⟨he, hF⟩ := Tree.need_some hF
  have he := eq_of_beq he
  have hc := ch_call0 room am ht z1 z2
  unfold chV0 at hc
  rw [he] at hc
  split at hF
  ·rename_i g
   rw [g] at hc
   simp only [Tree.run, Option.some.injEq, Prod.mk.injEq] at hF
   obtain ⟨rfl, rfl⟩ := hF
   exact hc
  ·rename_i g
   rw [g] at hc
   simp only [Tree.run, Option.some.injEq, Prod.mk.injEq] at hF
   obtain ⟨rfl, rfl⟩ := hF
   exact hc
 ·cases hF
end Go.Ev
namespace Go.Ev
open Go Go.Proofs
set_option maxRecDepth 100000
section
variable (g : Gt) (n : Nat) (room am ht : Int) (z1 z2 : Nat → Int)
end
theorem togS_cong {a a' h h' : Nat → Int} : ∀ k, (∀ i, i < k → a i = a' i) → (∀ i, i < k → h i = h' i) → togS a h k = togS a' h' k
 | 0, _, _ => rfl
 | k + 1, ha, hh => by
  show mergeN ((togS a h k).1 + 1) (pushT (togS a h k) (a k) (h k)) = mergeN ((togS a' h' k).1 + 1) (pushT (togS a' h' k) (a' k) (h' k))
  rw [togS_cong k (fun i hi => ha i (by omega)) (fun i hi => hh i (by omega)), ha k (by omega), hh k (by omega)]
section
variable (n : Nat) (room am ht : Int) (z1 z2 : Nat → Int)
end
def kqF (e : Int) (g : Gt) : FT
 | [room, am, ht], [], [], [⟨some _, n, [.int .i64 z1, .int .i64 z2]⟩] => .need (Nat.ble n 1000) (.need (chE3 g n room am ht z1 z2 == e) (match e != 0 with
  | true => .leaf (badA e, [])
  | false => .leaf (goodA room (chL g n am ht z1 z2).1, boxT 76 room (slC true 2 2 (chL g n am ht z1 z2).1) :: layB 98 (chL g n am ht z1 z2))))
 | _, _, _, _ => .fail 441
end Go.Ev
namespace Go.Ev
open Go Go.Proofs
set_option maxRecDepth 100000
def mixF : FT
 | [], [], [], [⟨some _, n, [.int .i64 z1, .int .i64 z2]⟩] => .need (Nat.ble n 1000000) (.leaf (int (fstI (nilP z1 z2) n), []))
 | _, _, _, _ => .fail 450
def mixSp : Spec := fun args h => specT [(false, [.t tkD]), (false, [.fn 118])] [] mixF args h
theorem mixSp_ok : SpecOk Tryz.prog 112 mixSp := by
 refine specT_ok rfl (by decide) fun l m n ts v news hl hm hn hts hnil hF => ?_
 unfold mixF at hF
 split at hF
 ·rename_i i n z1 z2
  obtain ⟨hok, hF⟩ := Tree.need_some hF
  simp only [Tree.run, Option.some.injEq, Prod.mk.injEq] at hF
  obtain ⟨rfl, rfl⟩ := hF
  exact xb_call n z1 z2 (Nat.le_of_ble_eq_true hok)
 ·cases hF
def tbDl : List (FuncId × Spec) := (112, mixSp) :: []
theorem tbDl_ok : TabOk Tryz.prog (tabOf tbDl) := tab_cons (fun _ _ h => by cases h) mixSp_ok
noncomputable def dlRe : Code → St → Tree (X × St) := recT Tryz.prog (tabOf tbDl)
theorem dlRe_ok : RecOk Tryz.prog dlRe := recT_ok tbDl_ok
def hpO (n : Nat) (z1 z2 : Nat → Int) (low : Nat := 1) : Hp := { heap := (Tr.nil : Tr Blk).set D 0 (some ⟨false, 152, .rows n (tkC z1 z2)⟩), next := 1, low := low, globs := [] }
def delFn : A := .one (.fn 118 [])
def delS (z1 z2 : Nat → Int) : Nat → T3
 | 0 => (0, z1, z2)
 | k + 1 => match nilP z1 z2 k with
  | true => delS z1 z2 k
  | false => pushT (delS z1 z2 k) (z1 k) (z2 k)
theorem delS_le (z1 z2 : Nat → Int) : ∀ k, (delS z1 z2 k).1 ≤ k
 | 0 => Nat.le_refl _
 | k + 1 => by
  have := delS_le z1 z2 k
  unfold delS
  split
  ·omega
  ·show (delS z1 z2 k).1 + 1 ≤ k + 1; omega
theorem delS_hi (z1 z2 : Nat → Int) : ∀ k i, (delS z1 z2 k).1 ≤ i → (delS z1 z2 k).2.1 i = z1 i ∧ (delS z1 z2 k).2.2 i = z2 i
 | 0, _, _ => ⟨rfl, rfl⟩
 | k + 1, i, h => by
  unfold delS at h ⊢
  split at h
  ·exact delS_hi z1 z2 k i h
  ·have h : (delS z1 z2 k).1 + 1 ≤ i := h
   show putF (delS z1 z2 k).2.1 (delS z1 z2 k).1 (z1 k) i = _ ∧ putF (delS z1 z2 k).2.2 (delS z1 z2 k).1 (z2 k) i = _
   rw [putF_other _ _ (by omega), putF_other _ _ (by omega)]
   exact delS_hi z1 z2 k i (by omega)
theorem delS_all {z1 z2 : Nat → Int} : ∀ k, (∀ j, j < k → nilP z1 z2 j = false) → (delS z1 z2 k).1 = k ∧ (∀ i, (delS z1 z2 k).2.1 i = z1 i) ∧ ∀ i, (delS z1 z2 k).2.2 i = z2 i
 | 0, _ => ⟨rfl, fun _ => rfl, fun _ => rfl⟩
 | k + 1, h => by
  obtain ⟨a, b, c⟩ := delS_all k fun j hj => h j (by omega)
  unfold delS
  rw [h k (by omega)]
  refine ⟨by show (delS z1 z2 k).1 + 1 = k + 1; omega, fun i => ?_, fun i => ?_⟩
  ·show putF (delS z1 z2 k).2.1 (delS z1 z2 k).1 (z1 k) i = z1 i
   rw [a]
   by_cases e : i = k
   ·rw [e, putF_same]
   ·rw [putF_other _ _ e]; exact b i
  ·show putF (delS z1 z2 k).2.2 (delS z1 z2 k).1 (z2 k) i = z2 i
   rw [a]
   by_cases e : i = k
   ·rw [e, putF_same]
   ·rw [putF_other _ _ e]; exact c i
theorem comesF_stEq {P : Program} {c : Code} {sB st st' : St} {φ : X × St → Prop} (e : st = st') (h : ComesF P c sB st' φ) : ComesF P c sB st φ := by rw [e]; exact h
section
variable (n : Nat) (z1 z2 : Nat → Int)
def dlB : St := { size := 42, env := envL [(0, slO 0 2 n), (1, delFn)], hp := hpO n z1 z2, keep := true }
def dlN (env : List (Nat × A)) (n' : Nat) (a h : Nat → Int) : St := { size := 42, env := envL env, hp := hpO n' a h 0, keep := true }
def dlH (s : T3) (j : Int) : St := dlN [(0, slO 0 2 n), (1, delFn), (5, int (s.1 : Int)), (6, int j)] n s.2.1 s.2.2
def dlX (s : T3) : St := dlN [(0, slO 0 2 n), (5, int (s.1 : Int))] n s.2.1 s.2.2
noncomputable def dlO : Tree ((X × St) ⊕ (List Bool × St)) := evW dlRe (bodyOf Tryz.f117) [0, 1, 5, 6] [4] (dlB n z1 z2)
noncomputable def dlT (s : T3) (j : Nat) : Tree (X × St) := (dlRe (loopF Tryz.f117) (dlH n s (j : Int))).bind (dropT [0, 1, 5, 6] [0, 5] (dlB n z1 z2))
noncomputable def dlE (s : T3) : Tree ((X × St) ⊕ (List Bool × St)) := evW2 dlRe true (bodyOf Tryz.f117) (pathF Tryz.f117) [] [4] (dlB n z1 z2) (.exit 0, dlX n s)
abbrev SkD := Sk ((X × St) ⊕ (List Bool × St))
def dlR0 : St := { size := 42, env := envL [(4, slO 0 2 n)], hp := hpO n z1 z2, keep := true }
def dlH0 : St := { size := 42, env := envL [(0, slO 0 2 n), (1, delFn), (5, int (fstI (nilP z1 z2) n)), (6, int (IntKind.i64.wrap (fstI (nilP z1 z2) n + 1)))], hp := hpO n z1 z2, keep := true }
def dlRX (s : T3) : St := { size := 42, env := envL [(4, .one (.sl true 0 0 2 0 ((s.1 : Int).toNat - 0)))], hp := hpO (0 + (s.1 : Int).toNat) s.2.1 s.2.2 0, keep := true }
noncomputable def dlOS : SkD := .need ((Nat.ble n n && true) && true) (.need (Nat.ble n 1000000) (.node (fstI (nilP z1 z2) n == -1) (.leaf (.inl (.ret, dlR0 n z1 z2))) (.leaf (.inr (pathF Tryz.f117, dlH0 n z1 z2)))))
def dlIx (i : Nat) (S : Sk (X × St)) : Sk (X × St) := .need (decide (0 ≤ (i : Int)) && decide ((i : Int) < (n : Int))) (.need (Nat.blt (0 + Int.toNat (i : Int)) n) (.need (Nat.blt (0 + Int.toNat (i : Int)) n) S))
def dlPu (s : T3) (j : Nat) : St := dlN [(0, slO 0 2 n), (1, delFn), (5, int (IntKind.i64.wrap ((s.1 : Int) + 1))), (6, int (IntKind.i64.wrap ((j : Int) + 1)))] n (putF s.2.1 (0 + Int.toNat (s.1 : Int)) (s.2.1 (0 + Int.toNat (j : Int)))) (putF s.2.2 (0 + Int.toNat (s.1 : Int)) (s.2.2 (0 + Int.toNat (j : Int))))
noncomputable def dlS (s : T3) (j : Nat) : Sk (X × St) := .node (decide ((j : Int) < (n : Int))) (dlIx n j (.node (!(nilP s.2.1 s.2.2 (0 + Int.toNat (j : Int)))) (dlIx n s.1 (.leaf (.normal, dlPu n s j))) (.leaf (.normal, dlH n s (IntKind.i64.wrap ((j : Int) + 1)))))) (.leaf (.exit 0, dlX n s))
noncomputable def dlES (s : T3) : SkD := .need (decide (0 ≤ (s.1 : Int)) && decide ((s.1 : Int) ≤ (n : Int)) && decide ((n : Int) ≤ (n : Int))) (.need (Nat.ble (0 + (s.1 : Int).toNat + ((n : Int).toNat - (s.1 : Int).toNat)) n) (.need (decide (0 ≤ (0 : Int)) && decide (0 ≤ (s.1 : Int)) && decide ((s.1 : Int) ≤ (n : Int))) (.leaf (.inl (.ret, dlRX s)))))
theorem dlO_into : dlO n z1 z2 = into (dlO n z1 z2) (dlOS n z1 z2) := by kernel_rfl
theorem dlO_fits : fits (dlO n z1 z2) (dlOS n z1 z2) = true := by kernel_rfl
theorem dlT_into (s : T3) (j : Nat) : dlT n z1 z2 s j = into (dlT n z1 z2 s j) (dlS n s j) := by kernel_rfl
theorem dlT_fits (s : T3) (j : Nat) : fits (dlT n z1 z2 s j) (dlS n s j) = true := by kernel_rfl
theorem dlE_into (s : T3) : dlE n z1 z2 s = into (dlE n z1 z2 s) (dlES n s) := by kernel_rfl
theorem dlE_fits (s : T3) : fits (dlE n z1 z2 s) (dlES n s) = true := by kernel_rfl
theorem dlO_eq : evW dlRe (bodyOf Tryz.f117) [0, 1, 5, 6] [4] (dlB n z1 z2) = dlO n z1 z2 := by delta dlO; rfl
theorem dlE_eq (s : T3) : evW2 dlRe true (bodyOf Tryz.f117) (pathF Tryz.f117) [] [4] (dlB n z1 z2) (.exit 0, dlX n s) = dlE n z1 z2 s := by delta dlE; rfl
theorem dlIx_ok {p : X × St → Prop} {i : Nat} {S : Sk (X × St)} (hi : i < n) (h : SkLeads p S) : SkLeads p (dlIx n i S) := by
 obtain ⟨_, a2, a3⟩ := rnd_lt hi
 exact sk_need a2 (sk_need a3 (sk_need a3 h))
theorem dl_loop (hn : n ≤ 1000000) (k0 : Nat) (hk0 : k0 ≤ n) : ComesF Tryz.prog (.loop (loopF Tryz.f117)) (dlB n z1 z2) (dlH n (delS z1 z2 k0) (k0 : Int)) fun q => q = (.exit 0, dlX n (delS z1 z2 n)) := by
 refine loop_countW dlRe_ok [0, 1, 5, 6] [0, 5] (fun k => dlH n (delS z1 z2 k) (k : Int)) (fun _ => (.exit 0, dlX n (delS z1 z2 n))) k0 n hk0 (fun k => dlT n z1 z2 (delS z1 z2 k) k) (fun k => dlS n (delS z1 z2 k) k) (fun _ => rfl) (fun k => dlT_into n z1 z2 _ k) (fun k => dlT_fits n z1 z2 _ k) (fun k _ hk => ?_) (sk_no (rnd_end n) (sk_leaf rfl))
 have hle := delS_le z1 z2 k
 obtain ⟨e1, e2⟩ := delS_hi z1 z2 k k hle
 have en : nilP (delS z1 z2 k).2.1 (delS z1 z2 k).2.2 k = nilP z1 z2 k := by unfold nilP; rw [e1, e2]
 have hd : delS z1 z2 (k + 1) = match nilP z1 z2 k with | true => delS z1 z2 k | false => pushT (delS z1 z2 k) (z1 k) (z2 k) := rfl
 refine sk_yes (rnd_lt hk).1 (dlIx_ok n hk ?_)
 rw [idx_nat, en]
 refine sk_either (fun g => dlIx_ok n (by omega) (sk_leaf (rnd_next ?_ rfl))) fun g => sk_leaf (rnd_next ?_ rfl)
 ·have g : nilP z1 z2 k = false := by simpa using g
  rw [hd, g]
  unfold dlPu
  rw [idx_nat, idx_nat, wrap_succ (by omega), wrap_succ (by omega), e1, e2]
  exact St.Le.refl _
 ·have g : nilP z1 z2 k = true := by simpa using g
  rw [hd, g, wrap_succ (by omega)]
  exact St.Le.refl _
theorem dl_left0 : Left2 Tryz.prog Tryz.f117 (hpO n z1 z2) (slO 0 2 n) (hpO n z1 z2) (.ret, dlR0 n z1 z2) := left_of (b := false) (by kernel_rfl)
theorem dl_left (s : T3) : Left2 Tryz.prog Tryz.f117 (hpO n z1 z2) (.one (.sl true 0 0 2 0 ((s.1 : Int).toNat - 0))) (hpO (0 + (s.1 : Int).toNat) s.2.1 s.2.2 0) (.ret, dlRX s) := left_of (b := false) (by kernel_rfl)
theorem callAt_low {P : Program} {f : FuncId} {args : List A} {h : Hp} {v : A} {h' : Hp} {l : Nat} (hl : l ≤ h'.low) (hc : CallAt P f args h v h') : CallAt P f args h v { h' with low := l } := by
 intro E w vals rh ha
 refine (hc E w vals rh ha).mono ?_
 rintro e w' ⟨x, E', rfl, hv, s⟩
 refine ⟨x, E', rfl, hv, ⟨s.rh.nlim, s.rh.dom, s.rh.lt, s.rh.blk, s.rh.inj, s.rh.glob, s.rh.lp⟩, ⟨s.fr.ext, s.fr.os, s.fr.tape, s.fr.output, s.fr.size, fun b hb hno => s.fr.keep b hb fun id p hp he => Nat.lt_of_lt_of_le (hno id p hp he) hl, fun id p hp => ?_, s.fr.oth⟩, s.next, Nat.le_trans hl s.low, s.globs, s.lp⟩
 rcases s.fr.new id p hp with h | ⟨h, h' | ⟨id0, p0, a1, a2, a3⟩⟩
 ·exact .inl h
 ·exact .inr ⟨h, .inl h'⟩
 ·exact .inr ⟨h, .inr ⟨id0, p0, a1, a2, Nat.le_trans hl a3⟩⟩
theorem del_call (hn : n ≤ 1000000) : CallAt Tryz.prog 117 [slO 0 2 n, delFn] (hpO n z1 z2) (slO 0 2 (delS z1 z2 n).1) (hpO (delS z1 z2 n).1 (delS z1 z2 n).2.1 (delS z1 z2 n).2.2 0) := by
 have c0 : ((Nat.ble n n && true) && true) = true := by rw [bleZ (Nat.le_refl n)]; rfl
 have hz : (Nat.ble [slO 0 2 n, delFn].length (Tryz.f117).ntmps && Nat.ble [slO 0 2 n, delFn].length lim) = true := by kernel_rfl
 cases hf : fstO (nilP z1 z2) n 0 with
 | none =>
  obtain ⟨d1, d2, d3⟩ := delS_all n fun j hj => fstO_none hf j (by omega) (by omega)
  rw [d1, show (delS z1 z2 n).2.1 = z1 from funext d2, show (delS z1 z2 n).2.2 = z2 from funext d3]
  refine callAt_low (h' := hpO n z1 z2) (Nat.zero_le _) ?_
  refine call_baseW (rec := dlRe) dlRe_ok (c := bodyOf Tryz.f117) (fn := Tryz.f117) Tryz.func117 (by kernel_rfl) hz (false, true) 0 [0, 1, 5, 6] [4] (sB := dlB n z1 z2) (by kernel_rfl) (t := dlO n z1 z2) (dlO_eq n z1 z2) (dlO_into n z1 z2) (dlO_fits n z1 z2) ?_
  have e : fstI (nilP z1 z2) n = -1 := by unfold fstI; rw [hf]
  refine sk_need c0 (sk_need (bleZ hn) (sk_yes (by rw [e]; rfl) (sk_leaf (cutW_dn (dl_left0 n z1 z2)))))
 | some i =>
  obtain ⟨_, hi, hni, hpre⟩ := fstO_some hf
  obtain ⟨d1, d2, d3⟩ := delS_all i fun j hj => hpre j (by omega) hj
  have hd : delS z1 z2 (i + 1) = (i, z1, z2) := by
   have h1 : delS z1 z2 (i + 1) = match nilP z1 z2 i with | true => delS z1 z2 i | false => pushT (delS z1 z2 i) (z1 i) (z2 i) := rfl
   rw [h1, hni]
   show delS z1 z2 i = _
   exact Prod.ext d1 (Prod.ext (funext d2) (funext d3))
  have hle := delS_le z1 z2 n
  have e : fstI (nilP z1 z2) n = (i : Int) := by unfold fstI; rw [hf]
  have hL := dl_left n (z1 := z1) (z2 := z2) (delS z1 z2 n)
  rw [Int.toNat_natCast, Nat.sub_zero, Nat.zero_add] at hL
  refine call_baseW (rec := dlRe) dlRe_ok (c := bodyOf Tryz.f117) (fn := Tryz.f117) Tryz.func117 (by kernel_rfl) hz (false, true) 1 [0, 1, 5, 6] [4] (sB := dlB n z1 z2) (by kernel_rfl) (t := dlO n z1 z2) (dlO_eq n z1 z2) (dlO_into n z1 z2) (dlO_fits n z1 z2) ?_
  refine sk_need c0 (sk_need (bleZ hn) (sk_no (by rw [e, beq_eq_false_iff_ne]; omega) (sk_leaf ?_)))
  have hl := dl_loop n z1 z2 hn (i + 1) (by omega)
  rw [hd] at hl
  refine ⟨_, true, [], [4], comesF_low (l := 0) (Nat.zero_le _) (comesF_stEq ?_ hl), fun q hq => ?_⟩
  ·unfold dlH0
   rw [e, wrap_succ (by omega)]
   rfl
  ·subst hq
   show (evW2 dlRe true (bodyOf Tryz.f117) (pathF Tryz.f117) [] [4] (dlB n z1 z2) (.exit 0, dlX n (delS z1 z2 n))).All _
   rw [dlE_eq]
   refine all_into (dlE_into n z1 z2 _) (dlE_fits n z1 z2 _) (SkLeads.all ?_)
   refine sk_need ?_ (sk_need ?_ (sk_need ?_ (sk_leaf (cutW_dn hL))))
   ·simp only [Bool.and_eq_true, decide_eq_true_eq]; omega
   ·rw [Int.toNat_natCast, Int.toNat_natCast]; exact bleZ (by omega)
   ·simp only [Bool.and_eq_true, decide_eq_true_eq]; omega
end
abbrev Gd := (Nat → Int) → (Nat → Int) → Nat → T3
def delSp (g : Gd) : Spec := fun args h => match args with
 | [.one (.sl true id 0 2 0 n), .one (.fn c [])] => match Nat.beq c 118, h.blk id with
  | true, some ⟨false, e, .rows n' [.int .i64 z1, .int .i64 z2]⟩ => match Nat.beq e 152 with
   | true => .need (Nat.beq n n' && Nat.ble n 1000000) ((Hp.alloc { h with heap := h.heap.set D id none, low := min h.low id } ⟨false, e, .rows (g z1 z2 n).1 (tkC (g z1 z2 n).2.1 (g z1 z2 n).2.2)⟩).bind fun p => .leaf (.one (.sl true p.1 0 2 0 (g z1 z2 n).1), p.2))
   | false => .fail 451
  | _, _ => .fail 451
 | _ => .fail 451
theorem delSp_ok : SpecOk Tryz.prog 117 (delSp delS) := by
 intro args h v h' hr E w vals rh hargs
 unfold delSp at hr
 split at hr
 ·rename_i id n c
  split at hr
  ·rename_i e n' z1 z2 hc hb
   obtain rfl := Nat.eq_of_beq_eq_true hc
   split at hr
   ·rename_i he
    obtain rfl := Nat.eq_of_beq_eq_true he
    obtain ⟨hok, hr2⟩ := Tree.need_some hr
    clear hr
    rw [Bool.and_eq_true] at hok
    obtain ⟨hok1, hok2⟩ := hok
    have hn := Nat.le_of_ble_eq_true hok2
    obtain rfl := Nat.eq_of_beq_eq_true hok1
    obtain ⟨⟨id2, h1⟩, hal, hr3⟩ := Tree.bind_some hr2
    simp only [Tree.run, Option.some.injEq, Prod.mk.injEq] at hr3
    obtain ⟨rfl, rfl⟩ := hr3
    match vals, hargs with
    | [p1, p2], ⟨hy1, hy2, _⟩ =>
     obtain ⟨pb, hE, hblk⟩ := rh.blk id _ hb
     have hid : id < lim := by
      rcases Nat.lt_or_ge id h.next with hlt | hge
      ·exact Nat.lt_of_lt_of_le hlt rh.nlim
      ·rw [rh.dom id hge] at hE; cases hE
     obtain ⟨E0, hE0⟩ : ∃ E0 : Env, ∀ i, E0 i = if i = 0 then E id else none := ⟨_, fun _ => rfl⟩
     have h00 : E0 0 = some pb := by rw [hE0, if_pos rfl, hE]
     have hof : ∀ i q, E0 i = some q → i = 0 ∧ q = pb := fun i q hq => by
      rw [hE0] at hq
      split at hq
      ·rename_i h0
       rw [hE] at hq
       injection hq with hq
       exact ⟨h0, hq.symm⟩
      ·cases hq
     have hg : ∀ i b, (hpO n z1 z2).heap.get D i = some b → i = 0 ∧ b = ⟨false, 152, .rows n (tkC z1 z2)⟩ := fun i b hi => by
      have hi : (Tr.set D (Tr.nil : Tr Blk) 0 (some ⟨false, 152, .rows n (tkC z1 z2)⟩)).get D i = some b := hi
      rw [Tr.get_set_D _ _ _ _ (by decide)] at hi
      split at hi
      ·rename_i h0
       injection hi with hi
       exact ⟨h0.symm, hi.symm⟩
      ·rw [Tr.get_nil] at hi; cases hi
     have anyE : ∀ {E1 E2 : Env} {w1 : World} {q : Nat × Nat × Nat} {m : Nat} {a b : Nat → Int}, blkIs E1 w1 q ⟨false, 152, .rows m (tkC a b)⟩ → blkIs E2 w1 q ⟨false, 152, .rows m (tkC a b)⟩ := fun hh => oldB_is (n := 0) (fun _ _ h => by omega) rfl hh
     have rh0 : RH E0 (hpO n z1 z2) w := ⟨by show 1 ≤ lim; decide, fun i hi => by
       have hi : 1 ≤ i := hi
       rw [hE0, if_neg (by omega)], fun i q hq => by obtain ⟨_, rfl⟩ := hof i q hq; exact rh.lt id _ hE, fun i b hi => by obtain ⟨rfl, rfl⟩ := hg i b hi; exact ⟨pb, h00, anyE hblk⟩, fun i i' b b' q q' e1 e2 _ _ _ _ => by rw [(hg i b e1).1, (hg i' b' e2).1], (fun _ _ e => by cases e), (fun _ _ e => by cases e)⟩
     have ha0 : All2 (A.Is E0) [slO 0 2 n, delFn] [p1, p2] := by
      refine ⟨?_, ?_, trivial⟩
      ·rcases hy1 with ⟨b, s, o, cap, he, r⟩ | hh
       ·exact .inl ⟨b, s, o, cap, by rw [h00]; exact hE.symm.trans he, r⟩
       ·exact .inr hh
      ·obtain ⟨vs, hx, hvs⟩ := hy2
       cases vs with
       | nil => exact ⟨[], hx, trivial⟩
       | cons _ _ => exact hvs.elim
     refine (del_call n z1 z2 hn E0 w _ rh0 ha0).mono ?_
     rintro ex w' ⟨x, E', rfl, hv, s⟩
     generalize hd : delS z1 z2 n = d at hv s hal ⊢
     obtain ⟨m, f1, f2⟩ := d
     have h0' : E' 0 = some pb := s.fr.ext 0 pb h00
     obtain ⟨pb', hpb', hblk'⟩ := s.rh.blk 0 ⟨false, 152, .rows m (tkC f1 f2)⟩ (by
      show (Tr.set D (Tr.nil : Tr Blk) 0 (some _)).get D 0 = _
      rw [Tr.get_set_D _ _ _ _ (by decide), if_pos rfl])
     obtain rfl : pb' = pb := Option.some.inj (hpb'.symm.trans h0')
     obtain ⟨hst, hE'⟩ := name_stpG (b := ⟨false, 152, .rows m (tkC f1 f2)⟩) (g := pb'.1) (sz := pb'.2) (w1 := w') (h1 := { h with heap := h.heap.set D id none, low := min h.low id }) (fun k => k = pb'.1) rh rfl rfl rfl
      (fun k hk o ho => by
       subst hk
       obtain ⟨arr, fz, ⟨ty, h1, _⟩, _⟩ := hblk.cells rfl
       rw [h1] at ho; injection ho with ho; subst ho; rfl) (Nat.min_le_left _ _)
      (fun i b' hb' => by
       have hb3 : (Tr.set D h.heap id none).get D i = some b' := hb'
       rw [Tr.get_set_D _ _ _ _ hid] at hb3
       split at hb3
       ·cases hb3
       ·rename_i hne'
        refine ⟨hb3, fun pp hpp => ?_⟩
        have hpn : pp.1 ≠ pb'.1 := fun he => hne' (rh.inj id i _ b' _ pp hb hb3 rfl hE hpp he.symm)
        exact ⟨hpn, hpn⟩)
      (s.rh.lt 0 _ h0') (fun E2 _ => anyE hblk')
      (fun k hk hne => s.fr.keep k hk fun i q hq hq1 => by
       obtain ⟨_, rfl⟩ := hof i q hq
       exact absurd hq1.symm hne)
      s.fr.size s.fr.os s.fr.tape s.fr.output (fun k hk => ⟨id, _, hE, hk.symm, Nat.min_le_right _ _⟩) (.inr rfl) hal
     refine ⟨x, _, rfl, ?_, hst⟩
     rcases hv with ⟨b, s1, o, cap, he, r⟩ | hh
     ·refine .inl ⟨b, s1, o, cap, ?_, r⟩
      rw [hE', ← h0']
      exact he
     ·exact .inr hh
   ·cases hr
  ·cases hr
 ·cases hr
end Go.Ev
