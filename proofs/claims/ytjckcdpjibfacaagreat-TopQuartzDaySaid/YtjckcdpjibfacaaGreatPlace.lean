/- The iterator over a grid's places, walked ('for i, p := range g.places()'), at a grid of one row. Conditions: none. -/
import Derived.Test.YtjckcdpjibfacaaGreatEvRun
import Derived.Test.YtjckcdpjibfacaaGreatChecked
import Derived.RangeFuncBox
import Derived.RangeFuncLeaves
import Derived.Shelf.Abstract
import Derived.WalkKit
import Derived.OwnWalkIn
import Derived.TacticsInMore
import Derived.LoopNIn
import Derived.LoopIn
import Derived.BigRegionIn
import Derived.Test.YtjckcdpjibfacaaGreatTick
namespace Go.Proofs
open Go.RowKit Go.Shelf Go.Ev
attribute [local go_sem] Oper.semAt_some
set_option maxRecDepth 100000 in
set_option maxHeartbeats 2000000 in
theorem Tryz.places_in (l B : Nat) (n : Nat) (hn0 : 0 < n) (hn : n ≤ 1000) (J : Nat → World → Prop) (X : World → Prop)
  (hbox : ∀ k W, J k W → W.cell? ⟨B, 0, none⟩ = some (.int .i64 n) ∧ W.cell? ⟨B, 1, none⟩ = some (.int .i64 1))
  (hY : ∀ k W, k < n → J k W → YieldAt Fence.wide 0 Tryz.prog l #[.int .i64 k, .agg #[.int .i64 k, .int .i64 0]] W.drew fun e W' =>
   (e = .returned (.bool true) ∧ J (k + 1) W') ∨ (e = .returned (.bool false) ∧ X W'))
  (W : World) (h0 : J 0 W) :
  Calls Tryz.prog 97 #[.func (.yield l) #[] #[], .pointer (some ⟨B, 0, none⟩)] W fun e W' => (∃ v, e = .returned v) ∧ (J n W' ∨ X W') := by
 refine (callsIn_wide (n := 1)).1 ?_
 refine callsIn_of_wp Tryz.func97 rfl trivial ?_ rfl
 simp only [Tryz.ntmps97, List.size_toArray, List.length_cons, List.length_nil, Nat.reduceAdd, Nat.reduceSub, Array.replicate_succ, Array.replicate_zero, List.push_toArray, List.append_toArray, List.nil_append, List.cons_append]
 obtain ⟨hb0, hb1⟩ := hbox 0 W h0
 gi_wp2
 gi_loopw [9] (fun vi wr => ∃ k : Nat, vi = .int .i64 k ∧ k ≤ n ∧ J k wr) (fun vi _ => (n - intOf vi).toNat)
 case atStart => exact ⟨0, by simp, Nat.zero_le _, h0⟩
 case round =>
  obtain ⟨k, rfl, hk, hJs⟩ := hrel
  obtain ⟨hc0, hc1⟩ := hbox k wr hJs
  by_cases hlt : k < n
  ·have hz : ¬ n = 0 := by omega
   have hmod : (k : Int).tmod n = k := Int.tmod_eq_of_lt (by omega) (by omega)
   have hdiv : (k : Int).tdiv n = 0 := Int.tdiv_eq_zero_of_lt (by omega) (by omega)
   obtain ⟨fn, tmps, assign, body, hy, hR⟩ := hY k wr hlt hJs
   have hy : Sem.run Tryz.prog (Instr.yield l #[.int .i64 k, .agg #[.int .i64 k, .int .i64 (IntKind.i64.wrap 0)]]) wr.drew = Result.ok (Next.round l fn tmps assign body) wr.drew := hy
   gi_wp2
   refine wpIn_region_any (by kernel_rfl) ?_
   change wpAnyIn _ _ _ _ _ _ _ _ _ (World.drew _)
   refine wpAnyIn_take (i := 0) (v := ?_) rfl rfl (by kernel_rfl) (by kernel_rfl) (by kernel_rfl) (fun _ _ _ h => h) ⟨Or.inl ⟨by rfl, ?_⟩, fun _ => rfl⟩ ?_
   rotate_left
   ·(intro w; go_simp) <;> with_reducible rfl
   refine wpAnyIn_take (i := 1) (v := ?_) rfl rfl (by kernel_rfl) (by kernel_rfl) (by kernel_rfl) (fun _ _ _ h => h) ⟨Or.inl ⟨by rfl, ?_⟩, fun _ => rfl⟩ ?_
   rotate_left
   ·(intro w; go_simp) <;> with_reducible rfl
   refine wpAnyIn_take (i := 2) (v := ?_) rfl rfl (by kernel_rfl) (by kernel_rfl) (by kernel_rfl) (fun _ _ _ h => h) ⟨Or.inl ⟨by rfl, ?_⟩, fun _ => rfl⟩ ?_
   rotate_left
   ·(intro w; go_simp) <;> with_reducible rfl
   refine wpAnyIn_take (i := 3) (v := ?_) rfl rfl (by kernel_rfl) (by kernel_rfl) (by kernel_rfl) (fun _ _ _ h => h) ⟨Or.inl ⟨by rfl, ?_⟩, fun _ => rfl⟩ ?_
   rotate_left
   ·(intro w; go_simp) <;> with_reducible rfl
   refine wpAnyIn_take (i := 6) (v := ?_) rfl rfl (by kernel_rfl) (by kernel_rfl) (by kernel_rfl) (fun _ _ _ h => h) ⟨Or.inl ⟨by rfl, ?_⟩, fun _ => rfl⟩ ?_
   rotate_left
   ·(intro w; go_simp) <;> with_reducible rfl
   refine wpAnyIn_take (i := 7) (v := ?_) rfl rfl (by kernel_rfl) (by kernel_rfl) (by kernel_rfl) (fun _ _ _ h => h) ⟨Or.inl ⟨by rfl, ?_⟩, fun _ => rfl⟩ ?_
   rotate_left
   ·(intro w; go_simp) <;> with_reducible rfl
   refine wpAnyIn_ready (rs := [4, 8]) (by kernel_rfl) (by simp) ?_
   refine AllReadyIn.cons rfl (fun K hK => ?_) ?_
   ·go_simp
    refine hK _ _ ?_
    clear hK K
    refine wpAnyIn_ready (rs := [5, 8]) (by kernel_rfl) (by simp) ?_
    refine AllReadyIn.cons rfl (fun K hK => ?_) ?_
    ·go_simp
     refine hK _ _ ?_
     clear hK K
     refine wpAnyIn_ready (rs := [8]) (by kernel_rfl) (by simp) ?_
     refine AllReadyIn.cons rfl (fun K hK => ?_) ?_
     ·go_simp
      refine hK _ _ ?_
      clear hK K
      refine wpAnyIn_take (i := 9) (v := ?_) rfl rfl (by kernel_rfl) (by kernel_rfl) (by kernel_rfl) (fun _ _ _ h => h) ⟨Or.inl ⟨by rfl, ?_⟩, fun _ => rfl⟩ ?_
      rotate_left
      ·(intro w; go_simp) <;> with_reducible rfl
      refine wpAnyIn_take (i := 10) (v := ?_) rfl rfl (by kernel_rfl) (by kernel_rfl) (by kernel_rfl) (fun _ _ _ h => h) ⟨Or.inl ⟨by rfl, ?_⟩, fun _ => rfl⟩ ?_
      rotate_left
      ·(intro w; go_simp) <;> with_reducible rfl
      refine wpAnyIn_ready (rs := [11]) (by kernel_rfl) (by simp) ?_
      refine AllReadyIn.cons rfl (fun K hK => ?_) ?_
      ·go_simp
       refine hR.mono ?_
       rintro e W3 (⟨rfl, hJ3⟩ | ⟨rfl, hX3⟩)
       ·refine hK _ _ ?_
        clear hK K
        refine wpAnyIn_take (i := 12) (v := ?_) rfl rfl (by kernel_rfl) (by kernel_rfl) (by kernel_rfl) (fun _ _ _ h => h) ⟨Or.inl ⟨by rfl, ?_⟩, fun _ => rfl⟩ ?_
        rotate_left
        ·(intro w; go_simp) <;> with_reducible rfl
        refine wpAnyIn_done (by kernel_rfl) ?_ _
        gi_wp2
        go_roundw
        case rel => exact ⟨k + 1, by simp, by omega, hJ3⟩
        case measure => simp only [intOf]; omega
       ·refine hK _ _ ?_
        clear hK K
        refine wpAnyIn_take (i := 12) (v := ?_) rfl rfl (by kernel_rfl) (by kernel_rfl) (by kernel_rfl) (fun _ _ _ h => h) ⟨Or.inl ⟨by rfl, ?_⟩, fun _ => rfl⟩ ?_
        rotate_left
        ·(intro w; go_simp) <;> with_reducible rfl
        refine wpAnyIn_done (by kernel_rfl) ?_ _
        gi_wp2
        refine bodyPost_ret (results_none rfl _ _ _) rfl ?_
        exact ⟨⟨_, rfl⟩, .inr hX3⟩
      exact AllReadyIn.nil
     exact AllReadyIn.nil
    refine AllReadyIn.cons rfl (fun K hK => ?_) ?_
    ·go_simp
     refine hK _ _ ?_
     clear hK K
     refine wpAnyIn_take (i := 9) (v := ?_) rfl rfl (by kernel_rfl) (by kernel_rfl) (by kernel_rfl) (fun _ _ _ h => h) ⟨Or.inl ⟨by rfl, ?_⟩, fun _ => rfl⟩ ?_
     rotate_left
     ·(intro w; go_simp) <;> with_reducible rfl
     refine wpAnyIn_ready (rs := [5]) (by kernel_rfl) (by simp) ?_
     refine AllReadyIn.cons rfl (fun K hK => ?_) ?_
     ·go_simp
      refine hK _ _ ?_
      clear hK K
      refine wpAnyIn_take (i := 10) (v := ?_) rfl rfl (by kernel_rfl) (by kernel_rfl) (by kernel_rfl) (fun _ _ _ h => h) ⟨Or.inl ⟨by rfl, ?_⟩, fun _ => rfl⟩ ?_
      rotate_left
      ·(intro w; go_simp) <;> with_reducible rfl
      refine wpAnyIn_ready (rs := [11]) (by kernel_rfl) (by simp) ?_
      refine AllReadyIn.cons rfl (fun K hK => ?_) ?_
      ·go_simp
       refine hR.mono ?_
       rintro e W3 (⟨rfl, hJ3⟩ | ⟨rfl, hX3⟩)
       ·refine hK _ _ ?_
        clear hK K
        refine wpAnyIn_take (i := 12) (v := ?_) rfl rfl (by kernel_rfl) (by kernel_rfl) (by kernel_rfl) (fun _ _ _ h => h) ⟨Or.inl ⟨by rfl, ?_⟩, fun _ => rfl⟩ ?_
        rotate_left
        ·(intro w; go_simp) <;> with_reducible rfl
        refine wpAnyIn_done (by kernel_rfl) ?_ _
        gi_wp2
        go_roundw
        case rel => exact ⟨k + 1, by simp, by omega, hJ3⟩
        case measure => simp only [intOf]; omega
       ·refine hK _ _ ?_
        clear hK K
        refine wpAnyIn_take (i := 12) (v := ?_) rfl rfl (by kernel_rfl) (by kernel_rfl) (by kernel_rfl) (fun _ _ _ h => h) ⟨Or.inl ⟨by rfl, ?_⟩, fun _ => rfl⟩ ?_
        rotate_left
        ·(intro w; go_simp) <;> with_reducible rfl
        refine wpAnyIn_done (by kernel_rfl) ?_ _
        gi_wp2
        refine bodyPost_ret (results_none rfl _ _ _) rfl ?_
        exact ⟨⟨_, rfl⟩, .inr hX3⟩
      exact AllReadyIn.nil
     exact AllReadyIn.nil
    exact AllReadyIn.nil
   refine AllReadyIn.cons rfl (fun K hK => ?_) ?_
   ·go_simp
    refine hK _ _ ?_
    clear hK K
    refine wpAnyIn_take (i := 9) (v := ?_) rfl rfl (by kernel_rfl) (by kernel_rfl) (by kernel_rfl) (fun _ _ _ h => h) ⟨Or.inl ⟨by rfl, ?_⟩, fun _ => rfl⟩ ?_
    rotate_left
    ·(intro w; go_simp) <;> with_reducible rfl
    refine wpAnyIn_ready (rs := [4]) (by kernel_rfl) (by simp) ?_
    refine AllReadyIn.cons rfl (fun K hK => ?_) ?_
    ·go_simp
     refine hK _ _ ?_
     clear hK K
     refine wpAnyIn_ready (rs := [5]) (by kernel_rfl) (by simp) ?_
     refine AllReadyIn.cons rfl (fun K hK => ?_) ?_
     ·go_simp
      refine hK _ _ ?_
      clear hK K
      refine wpAnyIn_take (i := 10) (v := ?_) rfl rfl (by kernel_rfl) (by kernel_rfl) (by kernel_rfl) (fun _ _ _ h => h) ⟨Or.inl ⟨by rfl, ?_⟩, fun _ => rfl⟩ ?_
      rotate_left
      ·(intro w; go_simp) <;> with_reducible rfl
      refine wpAnyIn_ready (rs := [11]) (by kernel_rfl) (by simp) ?_
      refine AllReadyIn.cons rfl (fun K hK => ?_) ?_
      ·go_simp
       refine hR.mono ?_
       rintro e W3 (⟨rfl, hJ3⟩ | ⟨rfl, hX3⟩)
       ·refine hK _ _ ?_
        clear hK K
        refine wpAnyIn_take (i := 12) (v := ?_) rfl rfl (by kernel_rfl) (by kernel_rfl) (by kernel_rfl) (fun _ _ _ h => h) ⟨Or.inl ⟨by rfl, ?_⟩, fun _ => rfl⟩ ?_
        rotate_left
        ·(intro w; go_simp) <;> with_reducible rfl
        refine wpAnyIn_done (by kernel_rfl) ?_ _
        gi_wp2
        go_roundw
        case rel => exact ⟨k + 1, by simp, by omega, hJ3⟩
        case measure => simp only [intOf]; omega
       ·refine hK _ _ ?_
        clear hK K
        refine wpAnyIn_take (i := 12) (v := ?_) rfl rfl (by kernel_rfl) (by kernel_rfl) (by kernel_rfl) (fun _ _ _ h => h) ⟨Or.inl ⟨by rfl, ?_⟩, fun _ => rfl⟩ ?_
        rotate_left
        ·(intro w; go_simp) <;> with_reducible rfl
        refine wpAnyIn_done (by kernel_rfl) ?_ _
        gi_wp2
        refine bodyPost_ret (results_none rfl _ _ _) rfl ?_
        exact ⟨⟨_, rfl⟩, .inr hX3⟩
      exact AllReadyIn.nil
     exact AllReadyIn.nil
    exact AllReadyIn.nil
   exact AllReadyIn.nil
  ·obtain rfl : k = n := by omega
   gi_wp2
   go_end0
   exact ⟨⟨_, rfl⟩, .inl hJs⟩
end Go.Proofs
namespace Go.Ev
open Go
def midP (st : St) (p p2 : Nat) (v : Int) : St := { st with env := (st.env.set D p (some (.one (.lit (.int .i64 v))))).set D p2 (some (.agg [.lit (.int .i64 v), .lit (.int .i64 0)])) }
theorem comesF_places {rec : Code → St → Tree (X × St)} (hrec : RecOk Proofs.Tryz.prog rec) {sB : St} (hlow : sB.hp.low = sB.hp.next) (hlp0 : sB.hp.lp = none) (gt p p2 : Nat) (assign body : Code) (bt : Nat) (ty : TypeId) (c : C) (m : Nat) (hm0 : 0 < m) (hm : m ≤ 1000)
  (slots : List Nat) (hslots : (slots.all fun t => Nat.blt t lim && (!Nat.beq t p && !Nat.beq t p2)) = true) (hpl : p < lim) (hpz : p < sB.size) (hpl2 : p2 < lim) (hpz2 : p2 < sB.size) (hpp : ¬ p2 = p)
  (head : Nat → St) (φ : X × St → Prop)
  (hg : ∀ k, k ≤ m → (head k).env.get D gt = some (.one (.fn 97 [(bt, 0, 1, 0)])))
  (hb0 : ∀ k, k ≤ m → (head k).hp.blk bt = some ⟨false, ty, .flat [.lit (.int .i64 m), .lit (.int .i64 1), c]⟩)
  (hround : ∀ k : Nat, k < m → (linT rec assign body slots sB (midP (head k) p p2 k)).All fun q => match q.1 with | .normal => q.2.Le (head (k + 1)) | _ => φ q)
  (hend : φ (.normal, head m)) : ComesF Proofs.Tryz.prog (.rangeFunc (.tmp gt) #[p, p2] assign body) sB (head 0) φ := by
 intro ro ds0 E0 w0 ds E a w Q rh0 r s0 hz hmk hro hq
 refine wpIn_rangeFunc fun fn hfn => ?_
 obtain ⟨l, mark, w1, kk, he, hl, hl1, hold, hsize, hos, htape, hout, hmarks⟩ := enterLoop_ok (P := Proofs.Tryz.prog) (hro.oth s0.fr.oth) fn a.tmps #[p, p2] assign body
 obtain ⟨vs, hgv, hcaps⟩ := r.env gt _ (hg 0 (Nat.zero_le _))
 obtain ⟨v, rfl⟩ : ∃ v, vs = [v] := by
  cases vs with
  | nil => exact hcaps.elim
  | cons v vs =>
   cases vs with
   | nil => exact ⟨v, rfl⟩
   | cons _ _ => exact hcaps.2.elim
 have hcap := hcaps.1
 obtain ⟨B, o, rfl⟩ : ∃ B o, v = .pointer (some ⟨B, o, none⟩) := let ⟨b, s, _, e⟩ := hcap; ⟨b, _, e⟩
 obtain ⟨rfl, hflat⟩ := flat_at r.rh (hb0 0 (Nat.zero_le _)) hcap
 have hw0l : w0.heap.size ≤ l := Nat.le_trans s0.fr.size hl
 let rl : Loop := { state := .ready, pending := none, fn, tmps := a.tmps, params := #[p, p2], assign, body, defers := kk }
 let J : Nat → World → Prop := fun k W => k ≤ m ∧ ∃ E', Stp E0 sB.hp w0 E' (head k).hp W ∧ (∀ t x, (head k).env.get D t = some x → x.Is E' (a.tmps.getD t undef)) ∧ (head k).size = sB.size ∧ W.heap[l]? = some (.loop rl) ∧
  ∀ (b : Nat) (ob : Obj), w1.heap[b]? = some ob → isFix ob = true → b ≠ l → W.heap[b]? = some ob
 let Xx : World → Prop := fun W => ∃ x st E', x ≠ X.normal ∧ φ (x, st) ∧ Stp E0 sB.hp w0 E' st.hp W ∧ (∀ t y, st.env.get D t = some y → y.Is E' (a.tmps.getD t undef)) ∧ st.size = sB.size ∧ W.heap[l]? = some (.loop { rl with state := .done, pending := some (codeX x) }) ∧
  ∀ (b : Nat) (ob : Obj), w1.heap[b]? = some ob → isFix ob = true → b ≠ l → W.heap[b]? = some ob
 have hYY : ∀ (k : Nat) (W : World), k < m → J k W → YieldAt Fence.wide 0 Proofs.Tryz.prog l #[.int .i64 k, .agg #[.int .i64 k, .int .i64 0]] W.drew fun e W' => (e = .returned (.bool true) ∧ J (k + 1) W') ∨ (e = .returned (.bool false) ∧ Xx W') := by
  intro k W0 hk hJ
  obtain ⟨_, E', hst, henv, hzk, hW1l, hoth⟩ := hJ
  have s1 : Stp E' (head k).hp W0 E' (midP (head k) p p2 k).hp W0.drew := Stp.drew hst.rh
  have hW1l : W0.drew.heap[l]? = some (.loop rl) := s1.fr.oth _ _ hW1l rfl
  have hlpk : (head k).hp.lp = none := hst.lp.trans hlp0
  have hy := run_yield (P := Proofs.Tryz.prog) (args := #[.int .i64 k, .agg #[.int .i64 k, .int .i64 0]]) hW1l rfl
  refine ⟨_, _, _, _, hy, roundIn_of_wpIn trivial ?_⟩
  have htm : ((rl.params.zip #[Value.int .i64 k, .agg #[.int .i64 k, .int .i64 0]]).foldl (fun tmps (t, a) => tmps.setIfInBounds t a) rl.tmps) = (a.tmps.setIfInBounds p (.int .i64 k)).setIfInBounds p2 (.agg #[.int .i64 k, .int .i64 0]) := by
   show (#[p, p2].zip #[Value.int .i64 k, .agg #[.int .i64 k, .int .i64 0]]).foldl _ a.tmps = _
   simp
  have hsz0 : a.tmps.size = sB.size := r.size.trans hz
  have rm : R [] E' (midP (head k) p p2 k) { tmps := (a.tmps.setIfInBounds p (.int .i64 k)).setIfInBounds p2 (.agg #[.int .i64 k, .int .i64 0]), defers := [] } W0.drew := by
   refine ⟨s1.rh, rfl, ?_, fun t x hx => ?_⟩
   ·show ((a.tmps.setIfInBounds p _).setIfInBounds p2 _).size = (head k).size
    rw [Array.size_setIfInBounds, Array.size_setIfInBounds, hsz0, hzk]
   ·have hx : (((head k).env.set D p (some (.one (.lit (.int .i64 k))))).set D p2 (some (.agg [.lit (.int .i64 k), .lit (.int .i64 0)]))).get D t = some x := hx
    rw [Tr.get_set_D _ _ _ _ hpl2, Tr.get_set_D _ _ _ _ hpl] at hx
    have hget : ((a.tmps.setIfInBounds p (.int .i64 k)).setIfInBounds p2 (.agg #[.int .i64 k, .int .i64 0])).getD t undef = if p2 = t then .agg #[.int .i64 k, .int .i64 0] else if p = t then .int .i64 k else a.tmps.getD t undef := by
     rw [Array.getD_eq_getD_getElem?, Array.getElem?_setIfInBounds, Array.getElem?_setIfInBounds, Array.getD_eq_getD_getElem?]
     split
     ·rename_i e; subst e; simp [hsz0, hpz2]
     ·split
      ·rename_i e; subst e; simp [hsz0, hpz]
      ·rfl
    show x.Is E' (((a.tmps.setIfInBounds p _).setIfInBounds p2 _).getD t undef)
    rw [hget]
    split at hx
    ·rename_i e
     injection hx with hx; subst hx; subst e
     rw [if_pos rfl]
     exact ⟨[.int .i64 k, .int .i64 0], rfl, ⟨rfl, rfl⟩, ⟨rfl, rfl⟩, trivial⟩
    ·rename_i e
     rw [if_neg e]
     split at hx
     ·rename_i e
      injection hx with hx; subst hx; subst e
      rw [if_pos rfl]
      exact ⟨rfl, rfl⟩
     ·rename_i e
      rw [if_neg e]
      exact henv t x hx
  rw [htm]
  have hT := hround k hk
  unfold linT at hT
  refine hrec assign _ (some l) [] E' _ W0.drew _ rm (fun l' hl' => by injection hl' with hl'; subst hl'; exact ⟨_, hW1l⟩) (Tree.All_mono (fun q hq D1 E1 a1 w2 r1 sA z1 _ => ?_) (Tree.All_bind hT))
  obtain ⟨x1, st1⟩ := q
  cases x1 with
  | exit i => exact hq.elim
  | ret => exact hq.elim
  | normal =>
   have hl2 : w2.heap[l]? = some (.loop rl) := sA.fr.oth _ _ hW1l rfl
   refine ⟨_, run_beginRound hl2 rfl, ?_⟩
   have hlp1 : st1.hp.lp = none := sA.lp.trans hlpk
   have S1 : Stp E0 sB.hp w0 E1 st1.hp w2 := (hst.trans s1).trans sA
   have S1' := shut_stp (.loop { rl with state := .busy }) S1 hlp1 hl2 rfl hw0l
   have hl2' : (w2.putObj l (.loop { rl with state := .busy })).heap[l]? = some (.loop { rl with state := .busy }) := World.putObj_heap_same (Array.getElem?_eq_some_iff.1 hl2).1
   refine hrec body st1 (some l) D1 E1 a1 _ _ ⟨S1'.rh, r1.defers, r1.size, r1.env⟩ (fun l' hl' => by injection hl' with hl'; subst hl'; exact ⟨_, hl2'⟩) (Tree.All_mono (fun q2 hq2 D2 E2 a2 w3 r2 s2 z2 _ => ?_) (Tree.All_bind hq))
   obtain ⟨x2, st2⟩ := q2
   simp only at hq2
   split at hq2
   ·rename_i hss
    have hq3 := Tree.All_bind hq2
    unfold canonT at hq3
    have S2 : Stp E0 sB.hp w0 E2 st2.hp w3 := S1'.trans s2
    have hz2 : st2.size = sB.size := (z2.trans z1).trans hzk
    have hslots1 : (slots.all fun t => Nat.blt t lim) = true := List.all_eq_true.2 fun t ht => by
     have := List.all_eq_true.1 hslots t ht
     rw [Bool.and_eq_true] at this
     exact this.1
    have hsame : ∀ t, t ∈ slots → a2.tmps.getD t undef = a.tmps.getD t undef := fun t ht => by
     have h5 := List.all_eq_true.1 hss t ht
     obtain ⟨y, z, hy1, hz1, huniq⟩ := sameP_val (s1.fr.ext.trans (sA.fr.ext.trans s2.fr.ext)) h5
     have hne : ¬ p = t ∧ ¬ p2 = t := by
      have := List.all_eq_true.1 hslots t ht
      simp only [Bool.and_eq_true, Bool.not_eq_true'] at this
      exact ⟨fun e => by subst e; simp at this, fun e => by subst e; simp at this⟩
     have hy2 : (((head k).env.set D p (some (.one (.lit (.int .i64 k))))).set D p2 (some (.agg [.lit (.int .i64 k), .lit (.int .i64 0)]))).get D t = some y := hy1
     rw [Tr.get_set_D _ _ _ _ hpl2, if_neg hne.2, Tr.get_set_D _ _ _ _ hpl, if_neg hne.1] at hy2
     exact huniq _ _ (henv t y hy2) (r2.env t z hz1)
    have hbut : ∀ (ob' : Obj) (b : Nat) (ob : Obj), w1.heap[b]? = some ob → isFix ob = true → b ≠ l → (w3.putObj l ob').heap[b]? = some ob := fun ob' b ob h1 h2 h3 => by
     refine (World.putObj_heap_other h3).trans (s2.fr.oth _ _ ((World.putObj_heap_other h3).trans (sA.fr.oth _ _ (s1.fr.oth _ _ (hoth b ob h1 h2 h3) h2) h2)) h2)
    have hl3 : w3.heap[l]? = some (.loop { rl with state := .busy }) := s2.fr.oth _ _ hl2' rfl
    have hl3' : l < w3.heap.size := (Array.getElem?_eq_some_iff.1 hl3).1
    have key : ∀ st', canonAt slots sB st2 = some st' → ∃ E3, R D2 E3 { st' with env := pickE slots st'.env } a2 w3 ∧ Stp E0 sB.hp w0 E3 st'.hp w3 ∧ st'.size = sB.size ∧ ∀ t y, (pickE slots st'.env).get D t = some y → y.Is E3 (a.tmps.getD t undef) := by
     intro st' hst'
     obtain ⟨E3, r3, s3, z3⟩ := canonAt_ok hst' hlow rh0 r2 S2 hz2
     have hpe : ∀ t y, (pickE slots st'.env).get D t = some y → y.Is E3 (a2.tmps.getD t undef) := fun t y hy => r3.env t y (pickE_sub hslots1 hy)
     refine ⟨E3, ⟨r3.rh, r3.defers, r3.size, hpe⟩, s3, z3, fun t y hy => ?_⟩
     rw [← hsame t (pickE_mem hslots1 hy)]
     exact hpe t y hy
    have hlast : ∀ st' : St, st'.hp.lp = sB.hp.lp → st'.hp.lp = none := fun _ h => h.trans hlp0
    cases x2 with
    | normal =>
     simp only at hq3
     split at hq3
     ·rename_i st' hst'
      obtain ⟨E3, r3, s3, z3, h3env⟩ := key st' hst'
      have hle : ({ st' with env := pickE slots st'.env } : St).Le (head (k + 1)) := hq3
      have hend := run_endRound (P := Proofs.Tryz.prog) none hl3
      refine ⟨_, _, hend, .inl ⟨rfl, by omega, E3, ?_, ?_, ?_, World.putObj_heap_same hl3', hbut _⟩⟩
      ·have hlp4 : (head (k + 1)).hp.lp = none := hle.lp.trans (hlast _ s3.lp)
       exact shut_stp _ (hle.stp r3 s3) hlp4 hl3 rfl hw0l
      ·exact (hle.r (a := { tmps := a.tmps, defers := D2 }) ⟨r3.rh, rfl, hsz0.trans (z3.symm), h3env⟩).env
      ·exact hle.size.trans z3
     ·exact hq3.elim
    | ret =>
     simp only at hq3
     split at hq3
     ·rename_i st' hst'
      obtain ⟨E3, r3, s3, z3, h3env⟩ := key st' hst'
      have hend := run_endRound (P := Proofs.Tryz.prog) (some .ret) hl3
      exact ⟨_, _, hend, .inr ⟨rfl, .ret, { st' with env := pickE slots st'.env }, E3, (by simp), hq3, shut_stp _ s3 (hlast _ s3.lp) hl3 rfl hw0l, h3env, z3, World.putObj_heap_same hl3', hbut _⟩⟩
     ·exact hq3.elim
    | exit i =>
     simp only at hq3
     split at hq3
     ·rename_i st' hst'
      obtain ⟨E3, r3, s3, z3, h3env⟩ := key st' hst'
      have hend := run_endRound (P := Proofs.Tryz.prog) (some (.exit i)) hl3
      exact ⟨_, _, hend, .inr ⟨rfl, .exit i, { st' with env := pickE slots st'.env }, E3, (by simp), hq3, shut_stp _ s3 (hlast _ s3.lp) hl3 rfl hw0l, h3env, z3, World.putObj_heap_same hl3', hbut _⟩⟩
     ·exact hq3.elim
   ·exact hq2.elim
 have S0 := grow_same r.rh hold hsize hos htape hout
 have hJ0 : J 0 w1 := ⟨Nat.zero_le _, E, s0.trans S0, r.env, hz, hl1, fun _ _ h _ _ => h⟩
 have hJbox : ∀ k W, J k W → W.cell? ⟨B, 0, none⟩ = some (.int .i64 m) ∧ W.cell? ⟨B, 1, none⟩ = some (.int .i64 1) := by
  rintro k W ⟨hk, E', hst, henv, _, _, _⟩
  obtain ⟨vs', hgv', hcaps'⟩ := henv gt _ (hg k hk)
  rw [hgv] at hgv'
  injection hgv' with _ _ e3
  have e4 : [Value.pointer (some ⟨B, 0, none⟩)] = vs' := by simpa using congrArg Array.toList e3
  subst e4
  obtain ⟨_, hfl⟩ := flat_at hst.rh (hb0 k hk) hcaps'.1
  obtain ⟨x0, hx0, hx0i⟩ := hfl 0 _ rfl
  obtain ⟨x1, hx1, hx1i⟩ := hfl 1 _ rfl
  have hx0i : x0 = .int .i64 m := hx0i.1
  have hx1i : x1 = .int .i64 1 := hx1i.1
  subst hx0i; subst hx1i
  exact ⟨hx0, hx1⟩
 have hcalls := Proofs.Tryz.places_in l B m hm0 hm J Xx hJbox hYY w1 hJ0
 have hbody : ∃ f, Proofs.Tryz.prog.funcs[97]? = some f ∧ f.body.isNone = false ∧ f.name ≠ "runtime.NumGoroutine" := ⟨_, Proofs.Tryz.func97, rfl, by decide⟩
 obtain ⟨f, hf, hb0, hn⟩ := hbody
 have hb' : ¬ f.body = none := by intro e0; rw [e0] at hb0; cases hb0
 have eg : ∀ args w, (callFunc 97 args).run Proofs.Tryz.prog w = .ok (.enter 97 args) w := fun args w => by simp [callFunc, hf, hn, hb']
 refine ⟨l, mark, w1, { target := .fn (.func 97) #[.pointer (some ⟨B, 0, none⟩)], args := #[.func (.yield l) #[] #[]] }, w1, 97, #[.func (.yield l) #[] #[], .pointer (some ⟨B, 0, none⟩)], w1, he, ?_, fun _ _ => trivial, ?_, fun h => (by cases h), callsG ro (hcalls.mono ?_)⟩
 ·have hgv' : a.eval (.tmp gt) = .func (.func 97) #[] #[.pointer (some ⟨B, 0, none⟩)] := hgv
  simp only [resolve, hgv']
  simp [go_sem]
 ·simp [invoke, go_sem, eg]
 ·have hmk2 : ∀ (W : World) (o : Obj), (∀ (b : Nat) (ob : Obj), w1.heap[b]? = some ob → isFix ob = true → b ≠ l → W.heap[b]? = some ob) → Marks w0 ds0 (mark ++ a.defers) (W.putObj l o) := fun W o hW => by
   have hO : Oth w (W.putObj l o) := fun b ob h1 h2 => by
    have hlt : b < w.heap.size := (Array.getElem?_eq_some_iff.1 h1).1
    exact (World.putObj_heap_other (by omega)).trans (hW b ob ((hold b hlt).trans h1) h2 (by omega))
   rw [r.defers]
   exact Marks.trans s0.fr.size hO hmk ⟨mark, rfl, hmarks.but hl1 fun b ob h1 h2 h3 => (World.putObj_heap_other h3).trans (hW b ob h1 h2 h3)⟩
  rintro e W ⟨⟨v, rfl⟩, hJ | hX⟩
  ·obtain ⟨_, E', hst, henv, hzk, hWl, hoth⟩ := hJ
   have hend' := run_endLoop (P := Proofs.Tryz.prog) hWl (by simp)
   have S := shut_stp (.loop { rl with state := .exhausted }) hst (hst.lp.trans hlp0) hWl rfl hw0l
   exact ⟨none, _, hend', hq _ hend (mark ++ a.defers) E' { a with defers := mark ++ a.defers } _ ⟨S.rh, rfl, (r.size.trans hz).trans hzk.symm, henv⟩ S hzk (hmk2 W _ hoth)⟩
  ·obtain ⟨x, st, E', hne, hφ, hst, henv, hzk, hWl, hoth⟩ := hX
   have hend' := run_endLoop (P := Proofs.Tryz.prog) hWl (by simp)
   have S := shut_stp (.loop { rl with state := .exhausted, pending := some (codeX x) }) hst (hst.lp.trans hlp0) hWl rfl hw0l
   have hQ := hq _ hφ (mark ++ a.defers) E' { a with defers := mark ++ a.defers } _ ⟨S.rh, rfl, (r.size.trans hz).trans hzk.symm, henv⟩ S hzk (hmk2 W _ hoth)
   refine ⟨some (codeX x), _, hend', ?_⟩
   cases x with
   | normal => exact absurd rfl hne
   | ret => exact wpIn_ret hQ
   | exit i => exact wpIn_exit hQ
end Go.Ev
