/- From the evaluator's word on a law to the row's statement: what the arguments are, what is asked behind the call. Conditions: none. -/
import Derived.Test.YtjckcdpjibfacaaGreatRows
import Derived.Test.YtjckcdpjibfacaaGreatLift
import Derived.ProofKit
import Derived.LaidMore
import Derived.LaidSub
import Derived.OpenShut
import Derived.Carry
import Derived.Stop.Joined
import Derived.Lib.LaidTab
import Derived.Deep.Strs
import Derived.Test.YtjckcdpjibfacaaGreatCsk
import Derived.ChangeSame
import Derived.Deep.Slices
namespace Go.Proofs.YtjckcdpjibfacaaGreat
open Go.ChangeShapes Go.WideShapes Go.ChangeAt Go.RowKit Go.Ev
set_option maxRecDepth 100000
theorem own : ownKnob Tryz.prog.godebug = none := by kernel_rfl
theorem rh_ro {W : World} {vs : List (Nat × List C)} {globs : List (Nat × Nat)} (hl : vs.length ≤ lim) (hg : ∀ g id, lookupN globs g = some id → ∃ cs, nth vs id = some (g, cs))
  (hv : ∀ i g cs, nth vs i = some (g, cs) → ∃ arr t fz, W.heap[g]? = some (.cells arr t fz) ∧ ∀ E, All2 (C.Is E) cs arr.toList) : ∃ E : Env, RH E (hpL (vs.map fun x => ⟨true, 0, .flat x.2⟩) globs) W := by
 refine ⟨fun i => (nth vs i).map fun x => (x.1, x.2.length, 0), ⟨by show (vs.map _).length ≤ lim; simpa using hl, fun id hid => ?_, fun id p hp => ?_, fun id b hb => ?_, fun id id' b b' p p' hb hb' hro hp hp' he => ?_, fun g id hg' => ?_, fun _ _ e => by cases e⟩⟩
 ·have hid : (vs.map fun x => (⟨true, 0, .flat x.2⟩ : Blk)).length ≤ id := hid
  rw [List.length_map] at hid
  rw [nth_eq, List.getElem?_eq_none hid]; rfl
 ·cases hx : nth vs id with
  | none => rw [hx] at hp; cases hp
  | some x =>
   rw [hx] at hp
   injection hp with hp; subst hp
   obtain ⟨arr, t, fz, h1, _⟩ := hv id x.1 x.2 hx
   exact (Array.getElem?_eq_some_iff.1 h1).1
 ·have hb2 := (hpL_get (by simpa using hl) id).symm.trans hb
  rw [nth_eq, List.getElem?_map, ← nth_eq] at hb2
  cases hx : nth vs id with
  | none => rw [hx] at hb2; cases hb2
  | some x =>
   rw [hx] at hb2
   injection hb2 with hb2; subst hb2
   obtain ⟨arr, t, fz, h1, h2⟩ := hv id x.1 x.2 hx
   have hsz : arr.size = x.2.length := by
    rw [← Array.length_toList]
    exact (h2 fun _ => none).length.symm
   refine ⟨(x.1, x.2.length, 0), rfl, .inl ⟨arr, fz, ⟨t, h1, fun e => by cases e⟩, hsz, bodyAt_zero fun i c hc => ?_, fun cs e => by injection e with e; subst e; exact hsz⟩⟩
   obtain ⟨y, hy, hi⟩ := (h2 _).get i c hc
   exact ⟨y, by rw [← Array.getElem?_toList]; exact hy, hi⟩
 ·have hb2 := (hpL_get (by simpa using hl) id).symm.trans hb
  rw [nth_eq, List.getElem?_map] at hb2
  cases hx : vs[id]? with
  | none => rw [hx] at hb2; cases hb2
  | some x =>
   rw [hx] at hb2
   injection hb2 with hb2; subst hb2
   cases hro
 ·obtain ⟨cs, hcs⟩ := hg g id hg'
  exact ⟨cs.length, by rw [hcs]; rfl⟩
theorem rh_none (W : World) : ∃ E : Env, RH E (hpT [] [] []) W := rh_ro (vs := []) (globs := []) (Nat.zero_le _) (fun g id hg => by cases hg) (fun i g cs hi => by cases hi)
theorem cells_of {W : World} {r : Reach} {base : Nat} {t : TypeId} {v : Value} {ts : List TypeId} (hs : ∃ d, Tryz.prog.underlying t = some d ∧ descAgg d = true) (hc : Tryz.prog.cellTypes Tryz.prog.depth t = some ts) (hz : Tryz.prog.cellsOf t = ts.length)
  (h : Value.okWide Tryz.prog W r base t v) : ∃ l : List Value, l.length = ts.length ∧ v = .agg l.toArray ∧ ∀ (i : Nat) (x : Value) (u : TypeId), l[i]? = some x → ts[i]? = some u → Cell.okWide Tryz.prog W r base u x := by
 obtain ⟨d, hd, ha⟩ := hs
 have h' : ∃ cs, v = .agg cs ∧ cs.size = Tryz.prog.cellsOf t ∧ Row.okWide Tryz.prog W r base t cs := by
  unfold Value.okWide at h
  rw [hd] at h
  cases d <;> first | exact h | cases ha
 obtain ⟨cs, rfl, hsz, ts', hts, _, hcell⟩ := h'
 obtain rfl := Option.some.inj (hc.symm.trans hts)
 refine ⟨cs.toList, by rw [Array.length_toList, hsz, hz], by simp, fun i x u hx hu => ?_⟩
 rw [Array.getElem?_toList] at hx
 obtain ⟨u', hu', hk⟩ := hcell i x hx
 have hi : i < ts.length := (List.getElem?_eq_some_iff.1 hu).1
 rw [Nat.mod_eq_of_lt hi, hu] at hu'
 obtain rfl := Option.some.inj hu'
 exact hk
theorem cell_int {W : World} {r : Reach} {base : Nat} {x : Value} (h : Cell.okWide Tryz.prog W r base 3 x) : ∃ z, x = .int .i64 z :=
 okWide_int (base := base) (t := 3) Tryz.underlying3 (by unfold Value.okWide; rw [Tryz.underlying3]; exact h)
theorem cell_str {W : World} {r : Reach} {base : Nat} {x : Value} (h : Cell.okWide Tryz.prog W r base 9 x) : ∃ s, x = .string s :=
 okWide_string (base := base) (t := 9) Tryz.underlying9 (by unfold Value.okWide; rw [Tryz.underlying9]; exact h)
theorem agg_is {E : Env} {cs : List C} {l : List Value} (h : All2 (C.Is E) cs l) : (A.agg cs).Is E (.agg l.toArray) := ⟨l, rfl, h⟩
theorem args_below {H : Type} {enc : TypeId × Value → H} {P : Program} (hl : laidOutB P = true) {W W' : World} (hb : Below W.heap.size W W') : ∀ {ts : List TypeId} {vs : List Value} {ds : List (DataW H)} {ps : List MemPlace}, (ts.all fun t => P.readableRec t && decide (t < P.types.size)) = true →
  DataW.TrodAll enc P W 0 (fun _ => true) true ts vs ds ps → (∀ x ∈ ps, x.block < W.heap.size) → DataW.TrodAll enc P W' 0 (fun b => decide (b < W.heap.size)) true ts vs ds ps
 | [], [], [], ps, _, h, _ => h
 | t :: ts, v :: vs, d :: ds, ps, ht, h, hlt => by
  obtain ⟨p, p', h1, h2, rfl⟩ := h
  rw [List.all_cons, Bool.and_eq_true, Bool.and_eq_true, decide_eq_true_eq] at ht
  exact ⟨p, p', Below.trod hl ht.1.1 ht.1.2 h1 hb (fun x hx => hlt x (by simp [hx])), args_below hl hb ht.2 h2 (fun x hx => hlt x (by simp [hx])), rfl⟩
 | [], _ :: _, _, _, _, h, _ => h.elim
 | [], [], _ :: _, _, _, h, _ => h.elim
 | _ :: _, [], _, _, _, h, _ => h.elim
 | _ :: _, _ :: _, [], _, _, h, _ => h.elim
theorem laidOut : laidOutB Tryz.prog = true := by kernel_rfl
theorem below_of {E E' : Env} {h : Hp} {W W' : World} (hl : h.low = h.next) (rh : RH E h W) (hst : Stp E h W E' h W') : Below W.heap.size W W' :=
 ⟨hst.fr.os, hst.fr.tape, hst.fr.output, hst.fr.size, fun k hk => hst.fr.keep k hk fun id p hp _ => by
  rcases Nat.lt_or_ge id h.next with hi | hi
  ·rw [hl]; exact hi
  ·rw [rh.dom id hi] at hp; cases hp⟩
theorem post_true {H : Type} {enc : TypeId × Value → H} {f : Func} {s : ChangeSpec} {W W' : World} {args : Array Value} {ds gs : List (DataW H)} {before : List MemPlace} (hvars : s.vars = []) (hsp : (s.fn H (ds ++ gs)) = { results := [.lit (.bool true)], args := ds })
  (hW : DataW.Whole enc Tryz.prog f.params.toList s.vars false W args.toList ds gs before) (hb : Below W.heap.size W W') (hr : f.resultTypes = #[4]) (hts : (f.params.toList.all fun t => Tryz.prog.readableRec t && decide (t < Tryz.prog.types.size)) = true) :
  s.post enc Tryz.prog f false true false false W args (.bool true) W' := by
 have hlt := hW.lt
 have hW' := hW
 obtain ⟨p, q, hA, hV, rfl, _, _⟩ := hW
 rw [hvars] at hV
 obtain ⟨rfl, rfl⟩ := trodVars_none hV
 refine ⟨ds, [], _, [], p, [], hW', ?_, ?_, ?_, hb.frame _, fun h => by cases h⟩
 ·rw [hsp, hr]; exact trodAll_mk1 (shut_bool Tryz.underlying4 _)
 ·rw [hsp]; exact args_below laidOut hb hts hA fun x hx => hlt x (by simp [hx])
 ·rw [hsp, hvars]; rfl
end Go.Proofs.YtjckcdpjibfacaaGreat
namespace Go.Proofs.YtjckcdpjibfacaaGreat
open Go.ChangeShapes Go.WideShapes Go.ChangeAt Go.RowKit Go.Ev
set_option maxRecDepth 100000
theorem globsG_shift : ∀ {gl : List (Nat × List C)} {a j g i : Nat}, lookupN (globsG (a + j) gl) g = some i → j ≤ i ∧ lookupN (globsG a gl) g = some (i - j)
 | [], _, _, _, _, h => by cases h
 | (g0, _) :: gl, a, j, g, i, h => by
  simp only [globsG, lookupN] at h ⊢
  split at h
  ·injection h with h; subst h
   exact ⟨Nat.le_add_left _ _, by rw [Nat.add_sub_cancel]⟩
  ·rw [show a + j + 1 = (a + 1) + j by omega] at h
   exact globsG_shift h
theorem rh_tabs {E : Env} {gl : List (Nat × List C)} {W : World} (rh : RH E (hpT [] gl []) W) (hgl : (gl.all fun x => noIds x.2) = true) {ts : List TA} {ps : List (Nat × Nat × Nat)} (hs : ∀ t ∈ ts, t.id.isSome = true) (hlim : ts.length + gl.length ≤ lim)
  (hall : All2 (fun (t : TA) p => p.1 < W.heap.size ∧ ∀ E', blkIs E' W p ⟨true, 0, .rows t.n t.cols⟩) ts ps) : ∃ E' : Env, RH E' (hpT ts gl []) W ∧ ∀ i p, nth ps i = some p → E' i = some p := by
 have hbl : ∀ {ts : List TA}, (∀ t ∈ ts, t.id.isSome = true) → blksT ts = ts.map fun t => ⟨true, 0, .rows t.n t.cols⟩ := fun {ts} h => by
  induction ts with
  | nil => rfl
  | cons t ts ih =>
   obtain ⟨id, n, cols⟩ := t
   cases id with
   | none => have := h _ (List.mem_cons_self); cases this
   | some id => simp only [blksT, List.map_cons]; rw [ih fun t ht => h t (List.mem_cons_of_mem _ ht)]
 have hT := hbl hs
 have hTl : (blksT ts).length = ts.length := by rw [hT]; simp
 have hpl : ps.length = ts.length := hall.length.symm
 have hG : (blksG gl).length = gl.length := by simp [blksG]
 have hlen : (bsS ts gl).length = ts.length + gl.length := by unfold bsS; rw [List.length_append, hTl, hG]
 have g0 : ∀ j, (hpT [] gl []).heap.get D j = nth (blksG gl) j := fun j => hpL_get (bs := blksG gl) (globs := globsG 0 gl) (by omega) j
 have g1 : ∀ j, (hpT ts gl []).heap.get D j = nth (bsS ts gl) j := fun j => hpL_get (bs := bsS ts gl) (globs := globsG (blksT ts).length gl) (by omega) j
 have hro : ∀ {i : Nat} {b : Blk}, nth (bsS ts gl) i = some b → b.ro = true := fun {i b} h => by
  unfold bsS at h
  rw [nth_app] at h
  split at h
  ·rw [hT, nth_eq, List.getElem?_map] at h
   cases hx : ts[i]? with
   | none => rw [hx] at h; cases h
   | some x => rw [hx] at h; injection h with h; subst h; rfl
  ·unfold blksG at h
   rw [nth_eq, List.getElem?_map] at h
   cases hx : gl[i - (blksT ts).length]? with
   | none => rw [hx] at h; cases h
   | some x => rw [hx] at h; injection h with h; subst h; rfl
 obtain ⟨E', hE'⟩ : ∃ E' : Env, ∀ i, E' i = if i < ts.length then nth ps i else E (i - ts.length) := ⟨_, fun _ => rfl⟩
 refine ⟨E', ⟨by show (bsS ts gl).length ≤ lim; omega, fun id hid => ?_, fun id p hp => ?_, fun id b hb => ?_, fun id id' b b' p p' hb hb' hr hp hp' he => ?_, fun g id hg => ?_, fun _ _ e => by cases e⟩, fun i p hp => ?_⟩
 ·have hid : (bsS ts gl).length ≤ id := hid
  rw [hE', if_neg (by omega)]
  exact rh.dom _ (by show (blksG gl).length ≤ _; omega)
 ·rw [hE'] at hp
  split at hp
  ·obtain ⟨t, ht, h1, _⟩ : ∃ t, nth ts id = some t ∧ (p.1 < W.heap.size ∧ ∀ E', blkIs E' W p ⟨true, 0, .rows t.n t.cols⟩) := by
    have hlt : id < ts.length := by assumption
    have hte : nth ts id = some ts[id] := by rw [nth_eq]; exact List.getElem?_eq_getElem hlt
    obtain ⟨p', hp', h1⟩ := hall.get id _ hte
    rw [nth_eq] at hp
    obtain rfl := Option.some.inj (hp.symm.trans hp')
    exact ⟨_, hte, h1⟩
   exact h1
  ·exact rh.lt _ _ hp
 ·rw [g1] at hb
  unfold bsS at hb
  rw [nth_app] at hb
  split at hb
  ·rename_i hlt
   rw [hT, nth_eq, List.getElem?_map] at hb
   cases hx : ts[id]? with
   | none => rw [hx] at hb; cases hb
   | some t =>
    rw [hx] at hb
    injection hb with hb; subst hb
    obtain ⟨p, hp, h1, h2⟩ := hall.get id t (by rw [nth_eq]; exact hx)
    exact ⟨p, by rw [hE', if_pos (by omega), nth_eq]; exact hp, h2 _⟩
  ·rename_i hge
   rw [hTl] at hge hb
   obtain ⟨p, hp, hi⟩ := rh.blk (id - ts.length) b ((g0 _).trans hb)
   refine ⟨p, by rw [hE', if_neg (by omega)]; exact hp, ?_⟩
   have hbm : ∃ x ∈ gl, b = ⟨true, 0, .flat x.2⟩ := by
    unfold blksG at hb
    rw [nth_eq, List.getElem?_map] at hb
    cases hx : gl[id - ts.length]? with
    | none => rw [hx] at hb; cases hb
    | some x => rw [hx] at hb; injection hb with hb; exact ⟨x, List.mem_of_getElem? hx, hb.symm⟩
   obtain ⟨x, hx, rfl⟩ := hbm
   exact (subV_flat (e := 0) (List.all_eq_true.1 hgl x hx)).2 E E' W p hi
 ·rw [g1] at hb
  rw [hro hb] at hr
  cases hr
 ·have hg : lookupN (globsG (blksT ts).length gl) g = some id := hg
  rw [hTl] at hg
  have hg0 : lookupN (globsG (0 + ts.length) gl) g = some id := by rw [Nat.zero_add]; exact hg
  obtain ⟨h1, h2⟩ := globsG_shift hg0
  obtain ⟨s, hs⟩ := rh.glob g (id - ts.length) h2
  exact ⟨s, by rw [hE', if_neg (by omega)]; exact hs⟩
 ·rw [hE', if_pos (by have := nth_lt hp; omega)]
  exact hp
theorem slice_arg {H : Type} {enc : TypeId × Value → H} {P : Program} {W : World} {base fuel : Nat} {t e : TypeId} {v : Value} {d : DataW H} {p : List MemPlace} (hu : P.underlying t = some (.slice e)) (hv : Value.okWide P W .any base t v)
  (h : DataW.trod enc P W 0 (fun _ => true) true fuel t v.cells.toList = some (d, p)) : v = .slice none 0 0 ∨ ∃ b o len cap arr ty fz, v = .slice (some ⟨b, o, none⟩) len cap ∧ len ≤ cap ∧ cap ≤ maxLen ∧ W.heap[b]? = some (.cells arr ty fz) ∧
   ∀ i, i < len → ∃ cs n x, cs.length = P.cellsOf e ∧ (∀ j, j < P.cellsOf e → arr[o + (i * P.cellsOf e + j)]? = cs[j]?) ∧ DataW.trod enc P W 0 (fun _ => true) true n e cs = some x := by
 have hv : Cell.okWide P W .any base t v := by unfold Value.okWide at hv; rw [hu] at hv; exact hv
 have hv : Cell.ok P W .any base t v := by
  unfold Cell.okWide at hv
  rw [hu] at hv
  exact hv
 unfold Cell.ok at hv
 rw [hu] at hv
 cases v with
 | slice a len cap =>
  cases a with
  | none =>
   have : len = 0 ∧ cap = 0 := by
    cases len with
    | zero => cases cap with
     | zero => exact ⟨rfl, rfl⟩
     | succ c => exact hv.elim
    | succ l => exact hv.elim
   obtain ⟨rfl, rfl⟩ := this
   exact .inl rfl
  | some a =>
   right
   obtain ⟨h1, h2, _, hsp, row, cells, hsh, _⟩ := hv
   obtain ⟨b, o, sp⟩ := a
   have hsp : sp = none := hsp
   subst hsp
   have hb : ∃ arr fz, W.heap[b]? = some (.cells arr row fz) := by
    unfold World.shape? at hsh
    split at hsh
    ·rename_i c el fz hh
     injection hsh with hsh
     injection hsh with e1 e2
     subst e1
     exact ⟨c, fz, hh⟩
    ·cases hsh
   obtain ⟨arr, fz, hh⟩ := hb
   rcases Go.Deep.open_slice hu (show DataW.trod enc P W 0 (fun _ => true) true fuel t [.slice (some ⟨b, o, none⟩) len cap] = some (d, p) from h) with ⟨h0, _⟩ | ⟨a', len', cap', m, n, D0, Pl, hcs, _, hl, hm, hmm, _, hx⟩
   ·cases h0
   ·injection hcs with hcs _
    injection hcs with e1 e2 e3
    injection e1 with e1
    subst e1; subst e2; subst e3
    refine ⟨b, o, len, cap, arr, row, fz, rfl, hl, hm, hh, fun i hi => ?_⟩
    have hm' : m = cap := by simpa using hmm
    obtain ⟨cs', c1, c2⟩ := hx i (by omega)
    obtain ⟨_, c3, c4⟩ := World.cells?_some c1
    refine ⟨cs', n, _, c3, fun j hj => ?_, c2⟩
    rw [← c4 j hj, addr_add, addr_add, cell_of_row W b _ arr row fz hh, Nat.add_assoc]
 | _ => exact hv.elim
theorem cell_wide {W : World} {base : Nat} {t e : TypeId} {v : Value} (hu : Tryz.prog.underlying t = some (.slice e)) (h : Cell.okWide Tryz.prog W .any base t v) : Value.okWide Tryz.prog W .any base t v := by
 unfold Value.okWide
 rw [hu]
 exact h
theorem slice_cells {W : World} {base : Nat} {t e : TypeId} {v : Value} (hu : Tryz.prog.underlying t = some (.slice e)) (h : Cell.okWide Tryz.prog W .any base t v) : v.cells.toList = [v] := by
 unfold Cell.okWide at h
 rw [hu] at h
 simp only at h
 unfold Cell.ok at h
 rw [hu] at h
 cases v <;> first | rfl | exact h.elim
theorem list2 {α : Type} : ∀ {l : List α}, l.length = 2 → ∃ x0 x1, l = [x0, x1]
 | [x0, x1], _ => ⟨x0, x1, rfl⟩
theorem row_sun {H : Type} {enc : TypeId × Value → H} {W : World} {n : Nat} {cs : List Value} {x : DataW H × List MemPlace} (hl : cs.length = 4)
  (h : DataW.trod enc Tryz.prog W 0 (fun _ => true) true n 34 cs = some x) : ∃ a b c d : Int, cs = [.int .i64 a, .int .i64 b, .int .i64 c, .int .i64 d] := by
 have cI : Tryz.prog.cellsOf 3 = 1 := by kernel_rfl
 have cV : Tryz.prog.cellsOf 26 = 3 := by kernel_rfl
 obtain ⟨y0, y1, m, hx, _, h0, h1⟩ := Go.ChangeShapes.trod_struct2 Tryz.underlying34 h
 match cs, hl with
 | [u, v, w, z], _ =>
  have h0 : DataW.trod enc Tryz.prog W 0 (fun _ => true) true m 3 (([u, v, w, z].drop 0).take (Tryz.prog.cellsOf 3)) = some y0 := h0
  have h1 : DataW.trod enc Tryz.prog W 0 (fun _ => true) true m 26 (([u, v, w, z].drop 1).take (Tryz.prog.cellsOf 26)) = some y1 := h1
  rw [cI] at h0
  rw [cV] at h1
  simp only [List.drop_zero, List.drop_succ_cons, List.take_succ_cons, List.take_zero] at h0 h1
  obtain ⟨a, k0, _⟩ := DataW.trod_int Tryz.underlying3 h0
  obtain ⟨z0, z1, z2, m2, _, _, i0, i1, i2⟩ := Go.Deep.trod_struct3 Tryz.underlying26 h1
  have i0 : DataW.trod enc Tryz.prog W 0 (fun _ => true) true m2 3 (([v, w, z].drop 0).take (Tryz.prog.cellsOf 3)) = some z0 := i0
  have i1 : DataW.trod enc Tryz.prog W 0 (fun _ => true) true m2 3 (([v, w, z].drop 1).take (Tryz.prog.cellsOf 3)) = some z1 := i1
  have i2 : DataW.trod enc Tryz.prog W 0 (fun _ => true) true m2 3 (([v, w, z].drop 2).take (Tryz.prog.cellsOf 3)) = some z2 := i2
  rw [cI] at i0 i1 i2
  simp only [List.drop_zero, List.drop_succ_cons, List.take_succ_cons, List.take_zero] at i0 i1 i2
  obtain ⟨b, k1, _⟩ := DataW.trod_int Tryz.underlying3 i0
  obtain ⟨c, k2, _⟩ := DataW.trod_int Tryz.underlying3 i1
  obtain ⟨d, k3, _⟩ := DataW.trod_int Tryz.underlying3 i2
  injection k0 with k0 _
  injection k1 with k1 _
  injection k2 with k2 _
  injection k3 with k3 _
  exact ⟨a, b, c, d, by rw [k0, k1, k2, k3]⟩
theorem tab_sun {H : Type} {enc : TypeId × Value → H} {W : World} {base : Nat} {v : Value} {d : DataW H} {p : List MemPlace} (hv : Value.okWide Tryz.prog W .any base 22 v)
  (h : DataW.Trod enc Tryz.prog W 0 (fun _ => true) true 22 v d p) :
  v = .slice none 0 0 ∨ ∃ (n : Nat) (z0 z1 z2 z3 : Nat → Int) (q : Nat × Nat × Nat), n ≤ 9223372036854775807 ∧ q.1 < W.heap.size ∧ (∀ E', blkIs E' W q ⟨true, 0, .rows n (skC z0 z1 z2 z3)⟩) ∧ ∀ (E' : Env) (j : Nat), E' j = some q → (slT j 4 n).Is E' v := by
 obtain ⟨fuel, h⟩ := h
 have hc : Tryz.prog.cellsOf 34 = 4 := by kernel_rfl
 rcases slice_arg Tryz.underlying22 hv h with rfl | ⟨b, o, len, cap, arr, ty, fz, rfl, h1, h2, hh, hx⟩
 ·exact .inl rfl
 ·right
  rw [hc] at hx
  have hrow : ∀ i, i < len → ∃ y : Int × Int × Int × Int, arr[o + (i * 4 + 0)]? = some (.int .i64 y.1) ∧ arr[o + (i * 4 + 1)]? = some (.int .i64 y.2.1) ∧ arr[o + (i * 4 + 2)]? = some (.int .i64 y.2.2.1) ∧ arr[o + (i * 4 + 3)]? = some (.int .i64 y.2.2.2) := fun i hi => by
   obtain ⟨cs, n, x, hl, hj, ht⟩ := hx i hi
   obtain ⟨a, b', c, d', rfl⟩ := row_sun hl ht
   exact ⟨(a, b', c, d'), hj 0 (by omega), hj 1 (by omega), hj 2 (by omega), hj 3 (by omega)⟩
  obtain ⟨f, hf⟩ := Go.Deep.choose_lt hrow
  refine ⟨len, fun i => (f i).1, fun i => (f i).2.1, fun i => (f i).2.2.1, fun i => (f i).2.2.2, (b, arr.size, o), by unfold maxLen at h2; omega, (Array.getElem?_eq_some_iff.1 hh).1, fun E' => ?_, fun E' j hj => .inl ⟨b, (arr.size, o), o, cap, hj, rfl, h1, h2, fun _ => by simp, fun e => by cases e⟩⟩
  refine .inl ⟨arr, fz, ⟨ty, hh, fun e => by cases e⟩, rfl, ⟨fun e => (by cases e), fun k j c hk hj => ?_⟩, fun cs e => by cases e⟩
  have hk : k < len := hk
  obtain ⟨f0, f1, f2, f3⟩ := hf k hk
  show ∃ x, (vw o arr)[k * 4 + j]? = some x ∧ _
  rw [vw_get]
  match j, hj with
  | 0, hj => injection hj with hj; subst hj; exact ⟨_, f0, rfl, rfl⟩
  | 1, hj => injection hj with hj; subst hj; exact ⟨_, f1, rfl, rfl⟩
  | 2, hj => injection hj with hj; subst hj; exact ⟨_, f2, rfl, rfl⟩
  | 3, hj => injection hj with hj; subst hj; exact ⟨_, f3, rfl, rfl⟩
  | j + 4, hj => cases hj
theorem sky_arg {H : Type} {enc : TypeId × Value → H} {W : World} {base : Nat} {v : Value} {d : DataW H} {p : List MemPlace} (hv : Value.okWide Tryz.prog W .any base 24 v) (h : DataW.Trod enc Tryz.prog W 0 (fun _ => true) true 24 v d p) :
  ∃ (nm : ByteArray) (sv : Value) (d' : DataW H) (p' : List MemPlace), v = .agg #[.string nm, sv] ∧ Value.okWide Tryz.prog W .any base 22 sv ∧ DataW.Trod enc Tryz.prog W 0 (fun _ => true) true 22 sv d' p' := by
 obtain ⟨l0, n0, rfl, c0⟩ := cells_of (ts := [9, 22]) ⟨_, Tryz.underlying24, rfl⟩ (by kernel_rfl) (by kernel_rfl) hv
 obtain ⟨b0, sv, rfl⟩ := list2 n0
 obtain ⟨nm, rfl⟩ := cell_str (c0 0 _ _ rfl rfl)
 have hs := c0 1 _ _ rfl rfl
 have cI : Tryz.prog.cellsOf 9 = 1 := by kernel_rfl
 have cS : Tryz.prog.cellsOf 22 = 1 := by kernel_rfl
 obtain ⟨fuel, h⟩ := h
 have h : DataW.trod enc Tryz.prog W 0 (fun _ => true) true fuel 24 [.string nm, sv] = some (d, p) := h
 obtain ⟨y0, y1, n, _, _, i0, i1⟩ := Go.ChangeShapes.trod_struct2 Tryz.underlying24 h
 have i1 : DataW.trod enc Tryz.prog W 0 (fun _ => true) true n 22 (([Value.string nm, sv].drop 1).take (Tryz.prog.cellsOf 22)) = some y1 := i1
 rw [cS] at i1
 simp only [List.drop_zero, List.drop_succ_cons, List.take_succ_cons, List.take_zero] at i1
 exact ⟨nm, sv, y1.1, y1.2, rfl, cell_wide Tryz.underlying22 hs, n, by rw [slice_cells Tryz.underlying22 hs]; exact i1⟩
theorem cone_arg {W : World} {base : Nat} {v : Value} (h : Value.okWide Tryz.prog W .any base 28 v) : ∃ x y z num den : Int, v = .agg #[.int .i64 x, .int .i64 y, .int .i64 z, .int .i64 num, .int .i64 den] := by
 obtain ⟨l, n, rfl, c⟩ := cells_of (ts := [3, 3, 3, 3, 3]) ⟨_, Tryz.underlying28, rfl⟩ (by kernel_rfl) (by kernel_rfl) h
 match l, n with
 | [a, b, d, e, f], _ =>
  obtain ⟨x, rfl⟩ := cell_int (c 0 _ _ rfl rfl)
  obtain ⟨y, rfl⟩ := cell_int (c 1 _ _ rfl rfl)
  obtain ⟨z, rfl⟩ := cell_int (c 2 _ _ rfl rfl)
  obtain ⟨nu, rfl⟩ := cell_int (c 3 _ _ rfl rfl)
  obtain ⟨de, rfl⟩ := cell_int (c 4 _ _ rfl rfl)
  exact ⟨x, y, z, nu, de, rfl⟩
end Go.Proofs.YtjckcdpjibfacaaGreat
