/- From the evaluator's word on a law to the row's statement: what the listed variables hold, what the arguments are, what is asked behind the call. Conditions: none. -/
import Derived.Test.YtkalcencblhlgaaGreatDoorRows
import Derived.Test.YtkalcencblhlgaaGreatDoorAwE
import Derived.Test.YtkalcencblhlgaaGreatDoorLift
import Derived.ProofKit
import Derived.LaidMore
import Derived.LaidSub
import Derived.OpenShut
import Derived.Carry
import Derived.Stop.Joined
import Derived.Lib.LaidTab
import Derived.Deep.Strs
namespace Go.Proofs.YtkalcencblhlgaaGreatDoor
open Go.ChangeShapes Go.WideShapes Go.ChangeAt Go.RowKit Go.Ev
set_option maxRecDepth 100000
theorem own : ownKnob Tryz.prog.godebug = none := by kernel_rfl
theorem gAxes : Tryz.prog.globalNamed "spillage/sun.axes" = some 0 := by kernel_rfl
theorem gPow : Tryz.prog.globalNamed "internal/strconv.uint64pow10" = some 2 := by kernel_rfl
theorem laidVar {P : Program} {W : World} : ∀ {l : List (String × DataW Unit)} {ps : List MemPlace}, DataW.LaidVars P W l ps → ∀ n d, (n, d) ∈ l → ∃ g t cs fuel p, P.globalNamed n = some g ∧ (P.globals[g]?).map (·.type) = some t ∧ W.var? P n = some cs ∧
  ∃ (enc : TypeId × Value → Unit) (base : Nat) (sp : Nat → Bool) (held : Bool), DataW.trod enc P W base sp held fuel t cs.toList = some (d, p)
 | [], _, _, _, _, hm => by cases hm
 | (n0, d0) :: l, ps, h, n, d, hm => by
  obtain ⟨g, t, cs, fuel, p, q, h1, h2, h3, h4, h5, _⟩ := h
  rcases List.mem_cons.1 hm with e | hm
  ·injection e with e1 e2
   subst e1; subst e2
   exact ⟨g, t, cs, fuel, p, h1, h2, h3, _, _, _, _, h4⟩
  ·exact laidVar h5 n d hm
theorem var_block {P : Program} {W : World} {n : String} {g : Nat} {cs : Array Value} (hg : P.globalNamed n = some g) (h : W.var? P n = some cs) : ∃ t fz, W.heap[g]? = some (.cells cs t fz) := by
 unfold World.var? at h
 rw [hg] at h
 simp only [Option.bind_some] at h
 split at h
 ·rename_i c t fz hh
  injection h with h; subst h
  exact ⟨t, fz, hh⟩
 ·cases h
theorem vec_cells {H : Type} {enc : TypeId × Value → H} {W : World} {base : Nat} {sp : Nat → Bool} {held : Bool} {fuel : Nat} {cs : List Value} {a b c : Int} {p : List MemPlace}
  (h : DataW.trod enc Tryz.prog W base sp held fuel 29 cs = some (.agg [.lit (.int .i64 a), .lit (.int .i64 b), .lit (.int .i64 c)], p)) : cs = [.int .i64 a, .int .i64 b, .int .i64 c] := by
 have c3 : Tryz.prog.cellsOf 3 = 1 := by kernel_rfl
 have c23 : Tryz.prog.cellsOf 29 = 3 := by kernel_rfl
 obtain ⟨xs, n, rfl, hx, hl, hlen, hf⟩ := DataW.trod_struct Tryz.underlying29 h
 rw [c23] at hl
 have h0 : DataW.trod enc Tryz.prog W base sp held n 3 ((cs.drop 0).take (Tryz.prog.cellsOf 3)) = xs[0]? := hf 0 _ rfl
 have h1 : DataW.trod enc Tryz.prog W base sp held n 3 ((cs.drop 1).take (Tryz.prog.cellsOf 3)) = xs[1]? := hf 1 _ rfl
 have h2 : DataW.trod enc Tryz.prog W base sp held n 3 ((cs.drop 2).take (Tryz.prog.cellsOf 3)) = xs[2]? := hf 2 _ rfl
 rw [c3] at h0 h1 h2
 match cs, hl, xs, hlen, hx, h0, h1, h2 with
 | [u, v, w], _, [x, y, z], _, hx, h0, h1, h2 =>
  simp only [List.drop_zero, List.drop_succ_cons, List.take_succ_cons, List.take_zero, List.getElem?_cons_zero, List.getElem?_cons_succ] at h0 h1 h2
  simp only [List.map_cons, List.map_nil, Prod.mk.injEq, DataW.agg.injEq, List.cons.injEq, and_true] at hx
  obtain ⟨⟨e0, e1, e2⟩, _⟩ := hx
  obtain ⟨n0, f0, rfl, _⟩ := DataW.trod_int Tryz.underlying3 h0
  obtain ⟨n1, f1, rfl, _⟩ := DataW.trod_int Tryz.underlying3 h1
  obtain ⟨n2, f2, rfl, _⟩ := DataW.trod_int Tryz.underlying3 h2
  simp only [List.cons.injEq, and_true] at f0 f1 f2
  simp only [DataW.lit.injEq, Lit.int.injEq, true_and] at e0 e1 e2
  subst e0; subst e1; subst e2
  rw [f0, f1, f2]
theorem axes_cells {H : Type} {enc : TypeId × Value → H} {W : World} {base : Nat} {sp : Nat → Bool} {held : Bool} {fuel : Nat} {cs : List Value} {p : List MemPlace}
  (h : DataW.trod enc Tryz.prog W base sp held fuel 53 cs = some (.agg [.agg [.lit (.int .i64 1), .lit (.int .i64 0), .lit (.int .i64 0)], .agg [.lit (.int .i64 0), .lit (.int .i64 0), .lit (.int .i64 1)]], p)) : cs = [1, 0, 0, 0, 0, 1].map fun z => Value.int .i64 z := by
 have c23 : Tryz.prog.cellsOf 29 = 3 := by kernel_rfl
 have c59 : Tryz.prog.cellsOf 53 = 6 := by kernel_rfl
 obtain ⟨xs, m, rfl, hx, hl, hlen, hf⟩ := DataW.trod_array Tryz.underlying53 h
 rw [c59] at hl
 have h0 := hf 0 (by decide)
 have h1 := hf 1 (by decide)
 match cs, hl, xs, hlen, hx, h0, h1 with
 | [a, b, c, d, e, f], _, [x, y], _, hx, h0, h1 =>
  simp only [c23, Nat.zero_mul, Nat.one_mul, List.drop_zero, List.drop_succ_cons, List.take_succ_cons, List.take_zero, List.getElem?_cons_zero, List.getElem?_cons_succ] at h0 h1
  simp only [List.map_cons, List.map_nil, Prod.mk.injEq, DataW.agg.injEq, List.cons.injEq, and_true] at hx
  obtain ⟨⟨e0, e1⟩, _⟩ := hx
  obtain ⟨x1, x2⟩ := x
  obtain ⟨y1, y2⟩ := y
  simp only at e0 e1
  subst e0; subst e1
  have k0 := vec_cells h0
  have k1 := vec_cells h1
  simp only [List.cons.injEq, and_true] at k0 k1
  obtain ⟨rfl, rfl, rfl⟩ := k0
  obtain ⟨rfl, rfl, rfl⟩ := k1
  rfl
theorem rh_ro {W : World} {vs : List (Nat × List C)} {globs : List (Nat × Nat)} (hl : vs.length ≤ lim) (hg : ∀ g id, lookupN globs g = some id → ∃ cs, nth vs id = some (g, cs))
  (hv : ∀ i g cs, nth vs i = some (g, cs) → ∃ arr t fz, W.heap[g]? = some (.cells arr t fz) ∧ ∀ E, All2 (C.Is E) cs arr.toList) : ∃ E : Env, RH E (hpL (vs.map fun x => ⟨true, 0, .flat x.2⟩) globs) W := by
 refine ⟨fun i => (nth vs i).map fun x => (x.1, x.2.length, 0), ⟨by show (vs.map _).length ≤ lim; simpa using hl, fun id hid => ?_, fun id p hp => ?_, fun id b hb => ?_, fun id id' b b' p p' hb hb' hro hp hp' he => ?_, fun g id hg' => ?_, fun _ _ e => by cases e⟩⟩
 ·have hid : (vs.map fun x => (⟨true, 0, .flat x.2⟩ : Blk)).length ≤ id := hid
  rw [List.length_map] at hid
  rw [nth_eq, List.getElem?_eq_none hid]; rfl
 ·cases hx : nth vs id with
  | none => rw [hx] at hp; cases hp
  | some x =>
   rw [hx] at hp
   injection hp with hp; subst hp
   obtain ⟨arr, t, fz, h1, _⟩ := hv id x.1 x.2 hx
   exact (Array.getElem?_eq_some_iff.1 h1).1
 ·have hb2 := (hpL_get (by simpa using hl) id).symm.trans hb
  rw [nth_eq, List.getElem?_map, ← nth_eq] at hb2
  cases hx : nth vs id with
  | none => rw [hx] at hb2; cases hb2
  | some x =>
   rw [hx] at hb2
   injection hb2 with hb2; subst hb2
   obtain ⟨arr, t, fz, h1, h2⟩ := hv id x.1 x.2 hx
   have hsz : arr.size = x.2.length := by
    rw [← Array.length_toList]
    exact (h2 fun _ => none).length.symm
   refine ⟨(x.1, x.2.length, 0), rfl, .inl ⟨arr, fz, ⟨t, h1, fun e => by cases e⟩, hsz, bodyAt_zero fun i c hc => ?_, fun cs e => by injection e with e; subst e; exact hsz⟩⟩
   obtain ⟨y, hy, hi⟩ := (h2 _).get i c hc
   exact ⟨y, by rw [← Array.getElem?_toList]; exact hy, hi⟩
 ·have hb2 := (hpL_get (by simpa using hl) id).symm.trans hb
  rw [nth_eq, List.getElem?_map] at hb2
  cases hx : vs[id]? with
  | none => rw [hx] at hb2; cases hb2
  | some x =>
   rw [hx] at hb2
   injection hb2 with hb2; subst hb2
   cases hro
 ·obtain ⟨cs, hcs⟩ := hg g id hg'
  exact ⟨cs.length, by rw [hcs]; rfl⟩
theorem ints_is {k : IntKind} {E : Env} : ∀ {zs : List Int}, All2 (C.Is E) (zs.map fun z => .lit (.int k z)) (zs.map fun z => Value.int k z)
 | [] => trivial
 | _ :: zs => ⟨⟨rfl, rfl⟩, ints_is (zs := zs)⟩
theorem rh_vars {W : World} {c1 c2 : Array Value} (hv1 : W.var? Tryz.prog "spillage/sun.axes" = some c1) (hv2 : W.var? Tryz.prog "internal/strconv.uint64pow10" = some c2) (k1 : c1.toList = [1, 0, 0, 0, 0, 1].map fun z => Value.int .i64 z) (k2 : c2.toList = Lib.pow10Tab.map fun z => Value.int .u64 z) : ∃ E : Env, RH E (hpT [] glY []) W := by
 obtain ⟨e1, fz1, b1⟩ := var_block gAxes hv1
 obtain ⟨e2, fz2, b2⟩ := var_block gPow hv2
 refine rh_ro (vs := [(0, [1, 0, 0, 0, 0, 1].map ci), (2, Lib.pow10Tab.map fun n => .lit (.int .u64 n))]) (by simp [lim]) (fun g id hg => ?_) (fun i g cs hi => ?_)
 ·have hg : lookupN [(0, 0), (2, 1)] g = some id := hg
  unfold lookupN at hg
  split at hg
  ·rename_i e
   obtain rfl := Nat.eq_of_beq_eq_true e
   injection hg with hg; subst hg
   exact ⟨_, rfl⟩
  ·unfold lookupN at hg
   split at hg
   ·rename_i e
    obtain rfl := Nat.eq_of_beq_eq_true e
    injection hg with hg; subst hg
    exact ⟨_, rfl⟩
   ·cases hg
 ·match i, hi with
  | 0, hi =>
   injection hi with hi
   injection hi with hi hi2; subst hi; subst hi2
   exact ⟨c1, e1, fz1, b1, fun E => by rw [k1]; exact ints_is⟩
  | 1, hi =>
   injection hi with hi
   injection hi with hi hi2; subst hi; subst hi2
   exact ⟨c2, e2, fz2, b2, fun E => by rw [k2]; exact ints_is⟩
  | i + 2, hi => cases hi
theorem rh_data {l : List (String × DataW Unit)} {W : World} {ps : List MemPlace} (hv : DataW.LaidVars Tryz.prog W l ps) (m1 : ("spillage/sun.axes", Rows.laid_spillage_sun_axes) ∈ l) (m2 : ("internal/strconv.uint64pow10", Rows.laid_internal_strconv_uint64pow10) ∈ l) : ∃ E : Env, RH E (hpT [] glY []) W := by
 obtain ⟨g1, t1, c1, f1, p1, hg1, ht1, hv1, _, _, _, _, hd1⟩ := laidVar hv _ _ m1
 obtain ⟨g2, t2, c2, f2, p2, hg2, ht2, hv2, _, _, _, _, hd2⟩ := laidVar hv _ _ m2
 obtain rfl := Option.some.inj (gAxes.symm.trans hg1)
 obtain rfl := Option.some.inj (gPow.symm.trans hg2)
 have tA : (Tryz.prog.globals[0]?).map (·.type) = some 53 := by kernel_rfl
 have tP : (Tryz.prog.globals[2]?).map (·.type) = some 207 := by kernel_rfl
 obtain rfl := Option.some.inj (tA.symm.trans ht1)
 obtain rfl := Option.some.inj (tP.symm.trans ht2)
 exact rh_vars hv1 hv2 (axes_cells hd1) (Lib.cells_of_tab Tryz.underlying207 Tryz.underlying200 (by kernel_rfl) (by kernel_rfl) hd2)
theorem cells_of {W : World} {r : Reach} {base : Nat} {t : TypeId} {v : Value} {ts : List TypeId} (hs : ∃ d, Tryz.prog.underlying t = some d ∧ descAgg d = true) (hc : Tryz.prog.cellTypes Tryz.prog.depth t = some ts) (hz : Tryz.prog.cellsOf t = ts.length)
  (h : Value.okWide Tryz.prog W r base t v) : ∃ l : List Value, l.length = ts.length ∧ v = .agg l.toArray ∧ ∀ (i : Nat) (x : Value) (u : TypeId), l[i]? = some x → ts[i]? = some u → Cell.okWide Tryz.prog W r base u x := by
 obtain ⟨d, hd, ha⟩ := hs
 have h' : ∃ cs, v = .agg cs ∧ cs.size = Tryz.prog.cellsOf t ∧ Row.okWide Tryz.prog W r base t cs := by
  unfold Value.okWide at h
  rw [hd] at h
  cases d <;> first | exact h | cases ha
 obtain ⟨cs, rfl, hsz, ts', hts, _, hcell⟩ := h'
 obtain rfl := Option.some.inj (hc.symm.trans hts)
 refine ⟨cs.toList, by rw [Array.length_toList, hsz, hz], by simp, fun i x u hx hu => ?_⟩
 rw [Array.getElem?_toList] at hx
 obtain ⟨u', hu', hk⟩ := hcell i x hx
 have hi : i < ts.length := (List.getElem?_eq_some_iff.1 hu).1
 rw [Nat.mod_eq_of_lt hi, hu] at hu'
 obtain rfl := Option.some.inj hu'
 exact hk
theorem cell_str {W : World} {r : Reach} {base : Nat} {x : Value} (h : Cell.okWide Tryz.prog W r base 9 x) : ∃ s, x = .string s :=
 okWide_string (base := base) (t := 9) Tryz.underlying9 (by unfold Value.okWide; rw [Tryz.underlying9]; exact h)
theorem agg_is {E : Env} {cs : List C} {l : List Value} (h : All2 (C.Is E) cs l) : (A.agg cs).Is E (.agg l.toArray) := ⟨l, rfl, h⟩
theorem args_below {H : Type} {enc : TypeId × Value → H} {P : Program} (hl : laidOutB P = true) {W W' : World} (hb : Below W.heap.size W W') : ∀ {ts : List TypeId} {vs : List Value} {ds : List (DataW H)} {ps : List MemPlace}, (ts.all fun t => P.readableRec t && decide (t < P.types.size)) = true →
  DataW.TrodAll enc P W 0 (fun _ => true) true ts vs ds ps → (∀ x ∈ ps, x.block < W.heap.size) → DataW.TrodAll enc P W' 0 (fun b => decide (b < W.heap.size)) true ts vs ds ps
 | [], [], [], ps, _, h, _ => h
 | t :: ts, v :: vs, d :: ds, ps, ht, h, hlt => by
  obtain ⟨p, p', h1, h2, rfl⟩ := h
  rw [List.all_cons, Bool.and_eq_true, Bool.and_eq_true, decide_eq_true_eq] at ht
  exact ⟨p, p', Below.trod hl ht.1.1 ht.1.2 h1 hb (fun x hx => hlt x (by simp [hx])), args_below hl hb ht.2 h2 (fun x hx => hlt x (by simp [hx])), rfl⟩
 | [], _ :: _, _, _, _, h, _ => h.elim
 | [], [], _ :: _, _, _, h, _ => h.elim
 | _ :: _, [], _, _, _, h, _ => h.elim
 | _ :: _, _ :: _, [], _, _, h, _ => h.elim
theorem laidOut : laidOutB Tryz.prog = true := by kernel_rfl
theorem below_of {E E' : Env} {h : Hp} {W W' : World} (hl : h.low = h.next) (rh : RH E h W) (hst : Stp E h W E' h W') : Below W.heap.size W W' :=
 ⟨hst.fr.os, hst.fr.tape, hst.fr.output, hst.fr.size, fun k hk => hst.fr.keep k hk fun id p hp _ => by
  rcases Nat.lt_or_ge id h.next with hi | hi
  ·rw [hl]; exact hi
  ·rw [rh.dom id hi] at hp; cases hp⟩
theorem post_true {H : Type} {enc : TypeId × Value → H} {f : Func} {s : ChangeSpec} {W W' : World} {args : Array Value} {ds gs : List (DataW H)} {before : List MemPlace} (hvars : s.vars = []) (hsp : (s.fn H (ds ++ gs)) = { results := [.lit (.bool true)], args := ds })
  (hW : DataW.Whole enc Tryz.prog f.params.toList s.vars false W args.toList ds gs before) (hb : Below W.heap.size W W') (hr : f.resultTypes = #[4]) (hts : (f.params.toList.all fun t => Tryz.prog.readableRec t && decide (t < Tryz.prog.types.size)) = true) :
  s.post enc Tryz.prog f false true false false W args (.bool true) W' := by
 have hlt := hW.lt
 have hW' := hW
 obtain ⟨p, q, hA, hV, rfl, _, _⟩ := hW
 rw [hvars] at hV
 obtain ⟨rfl, rfl⟩ := trodVars_none hV
 refine ⟨ds, [], _, [], p, [], hW', ?_, ?_, ?_, hb.frame _, fun h => by cases h⟩
 ·rw [hsp, hr]; exact trodAll_mk1 (shut_bool Tryz.underlying4 _)
 ·rw [hsp]; exact args_below laidOut hb hts hA fun x hx => hlt x (by simp [hx])
 ·rw [hsp, hvars]; rfl
end Go.Proofs.YtkalcencblhlgaaGreatDoor
