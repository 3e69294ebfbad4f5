/- From the evaluator's word on a law to the row's statement: what the listed variables hold, what the arguments are, what is asked behind the call. Conditions: none. -/
import Derived.Test.YtkalcencblhlgaaGreatDoorRows
import Derived.Test.YtkalcencblhlgaaGreatDoorAwE
import Derived.Test.YtkalcencblhlgaaGreatDoorLift
import Derived.ProofKit
import Derived.LaidMore
import Derived.LaidSub
import Derived.OpenShut
import Derived.Carry
import Derived.Stop.Joined
import Derived.Lib.LaidTab
import Derived.Deep.Strs
import Derived.LaidHandle
import Derived.Deep.DeepLaidRun
import Derived.Lay
import Derived.Test.YtkalcencblhlgaaGreatDoorCsk
import Derived.ChangeSame
import Derived.Deep.Slices
import Derived.Test.YtkalcencblhlgaaGreatDoorBkc
import Derived.Test.YtkalcencblhlgaaGreatDoorTie
import Derived.Test.YtkalcencblhlgaaGreatDoorCards
import Derived.SevenTiedAt
namespace Go.Proofs.YtkalcencblhlgaaGreatDoor
open Go.ChangeShapes Go.WideShapes Go.ChangeAt Go.RowKit Go.Ev
set_option maxRecDepth 100000
theorem own : ownKnob Tryz.prog.godebug = none := by kernel_rfl
theorem gAxes : Tryz.prog.globalNamed "spillage/sun.axes" = some 0 := by kernel_rfl
theorem gPow : Tryz.prog.globalNamed "internal/strconv.uint64pow10" = some 2 := by kernel_rfl
theorem laidVar {P : Program} {W : World} : ∀ {l : List (String × DataW Unit)} {ps : List MemPlace}, DataW.LaidVars P W l ps → ∀ n d, (n, d) ∈ l → ∃ g t cs fuel p, P.globalNamed n = some g ∧ (P.globals[g]?).map (·.type) = some t ∧ W.var? P n = some cs ∧
  ∃ (enc : TypeId × Value → Unit) (base : Nat) (sp : Nat → Bool) (held : Bool), DataW.trod enc P W base sp held fuel t cs.toList = some (d, p)
 | [], _, _, _, _, hm => by cases hm
 | (n0, d0) :: l, ps, h, n, d, hm => by
  obtain ⟨g, t, cs, fuel, p, q, h1, h2, h3, h4, h5, _⟩ := h
  rcases List.mem_cons.1 hm with e | hm
  ·injection e with e1 e2
   subst e1; subst e2
   exact ⟨g, t, cs, fuel, p, h1, h2, h3, _, _, _, _, h4⟩
  ·exact laidVar h5 n d hm
theorem var_block {P : Program} {W : World} {n : String} {g : Nat} {cs : Array Value} (hg : P.globalNamed n = some g) (h : W.var? P n = some cs) : ∃ t fz, W.heap[g]? = some (.cells cs t fz) := by
 unfold World.var? at h
 rw [hg] at h
 simp only [Option.bind_some] at h
 split at h
 ·rename_i c t fz hh
  injection h with h; subst h
  exact ⟨t, fz, hh⟩
 ·cases h
theorem vec_cells {H : Type} {enc : TypeId × Value → H} {W : World} {base : Nat} {sp : Nat → Bool} {held : Bool} {fuel : Nat} {cs : List Value} {a b c : Int} {p : List MemPlace}
  (h : DataW.trod enc Tryz.prog W base sp held fuel 29 cs = some (.agg [.lit (.int .i64 a), .lit (.int .i64 b), .lit (.int .i64 c)], p)) : cs = [.int .i64 a, .int .i64 b, .int .i64 c] := by
 have c3 : Tryz.prog.cellsOf 3 = 1 := by kernel_rfl
 have c23 : Tryz.prog.cellsOf 29 = 3 := by kernel_rfl
 obtain ⟨xs, n, rfl, hx, hl, hlen, hf⟩ := DataW.trod_struct Tryz.underlying29 h
 rw [c23] at hl
 have h0 : DataW.trod enc Tryz.prog W base sp held n 3 ((cs.drop 0).take (Tryz.prog.cellsOf 3)) = xs[0]? := hf 0 _ rfl
 have h1 : DataW.trod enc Tryz.prog W base sp held n 3 ((cs.drop 1).take (Tryz.prog.cellsOf 3)) = xs[1]? := hf 1 _ rfl
 have h2 : DataW.trod enc Tryz.prog W base sp held n 3 ((cs.drop 2).take (Tryz.prog.cellsOf 3)) = xs[2]? := hf 2 _ rfl
 rw [c3] at h0 h1 h2
 match cs, hl, xs, hlen, hx, h0, h1, h2 with
 | [u, v, w], _, [x, y, z], _, hx, h0, h1, h2 =>
  simp only [List.drop_zero, List.drop_succ_cons, List.take_succ_cons, List.take_zero, List.getElem?_cons_zero, List.getElem?_cons_succ] at h0 h1 h2
  simp only [List.map_cons, List.map_nil, Prod.mk.injEq, DataW.agg.injEq, List.cons.injEq, and_true] at hx
  obtain ⟨⟨e0, e1, e2⟩, _⟩ := hx
  obtain ⟨n0, f0, rfl, _⟩ := DataW.trod_int Tryz.underlying3 h0
  obtain ⟨n1, f1, rfl, _⟩ := DataW.trod_int Tryz.underlying3 h1
  obtain ⟨n2, f2, rfl, _⟩ := DataW.trod_int Tryz.underlying3 h2
  simp only [List.cons.injEq, and_true] at f0 f1 f2
  simp only [DataW.lit.injEq, Lit.int.injEq, true_and] at e0 e1 e2
  subst e0; subst e1; subst e2
  rw [f0, f1, f2]
theorem axes_cells {H : Type} {enc : TypeId × Value → H} {W : World} {base : Nat} {sp : Nat → Bool} {held : Bool} {fuel : Nat} {cs : List Value} {p : List MemPlace}
  (h : DataW.trod enc Tryz.prog W base sp held fuel 53 cs = some (.agg [.agg [.lit (.int .i64 1), .lit (.int .i64 0), .lit (.int .i64 0)], .agg [.lit (.int .i64 0), .lit (.int .i64 0), .lit (.int .i64 1)]], p)) : cs = [1, 0, 0, 0, 0, 1].map fun z => Value.int .i64 z := by
 have c23 : Tryz.prog.cellsOf 29 = 3 := by kernel_rfl
 have c59 : Tryz.prog.cellsOf 53 = 6 := by kernel_rfl
 obtain ⟨xs, m, rfl, hx, hl, hlen, hf⟩ := DataW.trod_array Tryz.underlying53 h
 rw [c59] at hl
 have h0 := hf 0 (by decide)
 have h1 := hf 1 (by decide)
 match cs, hl, xs, hlen, hx, h0, h1 with
 | [a, b, c, d, e, f], _, [x, y], _, hx, h0, h1 =>
  simp only [c23, Nat.zero_mul, Nat.one_mul, List.drop_zero, List.drop_succ_cons, List.take_succ_cons, List.take_zero, List.getElem?_cons_zero, List.getElem?_cons_succ] at h0 h1
  simp only [List.map_cons, List.map_nil, Prod.mk.injEq, DataW.agg.injEq, List.cons.injEq, and_true] at hx
  obtain ⟨⟨e0, e1⟩, _⟩ := hx
  obtain ⟨x1, x2⟩ := x
  obtain ⟨y1, y2⟩ := y
  simp only at e0 e1
  subst e0; subst e1
  have k0 := vec_cells h0
  have k1 := vec_cells h1
  simp only [List.cons.injEq, and_true] at k0 k1
  obtain ⟨rfl, rfl, rfl⟩ := k0
  obtain ⟨rfl, rfl, rfl⟩ := k1
  rfl
theorem rh_ro {W : World} {vs : List (Nat × List C)} {globs : List (Nat × Nat)} (hl : vs.length ≤ lim) (hg : ∀ g id, lookupN globs g = some id → ∃ cs, nth vs id = some (g, cs))
  (hv : ∀ i g cs, nth vs i = some (g, cs) → ∃ arr t fz, W.heap[g]? = some (.cells arr t fz) ∧ ∀ E, All2 (C.Is E) cs arr.toList) : ∃ E : Env, RH E (hpL (vs.map fun x => ⟨true, 0, .flat x.2⟩) globs) W := by
 refine ⟨fun i => (nth vs i).map fun x => (x.1, x.2.length, 0), ⟨by show (vs.map _).length ≤ lim; simpa using hl, fun id hid => ?_, fun id p hp => ?_, fun id b hb => ?_, fun id id' b b' p p' hb hb' hro hp hp' he => ?_, fun g id hg' => ?_, fun _ _ e => by cases e⟩⟩
 ·have hid : (vs.map fun x => (⟨true, 0, .flat x.2⟩ : Blk)).length ≤ id := hid
  rw [List.length_map] at hid
  rw [nth_eq, List.getElem?_eq_none hid]; rfl
 ·cases hx : nth vs id with
  | none => rw [hx] at hp; cases hp
  | some x =>
   rw [hx] at hp
   injection hp with hp; subst hp
   obtain ⟨arr, t, fz, h1, _⟩ := hv id x.1 x.2 hx
   exact (Array.getElem?_eq_some_iff.1 h1).1
 ·have hb2 := (hpL_get (by simpa using hl) id).symm.trans hb
  rw [nth_eq, List.getElem?_map, ← nth_eq] at hb2
  cases hx : nth vs id with
  | none => rw [hx] at hb2; cases hb2
  | some x =>
   rw [hx] at hb2
   injection hb2 with hb2; subst hb2
   obtain ⟨arr, t, fz, h1, h2⟩ := hv id x.1 x.2 hx
   have hsz : arr.size = x.2.length := by
    rw [← Array.length_toList]
    exact (h2 fun _ => none).length.symm
   refine ⟨(x.1, x.2.length, 0), rfl, .inl ⟨arr, fz, ⟨t, h1, fun e => by cases e⟩, hsz, bodyAt_zero fun i c hc => ?_, fun cs e => by injection e with e; subst e; exact hsz⟩⟩
   obtain ⟨y, hy, hi⟩ := (h2 _).get i c hc
   exact ⟨y, by rw [← Array.getElem?_toList]; exact hy, hi⟩
 ·have hb2 := (hpL_get (by simpa using hl) id).symm.trans hb
  rw [nth_eq, List.getElem?_map] at hb2
  cases hx : vs[id]? with
  | none => rw [hx] at hb2; cases hb2
  | some x =>
   rw [hx] at hb2
   injection hb2 with hb2; subst hb2
   cases hro
 ·obtain ⟨cs, hcs⟩ := hg g id hg'
  exact ⟨cs.length, by rw [hcs]; rfl⟩
theorem ints_is {k : IntKind} {E : Env} : ∀ {zs : List Int}, All2 (C.Is E) (zs.map fun z => .lit (.int k z)) (zs.map fun z => Value.int k z)
 | [] => trivial
 | _ :: zs => ⟨⟨rfl, rfl⟩, ints_is (zs := zs)⟩
theorem rh_vars {W : World} {c1 c2 : Array Value} (hv1 : W.var? Tryz.prog "spillage/sun.axes" = some c1) (hv2 : W.var? Tryz.prog "internal/strconv.uint64pow10" = some c2) (k1 : c1.toList = [1, 0, 0, 0, 0, 1].map fun z => Value.int .i64 z) (k2 : c2.toList = Lib.pow10Tab.map fun z => Value.int .u64 z) : ∃ E : Env, RH E (hpT [] glY []) W := by
 obtain ⟨e1, fz1, b1⟩ := var_block gAxes hv1
 obtain ⟨e2, fz2, b2⟩ := var_block gPow hv2
 refine rh_ro (vs := [(0, [1, 0, 0, 0, 0, 1].map ci), (2, Lib.pow10Tab.map fun n => .lit (.int .u64 n))]) (by simp [lim]) (fun g id hg => ?_) (fun i g cs hi => ?_)
 ·have hg : lookupN [(0, 0), (2, 1)] g = some id := hg
  unfold lookupN at hg
  split at hg
  ·rename_i e
   obtain rfl := Nat.eq_of_beq_eq_true e
   injection hg with hg; subst hg
   exact ⟨_, rfl⟩
  ·unfold lookupN at hg
   split at hg
   ·rename_i e
    obtain rfl := Nat.eq_of_beq_eq_true e
    injection hg with hg; subst hg
    exact ⟨_, rfl⟩
   ·cases hg
 ·match i, hi with
  | 0, hi =>
   injection hi with hi
   injection hi with hi hi2; subst hi; subst hi2
   exact ⟨c1, e1, fz1, b1, fun E => by rw [k1]; exact ints_is⟩
  | 1, hi =>
   injection hi with hi
   injection hi with hi hi2; subst hi; subst hi2
   exact ⟨c2, e2, fz2, b2, fun E => by rw [k2]; exact ints_is⟩
  | i + 2, hi => cases hi
theorem rh_data {l : List (String × DataW Unit)} {W : World} {ps : List MemPlace} (hv : DataW.LaidVars Tryz.prog W l ps) (m1 : ("spillage/sun.axes", Rows.laid_spillage_sun_axes) ∈ l) (m2 : ("internal/strconv.uint64pow10", Rows.laid_internal_strconv_uint64pow10) ∈ l) : ∃ E : Env, RH E (hpT [] glY []) W := by
 obtain ⟨g1, t1, c1, f1, p1, hg1, ht1, hv1, _, _, _, _, hd1⟩ := laidVar hv _ _ m1
 obtain ⟨g2, t2, c2, f2, p2, hg2, ht2, hv2, _, _, _, _, hd2⟩ := laidVar hv _ _ m2
 obtain rfl := Option.some.inj (gAxes.symm.trans hg1)
 obtain rfl := Option.some.inj (gPow.symm.trans hg2)
 have tA : (Tryz.prog.globals[0]?).map (·.type) = some 53 := by kernel_rfl
 have tP : (Tryz.prog.globals[2]?).map (·.type) = some 207 := by kernel_rfl
 obtain rfl := Option.some.inj (tA.symm.trans ht1)
 obtain rfl := Option.some.inj (tP.symm.trans ht2)
 exact rh_vars hv1 hv2 (axes_cells hd1) (Lib.cells_of_tab Tryz.underlying207 Tryz.underlying200 (by kernel_rfl) (by kernel_rfl) hd2)
theorem cells_of {W : World} {r : Reach} {base : Nat} {t : TypeId} {v : Value} {ts : List TypeId} (hs : ∃ d, Tryz.prog.underlying t = some d ∧ descAgg d = true) (hc : Tryz.prog.cellTypes Tryz.prog.depth t = some ts) (hz : Tryz.prog.cellsOf t = ts.length)
  (h : Value.okWide Tryz.prog W r base t v) : ∃ l : List Value, l.length = ts.length ∧ v = .agg l.toArray ∧ ∀ (i : Nat) (x : Value) (u : TypeId), l[i]? = some x → ts[i]? = some u → Cell.okWide Tryz.prog W r base u x := by
 obtain ⟨d, hd, ha⟩ := hs
 have h' : ∃ cs, v = .agg cs ∧ cs.size = Tryz.prog.cellsOf t ∧ Row.okWide Tryz.prog W r base t cs := by
  unfold Value.okWide at h
  rw [hd] at h
  cases d <;> first | exact h | cases ha
 obtain ⟨cs, rfl, hsz, ts', hts, _, hcell⟩ := h'
 obtain rfl := Option.some.inj (hc.symm.trans hts)
 refine ⟨cs.toList, by rw [Array.length_toList, hsz, hz], by simp, fun i x u hx hu => ?_⟩
 rw [Array.getElem?_toList] at hx
 obtain ⟨u', hu', hk⟩ := hcell i x hx
 have hi : i < ts.length := (List.getElem?_eq_some_iff.1 hu).1
 rw [Nat.mod_eq_of_lt hi, hu] at hu'
 obtain rfl := Option.some.inj hu'
 exact hk
theorem cell_int {W : World} {r : Reach} {base : Nat} {x : Value} (h : Cell.okWide Tryz.prog W r base 3 x) : ∃ z, x = .int .i64 z :=
 okWide_int (base := base) (t := 3) Tryz.underlying3 (by unfold Value.okWide; rw [Tryz.underlying3]; exact h)
theorem cell_str {W : World} {r : Reach} {base : Nat} {x : Value} (h : Cell.okWide Tryz.prog W r base 9 x) : ∃ s, x = .string s :=
 okWide_string (base := base) (t := 9) Tryz.underlying9 (by unfold Value.okWide; rw [Tryz.underlying9]; exact h)
theorem agg_is {E : Env} {cs : List C} {l : List Value} (h : All2 (C.Is E) cs l) : (A.agg cs).Is E (.agg l.toArray) := ⟨l, rfl, h⟩
theorem args_below {H : Type} {enc : TypeId × Value → H} {P : Program} (hl : laidOutB P = true) {W W' : World} (hb : Below W.heap.size W W') : ∀ {ts : List TypeId} {vs : List Value} {ds : List (DataW H)} {ps : List MemPlace}, (ts.all fun t => P.readableRec t && decide (t < P.types.size)) = true →
  DataW.TrodAll enc P W 0 (fun _ => true) true ts vs ds ps → (∀ x ∈ ps, x.block < W.heap.size) → DataW.TrodAll enc P W' 0 (fun b => decide (b < W.heap.size)) true ts vs ds ps
 | [], [], [], ps, _, h, _ => h
 | t :: ts, v :: vs, d :: ds, ps, ht, h, hlt => by
  obtain ⟨p, p', h1, h2, rfl⟩ := h
  rw [List.all_cons, Bool.and_eq_true, Bool.and_eq_true, decide_eq_true_eq] at ht
  exact ⟨p, p', Below.trod hl ht.1.1 ht.1.2 h1 hb (fun x hx => hlt x (by simp [hx])), args_below hl hb ht.2 h2 (fun x hx => hlt x (by simp [hx])), rfl⟩
 | [], _ :: _, _, _, _, h, _ => h.elim
 | [], [], _ :: _, _, _, h, _ => h.elim
 | _ :: _, [], _, _, _, h, _ => h.elim
 | _ :: _, _ :: _, [], _, _, h, _ => h.elim
theorem laidOut : laidOutB Tryz.prog = true := by kernel_rfl
theorem below_of {E E' : Env} {h : Hp} {W W' : World} (hl : h.low = h.next) (rh : RH E h W) (hst : Stp E h W E' h W') : Below W.heap.size W W' :=
 ⟨hst.fr.os, hst.fr.tape, hst.fr.output, hst.fr.size, fun k hk => hst.fr.keep k hk fun id p hp _ => by
  rcases Nat.lt_or_ge id h.next with hi | hi
  ·rw [hl]; exact hi
  ·rw [rh.dom id hi] at hp; cases hp⟩
theorem post_true {H : Type} {enc : TypeId × Value → H} {f : Func} {s : ChangeSpec} {W W' : World} {args : Array Value} {ds gs : List (DataW H)} {before : List MemPlace} (hvars : s.vars = []) (hsp : (s.fn H (ds ++ gs)) = { results := [.lit (.bool true)], args := ds })
  (hW : DataW.Whole enc Tryz.prog f.params.toList s.vars false W args.toList ds gs before) (hb : Below W.heap.size W W') (hr : f.resultTypes = #[4]) (hts : (f.params.toList.all fun t => Tryz.prog.readableRec t && decide (t < Tryz.prog.types.size)) = true) :
  s.post enc Tryz.prog f false true false false W args (.bool true) W' := by
 have hlt := hW.lt
 have hW' := hW
 obtain ⟨p, q, hA, hV, rfl, _, _⟩ := hW
 rw [hvars] at hV
 obtain ⟨rfl, rfl⟩ := trodVars_none hV
 refine ⟨ds, [], _, [], p, [], hW', ?_, ?_, ?_, hb.frame _, fun h => by cases h⟩
 ·rw [hsp, hr]; exact trodAll_mk1 (shut_bool Tryz.underlying4 _)
 ·rw [hsp]; exact args_below laidOut hb hts hA fun x hx => hlt x (by simp [hx])
 ·rw [hsp, hvars]; rfl
end Go.Proofs.YtkalcencblhlgaaGreatDoor
namespace Go.Proofs.YtkalcencblhlgaaGreatDoor
open Go.ChangeShapes Go.WideShapes Go.ChangeAt Go.RowKit Go.Ev
set_option maxRecDepth 100000
def laid6 : List (String × DataW Unit) := [("math/bits.deBruijn32tab", Rows.laid_math_bits_deBruijn32tab), ("math/bits.deBruijn64tab", Rows.laid_math_bits_deBruijn64tab), ("internal/strconv.uint64pow10", Rows.laid_internal_strconv_uint64pow10), ("unicode/utf8.acceptRanges", Rows.laid_unicode_utf8_acceptRanges), ("spillage/sun.axes", Rows.laid_spillage_sun_axes), ("unicode/utf8.first", Rows.laid_unicode_utf8_first)]
theorem rh_laid6 {W : World} (h : laidMetH Tryz.prog laid6 W) : ∃ E : Env, RH E (hpT [] glY []) W := by
 rw [MakeChecks.laidMetH_plain _ _ _ (by kernel_rfl)] at h
 obtain ⟨ps, hv, _, _⟩ := h
 exact rh_data hv (by simp [laid6]) (by simp [laid6])
noncomputable def door0 (os : Os) : World := World.doorLaid Tryz.prog 60 os
noncomputable def door6 (os : Os) : World := (door0 os).layVars Tryz.prog laid6
theorem door6_os (os : Os) : (door6 os).os = os := World.layVars_os _ _ _
theorem door6_plain (os : Os) : laidMet Tryz.prog laid6 (door6 os) := by
 have e1 : (laid6.filter fun x => (laid6.map (·.1)).contains x.1) = laid6 := List.filter_eq_self.2 fun x hx => List.contains_iff_mem.2 (List.mem_map.2 ⟨x, hx, rfl⟩)
 have e2 : (laid6.filter fun x => !(laid6.map (·.1)).contains x.1) = [] := List.filter_eq_nil_iff.2 fun x hx => by rw [List.contains_iff_mem.2 (List.mem_map.2 ⟨x, hx, rfl⟩)]; simp
 exact laidMet_layVars (w0 := door0 os) (laid6.map (·.1)) [] (by rw [e1]; rfl) (by rw [e1]; kernel_rfl) (by rw [e1]; kernel_rfl) (by rw [e2]; exact LaidIn.none)
theorem door6_met (os : Os) (args : Array Value) : laidMetH Tryz.prog laid6 ((door6 os).forCall (fun _ _ => 0) ⟨#[], args, []⟩).memory := by
 rw [MakeChecks.laidMetH_plain _ _ _ (by kernel_rfl)]
 exact (door6_plain os).of_heap (by simp [World.memory, World.forCall, Input.heap])
theorem door6_shaped (os : Os) (args : Array Value) : ((door6 os).forCall (fun _ _ => 0) ⟨#[], args, []⟩).Shaped Tryz.prog := World.shaped_of_ZipB (by kernel_rfl) (by kernel_rfl)
end Go.Proofs.YtkalcencblhlgaaGreatDoor
namespace Go.Proofs.YtkalcencblhlgaaGreatDoor
open Go.ChangeShapes Go.WideShapes Go.ChangeAt Go.RowKit Go.Ev
set_option maxRecDepth 100000
theorem globsG_shift : ∀ {gl : List (Nat × List C)} {a j g i : Nat}, lookupN (globsG (a + j) gl) g = some i → j ≤ i ∧ lookupN (globsG a gl) g = some (i - j)
 | [], _, _, _, _, h => by cases h
 | (g0, _) :: gl, a, j, g, i, h => by
  simp only [globsG, lookupN] at h ⊢
  split at h
  ·injection h with h; subst h
   exact ⟨Nat.le_add_left _ _, by rw [Nat.add_sub_cancel]⟩
  ·rw [show a + j + 1 = (a + 1) + j by omega] at h
   exact globsG_shift h
theorem rh_tabs {E : Env} {gl : List (Nat × List C)} {W : World} (rh : RH E (hpT [] gl []) W) (hgl : (gl.all fun x => noIds x.2) = true) {ts : List TA} {ps : List (Nat × Nat × Nat)} (hs : ∀ t ∈ ts, t.id.isSome = true) (hlim : ts.length + gl.length ≤ lim)
  (hall : All2 (fun (t : TA) p => p.1 < W.heap.size ∧ ∀ E', blkIs E' W p ⟨true, 0, .rows t.n t.cols⟩) ts ps) : ∃ E' : Env, RH E' (hpT ts gl []) W ∧ ∀ i p, nth ps i = some p → E' i = some p := by
 have hbl : ∀ {ts : List TA}, (∀ t ∈ ts, t.id.isSome = true) → blksT ts = ts.map fun t => ⟨true, 0, .rows t.n t.cols⟩ := fun {ts} h => by
  induction ts with
  | nil => rfl
  | cons t ts ih =>
   obtain ⟨id, n, cols⟩ := t
   cases id with
   | none => have := h _ (List.mem_cons_self); cases this
   | some id => simp only [blksT, List.map_cons]; rw [ih fun t ht => h t (List.mem_cons_of_mem _ ht)]
 have hT := hbl hs
 have hTl : (blksT ts).length = ts.length := by rw [hT]; simp
 have hpl : ps.length = ts.length := hall.length.symm
 have hG : (blksG gl).length = gl.length := by simp [blksG]
 have hlen : (bsS ts gl).length = ts.length + gl.length := by unfold bsS; rw [List.length_append, hTl, hG]
 have g0 : ∀ j, (hpT [] gl []).heap.get D j = nth (blksG gl) j := fun j => hpL_get (bs := blksG gl) (globs := globsG 0 gl) (by omega) j
 have g1 : ∀ j, (hpT ts gl []).heap.get D j = nth (bsS ts gl) j := fun j => hpL_get (bs := bsS ts gl) (globs := globsG (blksT ts).length gl) (by omega) j
 have hro : ∀ {i : Nat} {b : Blk}, nth (bsS ts gl) i = some b → b.ro = true := fun {i b} h => by
  unfold bsS at h
  rw [nth_app] at h
  split at h
  ·rw [hT, nth_eq, List.getElem?_map] at h
   cases hx : ts[i]? with
   | none => rw [hx] at h; cases h
   | some x => rw [hx] at h; injection h with h; subst h; rfl
  ·unfold blksG at h
   rw [nth_eq, List.getElem?_map] at h
   cases hx : gl[i - (blksT ts).length]? with
   | none => rw [hx] at h; cases h
   | some x => rw [hx] at h; injection h with h; subst h; rfl
 obtain ⟨E', hE'⟩ : ∃ E' : Env, ∀ i, E' i = if i < ts.length then nth ps i else E (i - ts.length) := ⟨_, fun _ => rfl⟩
 refine ⟨E', ⟨by show (bsS ts gl).length ≤ lim; omega, fun id hid => ?_, fun id p hp => ?_, fun id b hb => ?_, fun id id' b b' p p' hb hb' hr hp hp' he => ?_, fun g id hg => ?_, fun _ _ e => by cases e⟩, fun i p hp => ?_⟩
 ·have hid : (bsS ts gl).length ≤ id := hid
  rw [hE', if_neg (by omega)]
  exact rh.dom _ (by show (blksG gl).length ≤ _; omega)
 ·rw [hE'] at hp
  split at hp
  ·obtain ⟨t, ht, h1, _⟩ : ∃ t, nth ts id = some t ∧ (p.1 < W.heap.size ∧ ∀ E', blkIs E' W p ⟨true, 0, .rows t.n t.cols⟩) := by
    have hlt : id < ts.length := by assumption
    have hte : nth ts id = some ts[id] := by rw [nth_eq]; exact List.getElem?_eq_getElem hlt
    obtain ⟨p', hp', h1⟩ := hall.get id _ hte
    rw [nth_eq] at hp
    obtain rfl := Option.some.inj (hp.symm.trans hp')
    exact ⟨_, hte, h1⟩
   exact h1
  ·exact rh.lt _ _ hp
 ·rw [g1] at hb
  unfold bsS at hb
  rw [nth_app] at hb
  split at hb
  ·rename_i hlt
   rw [hT, nth_eq, List.getElem?_map] at hb
   cases hx : ts[id]? with
   | none => rw [hx] at hb; cases hb
   | some t =>
    rw [hx] at hb
    injection hb with hb; subst hb
    obtain ⟨p, hp, h1, h2⟩ := hall.get id t (by rw [nth_eq]; exact hx)
    exact ⟨p, by rw [hE', if_pos (by omega), nth_eq]; exact hp, h2 _⟩
  ·rename_i hge
   rw [hTl] at hge hb
   obtain ⟨p, hp, hi⟩ := rh.blk (id - ts.length) b ((g0 _).trans hb)
   refine ⟨p, by rw [hE', if_neg (by omega)]; exact hp, ?_⟩
   have hbm : ∃ x ∈ gl, b = ⟨true, 0, .flat x.2⟩ := by
    unfold blksG at hb
    rw [nth_eq, List.getElem?_map] at hb
    cases hx : gl[id - ts.length]? with
    | none => rw [hx] at hb; cases hb
    | some x => rw [hx] at hb; injection hb with hb; exact ⟨x, List.mem_of_getElem? hx, hb.symm⟩
   obtain ⟨x, hx, rfl⟩ := hbm
   exact (subV_flat (e := 0) (List.all_eq_true.1 hgl x hx)).2 E E' W p hi
 ·rw [g1] at hb
  rw [hro hb] at hr
  cases hr
 ·have hg : lookupN (globsG (blksT ts).length gl) g = some id := hg
  rw [hTl] at hg
  have hg0 : lookupN (globsG (0 + ts.length) gl) g = some id := by rw [Nat.zero_add]; exact hg
  obtain ⟨h1, h2⟩ := globsG_shift hg0
  obtain ⟨s, hs⟩ := rh.glob g (id - ts.length) h2
  exact ⟨s, by rw [hE', if_neg (by omega)]; exact hs⟩
 ·rw [hE', if_pos (by have := nth_lt hp; omega)]
  exact hp
theorem slice_arg {H : Type} {enc : TypeId × Value → H} {P : Program} {W : World} {base fuel : Nat} {t e : TypeId} {v : Value} {d : DataW H} {p : List MemPlace} (hu : P.underlying t = some (.slice e)) (hv : Value.okWide P W .any base t v)
  (h : DataW.trod enc P W 0 (fun _ => true) true fuel t v.cells.toList = some (d, p)) : v = .slice none 0 0 ∨ ∃ b o len cap arr ty fz, v = .slice (some ⟨b, o, none⟩) len cap ∧ len ≤ cap ∧ cap ≤ maxLen ∧ W.heap[b]? = some (.cells arr ty fz) ∧
   ∀ i, i < len → ∃ cs n x, cs.length = P.cellsOf e ∧ (∀ j, j < P.cellsOf e → arr[o + (i * P.cellsOf e + j)]? = cs[j]?) ∧ DataW.trod enc P W 0 (fun _ => true) true n e cs = some x := by
 have hv : Cell.okWide P W .any base t v := by unfold Value.okWide at hv; rw [hu] at hv; exact hv
 have hv : Cell.ok P W .any base t v := by
  unfold Cell.okWide at hv
  rw [hu] at hv
  exact hv
 unfold Cell.ok at hv
 rw [hu] at hv
 cases v with
 | slice a len cap =>
  cases a with
  | none =>
   have : len = 0 ∧ cap = 0 := by
    cases len with
    | zero => cases cap with
     | zero => exact ⟨rfl, rfl⟩
     | succ c => exact hv.elim
    | succ l => exact hv.elim
   obtain ⟨rfl, rfl⟩ := this
   exact .inl rfl
  | some a =>
   right
   obtain ⟨h1, h2, _, hsp, row, cells, hsh, _⟩ := hv
   obtain ⟨b, o, sp⟩ := a
   have hsp : sp = none := hsp
   subst hsp
   have hb : ∃ arr fz, W.heap[b]? = some (.cells arr row fz) := by
    unfold World.shape? at hsh
    split at hsh
    ·rename_i c el fz hh
     injection hsh with hsh
     injection hsh with e1 e2
     subst e1
     exact ⟨c, fz, hh⟩
    ·cases hsh
   obtain ⟨arr, fz, hh⟩ := hb
   rcases Go.Deep.open_slice hu (show DataW.trod enc P W 0 (fun _ => true) true fuel t [.slice (some ⟨b, o, none⟩) len cap] = some (d, p) from h) with ⟨h0, _⟩ | ⟨a', len', cap', m, n, D0, Pl, hcs, _, hl, hm, hmm, _, hx⟩
   ·cases h0
   ·injection hcs with hcs _
    injection hcs with e1 e2 e3
    injection e1 with e1
    subst e1; subst e2; subst e3
    refine ⟨b, o, len, cap, arr, row, fz, rfl, hl, hm, hh, fun i hi => ?_⟩
    have hm' : m = cap := by simpa using hmm
    obtain ⟨cs', c1, c2⟩ := hx i (by omega)
    obtain ⟨_, c3, c4⟩ := World.cells?_some c1
    refine ⟨cs', n, _, c3, fun j hj => ?_, c2⟩
    rw [← c4 j hj, addr_add, addr_add, cell_of_row W b _ arr row fz hh, Nat.add_assoc]
 | _ => exact hv.elim
theorem cell_wide {W : World} {base : Nat} {t e : TypeId} {v : Value} (hu : Tryz.prog.underlying t = some (.slice e)) (h : Cell.okWide Tryz.prog W .any base t v) : Value.okWide Tryz.prog W .any base t v := by
 unfold Value.okWide
 rw [hu]
 exact h
theorem slice_cells {W : World} {base : Nat} {t e : TypeId} {v : Value} (hu : Tryz.prog.underlying t = some (.slice e)) (h : Cell.okWide Tryz.prog W .any base t v) : v.cells.toList = [v] := by
 unfold Cell.okWide at h
 rw [hu] at h
 simp only at h
 unfold Cell.ok at h
 rw [hu] at h
 cases v <;> first | rfl | exact h.elim
theorem empty_tab {E : Env} {W : World} {id : Nat} {t0 : TypeId} {cs : List C} {h : Hp} (rh : RH E h W) (hb : h.blk id = some ⟨true, t0, .flat cs⟩) : ∃ q : Nat × Nat × Nat, q.1 < W.heap.size ∧ ∀ E' cols, blkIs E' W q ⟨true, 0, .rows 0 cols⟩ := by
 obtain ⟨p, hp, arr, fz, ⟨ty, h1, _⟩, h2, _, _⟩ := rh.cells hb rfl
 exact ⟨p, rh.lt _ _ hp, fun E' cols => .inl ⟨arr, fz, ⟨ty, h1, fun e => by cases e⟩, h2, ⟨fun e => (by cases e), fun k j c hk _ => by omega⟩, fun cs e => by cases e⟩⟩
theorem row_sun {H : Type} {enc : TypeId × Value → H} {W : World} {n : Nat} {cs : List Value} {x : DataW H × List MemPlace} (hl : cs.length = 4)
  (h : DataW.trod enc Tryz.prog W 0 (fun _ => true) true n 31 cs = some x) : ∃ a b c d : Int, cs = [.int .i64 a, .int .i64 b, .int .i64 c, .int .i64 d] := by
 have cI : Tryz.prog.cellsOf 3 = 1 := by kernel_rfl
 have cV : Tryz.prog.cellsOf 29 = 3 := by kernel_rfl
 obtain ⟨y0, y1, m, hx, _, h0, h1⟩ := Go.ChangeShapes.trod_struct2 Tryz.underlying31 h
 match cs, hl with
 | [u, v, w, z], _ =>
  have h0 : DataW.trod enc Tryz.prog W 0 (fun _ => true) true m 3 (([u, v, w, z].drop 0).take (Tryz.prog.cellsOf 3)) = some y0 := h0
  have h1 : DataW.trod enc Tryz.prog W 0 (fun _ => true) true m 29 (([u, v, w, z].drop 1).take (Tryz.prog.cellsOf 29)) = some y1 := h1
  rw [cI] at h0
  rw [cV] at h1
  simp only [List.drop_zero, List.drop_succ_cons, List.take_succ_cons, List.take_zero] at h0 h1
  obtain ⟨a, k0, _⟩ := DataW.trod_int Tryz.underlying3 h0
  obtain ⟨z0, z1, z2, m2, _, _, i0, i1, i2⟩ := Go.Deep.trod_struct3 Tryz.underlying29 h1
  have i0 : DataW.trod enc Tryz.prog W 0 (fun _ => true) true m2 3 (([v, w, z].drop 0).take (Tryz.prog.cellsOf 3)) = some z0 := i0
  have i1 : DataW.trod enc Tryz.prog W 0 (fun _ => true) true m2 3 (([v, w, z].drop 1).take (Tryz.prog.cellsOf 3)) = some z1 := i1
  have i2 : DataW.trod enc Tryz.prog W 0 (fun _ => true) true m2 3 (([v, w, z].drop 2).take (Tryz.prog.cellsOf 3)) = some z2 := i2
  rw [cI] at i0 i1 i2
  simp only [List.drop_zero, List.drop_succ_cons, List.take_succ_cons, List.take_zero] at i0 i1 i2
  obtain ⟨b, k1, _⟩ := DataW.trod_int Tryz.underlying3 i0
  obtain ⟨c, k2, _⟩ := DataW.trod_int Tryz.underlying3 i1
  obtain ⟨d, k3, _⟩ := DataW.trod_int Tryz.underlying3 i2
  injection k0 with k0 _
  injection k1 with k1 _
  injection k2 with k2 _
  injection k3 with k3 _
  exact ⟨a, b, c, d, by rw [k0, k1, k2, k3]⟩
theorem tab_sun {H : Type} {enc : TypeId × Value → H} {W : World} {base : Nat} {v : Value} {d : DataW H} {p : List MemPlace} (hv : Value.okWide Tryz.prog W .any base 22 v)
  (h : DataW.Trod enc Tryz.prog W 0 (fun _ => true) true 22 v d p) {q0 : Nat × Nat × Nat} (hq1 : q0.1 < W.heap.size) (hq2 : ∀ E' cols, blkIs E' W q0 ⟨true, 0, .rows 0 cols⟩) :
  ∃ (n : Nat) (z0 z1 z2 z3 : Nat → Int) (q : Nat × Nat × Nat), n ≤ 9223372036854775807 ∧ q.1 < W.heap.size ∧ (∀ E', blkIs E' W q ⟨true, 0, .rows n (skC z0 z1 z2 z3)⟩) ∧ ∀ (E' : Env) (j : Nat), E' j = some q → (slT j 4 n).Is E' v := by
 obtain ⟨fuel, h⟩ := h
 have hc : Tryz.prog.cellsOf 31 = 4 := by kernel_rfl
 rcases slice_arg Tryz.underlying22 hv h with rfl | ⟨b, o, len, cap, arr, ty, fz, rfl, h1, h2, hh, hx⟩
 ·exact ⟨0, fun _ => 0, fun _ => 0, fun _ => 0, fun _ => 0, q0, by omega, hq1, fun E' => hq2 E' _, fun E' j _ => .inr ⟨rfl, rfl, rfl⟩⟩
 ·rw [hc] at hx
  have hrow : ∀ i, i < len → ∃ y : Int × Int × Int × Int, arr[o + (i * 4 + 0)]? = some (.int .i64 y.1) ∧ arr[o + (i * 4 + 1)]? = some (.int .i64 y.2.1) ∧ arr[o + (i * 4 + 2)]? = some (.int .i64 y.2.2.1) ∧ arr[o + (i * 4 + 3)]? = some (.int .i64 y.2.2.2) := fun i hi => by
   obtain ⟨cs, n, x, hl, hj, ht⟩ := hx i hi
   obtain ⟨a, b', c, d', rfl⟩ := row_sun hl ht
   exact ⟨(a, b', c, d'), hj 0 (by omega), hj 1 (by omega), hj 2 (by omega), hj 3 (by omega)⟩
  obtain ⟨f, hf⟩ := Go.Deep.choose_lt hrow
  refine ⟨len, fun i => (f i).1, fun i => (f i).2.1, fun i => (f i).2.2.1, fun i => (f i).2.2.2, (b, arr.size, o), by unfold maxLen at h2; omega, (Array.getElem?_eq_some_iff.1 hh).1, fun E' => ?_, fun E' j hj => .inl ⟨b, (arr.size, o), o, cap, hj, rfl, h1, h2, fun _ => by simp, fun e => by cases e⟩⟩
  refine .inl ⟨arr, fz, ⟨ty, hh, fun e => by cases e⟩, rfl, ⟨fun e => (by cases e), fun k j c hk hj => ?_⟩, fun cs e => by cases e⟩
  have hk : k < len := hk
  obtain ⟨f0, f1, f2, f3⟩ := hf k hk
  show ∃ x, (vw o arr)[k * 4 + j]? = some x ∧ _
  rw [vw_get]
  match j, hj with
  | 0, hj => injection hj with hj; subst hj; exact ⟨_, f0, rfl, rfl⟩
  | 1, hj => injection hj with hj; subst hj; exact ⟨_, f1, rfl, rfl⟩
  | 2, hj => injection hj with hj; subst hj; exact ⟨_, f2, rfl, rfl⟩
  | 3, hj => injection hj with hj; subst hj; exact ⟨_, f3, rfl, rfl⟩
  | j + 4, hj => cases hj
end Go.Proofs.YtkalcencblhlgaaGreatDoor
namespace Go.Proofs.YtkalcencblhlgaaGreatDoor
open Go.ChangeShapes Go.WideShapes Go.ChangeAt Go.RowKit Go.Ev
set_option maxRecDepth 100000
theorem row_ii {H : Type} {enc : TypeId × Value → H} {W : World} {n : Nat} {t : TypeId} {cs : List Value} {x : DataW H × List MemPlace} (hu : ∃ f0 f1 : Field, Tryz.prog.underlying t = some (.struct #[f0, f1]) ∧ f0.type = 3 ∧ f1.type = 3 ∧ f0.offset = 0 ∧ f1.offset = 1) (hl : cs.length = 2)
  (h : DataW.trod enc Tryz.prog W 0 (fun _ => true) true n t cs = some x) : ∃ a b : Int, cs = [.int .i64 a, .int .i64 b] := by
 obtain ⟨f0, f1, hs, t0, t1, o0, o1⟩ := hu
 have cI : Tryz.prog.cellsOf 3 = 1 := by kernel_rfl
 obtain ⟨y0, y1, m, hx, _, h0, h1⟩ := Go.ChangeShapes.trod_struct2 hs h
 match cs, hl with
 | [u, v], _ =>
  rw [t0, o0, cI] at h0
  rw [t1, o1, cI] at h1
  simp only [List.drop_zero, List.drop_succ_cons, List.take_succ_cons, List.take_zero] at h0 h1
  obtain ⟨a, k0, _⟩ := DataW.trod_int Tryz.underlying3 h0
  obtain ⟨b, k1, _⟩ := DataW.trod_int Tryz.underlying3 h1
  injection k0 with k0 _
  injection k1 with k1 _
  exact ⟨a, b, by rw [k0, k1]⟩
theorem tab_ii {H : Type} {enc : TypeId × Value → H} {W : World} {base : Nat} {t e : TypeId} {v : Value} {d : DataW H} {p : List MemPlace} (hu : Tryz.prog.underlying t = some (.slice e)) (hc : Tryz.prog.cellsOf e = 2) (hv : Value.okWide Tryz.prog W .any base t v)
  (hr : ∀ {n : Nat} {cs : List Value} {x : DataW H × List MemPlace}, cs.length = 2 → DataW.trod enc Tryz.prog W 0 (fun _ => true) true n e cs = some x → ∃ a b : Int, cs = [.int .i64 a, .int .i64 b])
  (h : DataW.Trod enc Tryz.prog W 0 (fun _ => true) true t v d p) {q0 : Nat × Nat × Nat} (hq1 : q0.1 < W.heap.size) (hq2 : ∀ E' cols, blkIs E' W q0 ⟨true, 0, .rows 0 cols⟩) :
  ∃ (n : Nat) (z1 z2 : Nat → Int) (q : Nat × Nat × Nat), n ≤ 9223372036854775807 ∧ q.1 < W.heap.size ∧ (∀ E', blkIs E' W q ⟨true, 0, .rows n (stC z1 z2)⟩) ∧ ∀ (E' : Env) (j : Nat), E' j = some q → (slT j 2 n).Is E' v := by
 obtain ⟨fuel, h⟩ := h
 rcases slice_arg hu hv h with rfl | ⟨b, o, len, cap, arr, ty, fz, rfl, h1, h2, hh, hx⟩
 ·exact ⟨0, fun _ => 0, fun _ => 0, q0, by omega, hq1, fun E' => hq2 E' _, fun E' j _ => .inr ⟨rfl, rfl, rfl⟩⟩
 ·rw [hc] at hx
  have hrow : ∀ i, i < len → ∃ y : Int × Int, arr[o + (i * 2 + 0)]? = some (.int .i64 y.1) ∧ arr[o + (i * 2 + 1)]? = some (.int .i64 y.2) := fun i hi => by
   obtain ⟨cs, n, x, hl, hj, ht⟩ := hx i hi
   obtain ⟨a, b', rfl⟩ := hr hl ht
   exact ⟨(a, b'), hj 0 (by omega), hj 1 (by omega)⟩
  obtain ⟨f, hf⟩ := Go.Deep.choose_lt hrow
  refine ⟨len, fun i => (f i).1, fun i => (f i).2, (b, arr.size, o), by unfold maxLen at h2; omega, (Array.getElem?_eq_some_iff.1 hh).1, fun E' => ?_, fun E' j hj => .inl ⟨b, (arr.size, o), o, cap, hj, rfl, h1, h2, fun _ => by simp, fun e => by cases e⟩⟩
  refine .inl ⟨arr, fz, ⟨ty, hh, fun e => by cases e⟩, rfl, ⟨fun e => (by cases e), fun k j c hk hj => ?_⟩, fun cs e => by cases e⟩
  have hk : k < len := hk
  obtain ⟨f0, f1⟩ := hf k hk
  show ∃ x, (vw o arr)[k * 2 + j]? = some x ∧ _
  rw [vw_get]
  match j, hj with
  | 0, hj => injection hj with hj; subst hj; exact ⟨_, f0, rfl, rfl⟩
  | 1, hj => injection hj with hj; subst hj; exact ⟨_, f1, rfl, rfl⟩
  | j + 2, hj => cases hj
theorem list3 {α : Type} : ∀ {l : List α}, l.length = 3 → ∃ x0 x1 x2, l = [x0, x1, x2]
 | [x0, x1, x2], _ => ⟨x0, x1, x2, rfl⟩
theorem vec_arg {W : World} {base : Nat} {v : Value} (hv : Value.okWide Tryz.prog W .any base 29 v) : ∃ x y z : Int, v = .agg #[.int .i64 x, .int .i64 y, .int .i64 z] := by
 obtain ⟨l0, n0, rfl, c0⟩ := cells_of (ts := [3, 3, 3]) ⟨_, Tryz.underlying29, rfl⟩ (by kernel_rfl) (by kernel_rfl) hv
 obtain ⟨a, b, c, rfl⟩ := list3 n0
 obtain ⟨x, rfl⟩ := cell_int (c0 0 _ _ rfl rfl)
 obtain ⟨y, rfl⟩ := cell_int (c0 1 _ _ rfl rfl)
 obtain ⟨z, rfl⟩ := cell_int (c0 2 _ _ rfl rfl)
 exact ⟨x, y, z, rfl⟩
theorem told_arg {H : Type} {enc : TypeId × Value → H} {W : World} {base : Nat} {v : Value} {d : DataW H} {p : List MemPlace} (hv : Value.okWide Tryz.prog W .any base 71 v) (h : DataW.Trod enc Tryz.prog W 0 (fun _ => true) true 71 v d p) :
  ∃ (nm : ByteArray) (sv : Value) (t : ByteArray) (d' : DataW H) (p' : List MemPlace), v = .agg #[.string nm, sv, .string t] ∧ Value.okWide Tryz.prog W .any base 22 sv ∧ DataW.Trod enc Tryz.prog W 0 (fun _ => true) true 22 sv d' p' := by
 obtain ⟨l0, n0, rfl, c0⟩ := cells_of (ts := [9, 22, 9]) ⟨_, Tryz.underlying71, rfl⟩ (by kernel_rfl) (by kernel_rfl) hv
 obtain ⟨b0, sv, b2, rfl⟩ := list3 n0
 obtain ⟨nm, rfl⟩ := cell_str (c0 0 _ _ rfl rfl)
 obtain ⟨t, rfl⟩ := cell_str (c0 2 _ _ rfl rfl)
 have hs := c0 1 _ _ rfl rfl
 have cI : Tryz.prog.cellsOf 9 = 1 := by kernel_rfl
 have cS : Tryz.prog.cellsOf 22 = 1 := by kernel_rfl
 have cK : Tryz.prog.cellsOf 24 = 2 := by kernel_rfl
 obtain ⟨fuel, h⟩ := h
 have h : DataW.trod enc Tryz.prog W 0 (fun _ => true) true fuel 71 [.string nm, sv, .string t] = some (d, p) := h
 obtain ⟨z0, z1, n1, _, _, j0, j1⟩ := Go.ChangeShapes.trod_struct2 Tryz.underlying71 h
 have j0 : DataW.trod enc Tryz.prog W 0 (fun _ => true) true n1 24 (([Value.string nm, sv, .string t].drop 0).take (Tryz.prog.cellsOf 24)) = some z0 := j0
 rw [cK] at j0
 simp only [List.drop_zero, List.drop_succ_cons, List.take_succ_cons, List.take_zero] at j0
 obtain ⟨y0, y1, n, _, _, i0, i1⟩ := Go.ChangeShapes.trod_struct2 (x := z0) Tryz.underlying24 j0
 have i1 : DataW.trod enc Tryz.prog W 0 (fun _ => true) true n 22 (([Value.string nm, sv].drop 1).take (Tryz.prog.cellsOf 22)) = some y1 := i1
 rw [cS] at i1
 simp only [List.drop_zero, List.drop_succ_cons, List.take_succ_cons, List.take_zero] at i1
 exact ⟨nm, sv, t, y1.1, y1.2, rfl, cell_wide Tryz.underlying22 hs, n, by rw [slice_cells Tryz.underlying22 hs]; exact i1⟩
def backIn : Array Value := #[.slice none 0 0, .agg #[.int .i64 0, .int .i64 0, .int .i64 0], .agg #[.string ⟨#[]⟩, .slice none 0 0, .string ⟨#[]⟩]]
theorem back_door {H : Type} (enc : TypeId × Value → H) (os : Os) : ∃ (w : World) (tape : Tape) (i : Input), w.os = os ∧ (w.forCall tape i).Shaped Tryz.checked.prog ∧ i.vars = [] ∧ Input.okWide Tryz.checked.prog (w.forCall tape i) .any w.heap.size 5 i ∧
      ((Rows.sunBackSpec.pre enc Tryz.checked.prog Tryz.f5 [] false (w.forCall tape i).memory i.args ∧ laidMetH Tryz.prog laid6 (w.forCall tape i).memory) ∧ sizedMet enc Tryz.checked.prog Tryz.f5 (OpenSpec.ofChange Rows.sunBackSpec) false (w.forCall tape i).memory i.args) ∧ ({} : Assume).holds Tryz.checked.prog (lone (Frame.enter Tryz.checked.prog 5 i.args .normal) [] (w.forCall tape i)) :=
  ChangeSpec.witness_shaped (enc := enc) (C := Tryz.checked) (os := os) (X := fun w _ => laidMetH Tryz.prog laid6 w) false (door6 os) backIn 8 (door6_os os) (door6_shaped os _) (by kernel_rfl) (by kernel_rfl) (by kernel_rfl) (door6_met os _)
theorem back_word (nm s : ByteArray) (x y z : Int) {n N : Nat} {f l z0 z1 z2 z3 : Nat → Int} {v v2 : Value} {E : Env} {W : World} (rh : RH E (bkHp n N f l z0 z1 z2 z3) W) (hv : (slT 0 2 n).Is E v) (hv2 : (slT 1 4 N).Is E v2) :
  Calls Tryz.prog 5 #[v, .agg #[.int .i64 x, .int .i64 y, .int .i64 z], .agg #[.string nm, v2, .string s]] W fun e W' => e = .returned (.bool true) ∧ Below W.heap.size W W' := by
 refine (back_call n N f l z0 z1 z2 z3 x y z nm s E W [v, .agg #[.int .i64 x, .int .i64 y, .int .i64 z], .agg #[.string nm, v2, .string s]] rh ⟨hv, agg_is (l := [.int .i64 x, .int .i64 y, .int .i64 z]) ⟨⟨rfl, rfl⟩, ⟨rfl, rfl⟩, ⟨rfl, rfl⟩, trivial⟩, agg_is (l := [.string nm, v2, .string s]) ⟨⟨rfl, rfl⟩, hv2, ⟨rfl, rfl⟩, trivial⟩, trivial⟩).mono ?_
 rintro e W2 ⟨v, E', rfl, hv, hst⟩
 obtain ⟨rfl, _⟩ := hv
 exact ⟨rfl, below_of rfl rh hst⟩
theorem back_lifted (os : Os) (started : os.Started) (H : Type) (enc : TypeId × Value → H) :
  ReturnsInHanded {} Tryz.checked os 5 .any (fun w args => (Rows.sunBackSpec.pre enc Tryz.checked.prog Tryz.f5 [] false w args ∧ laidMetH Tryz.prog laid6 w) ∧ sizedMet enc Tryz.checked.prog Tryz.f5 (OpenSpec.ofChange Rows.sunBackSpec) false w args)
   (Rows.sunBackSpec.post enc Tryz.checked.prog Tryz.f5 false true false false) := by
 refine returnsInHanded_of_change_and (C := Tryz.checked) (X := fun w _ => laidMetH Tryz.prog laid6 w) (fun _ _ _ hh h => h.of_heap hh) own started (by kernel_rfl) Tryz.func5 (back_door enc os) ?_
 intro W base args ds gs before hval0 hW _ _ hL _
 have hval : ∀ (j : Nat) t v, Tryz.f5.params[j]? = some t → args[j]? = some v → Value.okWide Tryz.prog W .any base t v := hval0
 have hW' := hW
 obtain ⟨p, q, hA0, hV, rfl, hfz, hnd⟩ := hW
 have hA : DataW.TrodAll enc Tryz.prog W 0 (fun _ => true) true Tryz.f5.params.toList args.toList ds p := hA0
 rw [Tryz.params5] at hA hval
 obtain ⟨v0, v1, v2, d0, d1, d2, p0, p1, p2, rfl, rfl, _, h0, h1, h2⟩ := trodAll_three hA
 obtain ⟨rfl, rfl⟩ := trodVars_none hV
 obtain ⟨E, rh⟩ := rh_laid6 hL
 obtain ⟨q0, hq1, hq2⟩ := empty_tab (id := 0) rh rfl
 obtain ⟨x, y, z, rfl⟩ := vec_arg (hval 1 _ v1 rfl rfl)
 obtain ⟨nm, sv, s, d', p', rfl, hsv, hst⟩ := told_arg (hval 2 _ v2 rfl rfl) h2
 obtain ⟨n, f, l, q1, hn, hq, hqb, hqv⟩ := tab_ii Tryz.underlying69 (by kernel_rfl) (hval 0 _ v0 rfl rfl) (fun hl ht => row_ii ⟨_, _, Tryz.underlying148, rfl, rfl, rfl, rfl⟩ hl ht) h0 hq1 hq2
 obtain ⟨N, z0, z1, z2, z3, q2, hN, hr, hrb, hrv⟩ := tab_sun hsv hst hq1 hq2
 obtain ⟨E2, rh2, hE2⟩ := rh_tabs (gl := glY) (ts := [⟨some 0, n, stC f l⟩, ⟨some 1, N, skC z0 z1 z2 z3⟩]) (ps := [q1, q2]) rh (by kernel_rfl) (by simp) (by simp [glY, lim]) ⟨⟨hq, hqb⟩, ⟨hr, hrb⟩, trivial⟩
 refine (back_word nm s x y z rh2 (hqv E2 0 (hE2 0 q1 rfl)) (hrv E2 1 (hE2 1 q2 rfl))).mono ?_
 rintro e W2 ⟨rfl, hb⟩
 exact ⟨_, rfl, post_true rfl rfl hW' hb rfl (by kernel_rfl)⟩
theorem sunBack_holds : Rows.SunBackSaid :=
 OpenClaim.holds_of_wide 5 Tryz.f5 rfl rfl rfl rfl rfl rfl rfl ⟨rfl, rfl, rfl, rfl, rfl⟩ rfl rfl rfl rfl rfl (by kernel_rfl) Tryz.func5 (by kernel_rfl)
  (of_decide_eq_true (by kernel_rfl)) (by unfold Func.isWrapper; first | (rw [if_pos (by decide +kernel)]; kernel_rfl) | (rw [if_neg (by decide +kernel)]; exact ⟨rfl, rfl⟩))
  (fun os started H enc _ => back_lifted os started H enc)
theorem sunBack_card : Rows.SunBackCardSaid :=
 Claim7.holds_tied_plain_at .later [] [.data, .data, .data, .data, .data, .pinned] true (true, "270a980da8cd2bb5699b16897d48f3470cb5bb4b0ef9c7b644b272c3371236cd") false
  sunBack_holds (fun _ h => by cases h) (by kernel_rfl) (fun _ h => by cases h) sunBack_row_tie rfl ⟨rfl, rfl⟩ (by kernel_rfl) rfl
  (fun f fn hf hfn => by
   obtain rfl : f = 5 := Option.some.inj ((show Tryz.prog.funcNamed "spillage/spillagelaw02.SunBack" = some 5 by kernel_rfl).symm.trans hf) |>.symm
   obtain rfl : fn = Tryz.f5 := (Option.some.inj (Tryz.func5.symm.trans hfn)).symm
   exact ⟨by kernel_rfl, fun j t ht => by
    rw [Tryz.params5] at ht
    have hm : t ∈ [69, 29, 71] := by simpa using Array.mem_of_getElem? ht
    have hall : ([69, 29, 71].all fun u => !Tryz.prog.wantsStandIn u) = true := by kernel_rfl
    exact (show Tryz.prog.wantsStandIn t = false by simpa using List.all_eq_true.1 hall t hm)⟩)
  (by kernel_rfl)
#print axioms sunBack_card
end Go.Proofs.YtkalcencblhlgaaGreatDoor
