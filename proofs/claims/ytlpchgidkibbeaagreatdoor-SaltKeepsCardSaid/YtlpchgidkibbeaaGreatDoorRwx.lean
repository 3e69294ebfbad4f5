/- From the evaluator's word on a law to the row's statement: what the listed variables hold, what the arguments are, what is asked behind the call. Conditions: none. -/
import Derived.Test.YtlpchgidkibbeaaGreatDoorRows
import Derived.Test.YtlpchgidkibbeaaGreatDoorLaw0
import Derived.ProofKit
import Derived.LaidMore
import Derived.LaidSub
import Derived.OpenShut
import Derived.Carry
import Derived.Stop.Joined
import Derived.Lib.LaidTab
import Derived.Deep.Strs
import Derived.LaidHandle
import Derived.Deep.DeepLaidRun
import Derived.Lay
namespace Go.Proofs.YtlpchgidkibbeaaGreatDoor
open Go.ChangeShapes Go.WideShapes Go.ChangeAt Go.RowKit Go.Ev
set_option maxRecDepth 100000
theorem own : ownKnob Tryz.prog.godebug = none := by kernel_rfl
theorem gActs : Tryz.prog.globalNamed "spillage/salt.acts" = some 0 := by kernel_rfl
theorem gPow : Tryz.prog.globalNamed "internal/strconv.uint64pow10" = some 2 := by kernel_rfl
theorem laidVar {P : Program} {W : World} : ∀ {l : List (String × DataW Unit)} {ps : List MemPlace}, DataW.LaidVars P W l ps → ∀ n d, (n, d) ∈ l → ∃ g t cs fuel p, P.globalNamed n = some g ∧ (P.globals[g]?).map (·.type) = some t ∧ W.var? P n = some cs ∧
  ∃ (enc : TypeId × Value → Unit) (base : Nat) (sp : Nat → Bool) (held : Bool), DataW.trod enc P W base sp held fuel t cs.toList = some (d, p)
 | [], _, _, _, _, hm => by cases hm
 | (n0, d0) :: l, ps, h, n, d, hm => by
  obtain ⟨g, t, cs, fuel, p, q, h1, h2, h3, h4, h5, _⟩ := h
  rcases List.mem_cons.1 hm with e | hm
  ·injection e with e1 e2
   subst e1; subst e2
   exact ⟨g, t, cs, fuel, p, h1, h2, h3, _, _, _, _, h4⟩
  ·exact laidVar h5 n d hm
theorem var_block {P : Program} {W : World} {n : String} {g : Nat} {cs : Array Value} (hg : P.globalNamed n = some g) (h : W.var? P n = some cs) : ∃ t fz, W.heap[g]? = some (.cells cs t fz) := by
 unfold World.var? at h
 rw [hg] at h
 simp only [Option.bind_some] at h
 split at h
 ·rename_i c t fz hh
  injection h with h; subst h
  exact ⟨t, fz, hh⟩
 ·cases h
theorem act_cells {W : World} {base : Nat} {sp : Nat → Bool} {fuel : Nat} {cs : List Value} {p : List MemPlace} {l : List UInt8} {b1 b2 : UInt8} {r1 r2 : List UInt8} {f1 f2 : FuncId}
  (h1 : ((List.range Tryz.prog.funcs.size).filter fun f => (Tryz.prog.funcs[f]?).any (·.name.toUTF8.data.toList == b1 :: r1)) = [f1]) (h2 : ((List.range Tryz.prog.funcs.size).filter fun f => (Tryz.prog.funcs[f]?).any (·.name.toUTF8.data.toList == b2 :: r2)) = [f2])
  (h : DataW.trod (funcToken Tryz.prog) Tryz.prog W base sp true fuel 223 cs = some (.agg [.lit (.string l), .held (b1 :: r1), .held (b2 :: r2)], p)) : cs = [.string ⟨l.toArray⟩, .func (.func f1) #[] #[], .func (.func f2) #[] #[]] := by
 have cS : Tryz.prog.cellsOf 9 = 1 := by kernel_rfl
 have cT : Tryz.prog.cellsOf 220 = 1 := by kernel_rfl
 have cM : Tryz.prog.cellsOf 221 = 1 := by kernel_rfl
 have c3 : Tryz.prog.cellsOf 223 = 3 := by kernel_rfl
 obtain ⟨y0, y1, y2, n, hx, hl, h0, hb, hc⟩ := Go.Deep.trod_struct3 Tryz.underlying223 h
 rw [c3] at hl
 match cs, hl with
 | [u, v, w], _ =>
  simp only [cS, cT, cM, List.drop_zero, List.drop_succ_cons, List.take_succ_cons, List.take_zero] at h0 hb hc
  simp only [Prod.mk.injEq, DataW.agg.injEq, List.cons.injEq, and_true] at hx
  obtain ⟨⟨e0, e1, e2⟩, _⟩ := hx
  obtain ⟨x0, q0⟩ := y0
  obtain ⟨x1, q1⟩ := y1
  obtain ⟨x2, q2⟩ := y2
  simp only at e0 e1 e2
  subst e0; subst e1; subst e2
  obtain ⟨s, k0, k1, _⟩ := DataW.trod_string Tryz.underlying9 h0
  simp only [List.cons.injEq, and_true] at k0
  simp only [Prod.mk.injEq, DataW.lit.injEq, Lit.string.injEq] at k1
  obtain rfl := func_of_trod Tryz.underlying220 h1 hb
  obtain rfl := func_of_trod Tryz.underlying221 h2 hc
  subst k0
  obtain ⟨⟨s⟩⟩ := s
  rw [k1.1]
def actV (l : List UInt8) (f1 f2 : FuncId) : List Value := [.string ⟨l.toArray⟩, .func (.func f1) #[] #[], .func (.func f2) #[] #[]]
def actsV : List Value := actV [119, 97, 105, 116] 211 212 ++ (actV [102, 105, 108, 108] 213 214 ++ (actV [100, 114, 97, 105, 110] 215 212 ++ (actV [115, 116, 97, 114, 116] 216 212 ++ actV [115, 116, 111, 112] 217 212)))
def actsIn (d : DataW Unit) : DataW Unit := match d with | .iface _ d => d | d => d
theorem one_stay : ((List.range Tryz.prog.funcs.size).filter fun f => (Tryz.prog.funcs[f]?).any (·.name.toUTF8.data.toList == 115 :: [112, 105, 108, 108, 97, 103, 101, 47, 115, 97, 108, 116, 46, 115, 116, 97, 121])) = [211] := by kernel_rfl
theorem one_always : ((List.range Tryz.prog.funcs.size).filter fun f => (Tryz.prog.funcs[f]?).any (·.name.toUTF8.data.toList == 115 :: [112, 105, 108, 108, 97, 103, 101, 47, 115, 97, 108, 116, 46, 97, 108, 119, 97, 121, 115])) = [212] := by kernel_rfl
theorem one_fill : ((List.range Tryz.prog.funcs.size).filter fun f => (Tryz.prog.funcs[f]?).any (·.name.toUTF8.data.toList == 115 :: [112, 105, 108, 108, 97, 103, 101, 47, 115, 97, 108, 116, 46, 102, 105, 108, 108])) = [213] := by kernel_rfl
theorem one_ready : ((List.range Tryz.prog.funcs.size).filter fun f => (Tryz.prog.funcs[f]?).any (·.name.toUTF8.data.toList == 115 :: [112, 105, 108, 108, 97, 103, 101, 47, 115, 97, 108, 116, 46, 114, 101, 97, 100, 121])) = [214] := by kernel_rfl
theorem one_drain : ((List.range Tryz.prog.funcs.size).filter fun f => (Tryz.prog.funcs[f]?).any (·.name.toUTF8.data.toList == 115 :: [112, 105, 108, 108, 97, 103, 101, 47, 115, 97, 108, 116, 46, 100, 114, 97, 105, 110])) = [215] := by kernel_rfl
theorem one_start : ((List.range Tryz.prog.funcs.size).filter fun f => (Tryz.prog.funcs[f]?).any (·.name.toUTF8.data.toList == 115 :: [112, 105, 108, 108, 97, 103, 101, 47, 115, 97, 108, 116, 46, 115, 116, 97, 114, 116])) = [216] := by kernel_rfl
theorem one_stop : ((List.range Tryz.prog.funcs.size).filter fun f => (Tryz.prog.funcs[f]?).any (·.name.toUTF8.data.toList == 115 :: [112, 105, 108, 108, 97, 103, 101, 47, 115, 97, 108, 116, 46, 115, 116, 111, 112])) = [217] := by kernel_rfl
theorem acts_out : (actsIn Rows.laid_spillage_salt_acts).funcsOut = .agg [
  .agg [.lit (.string [119, 97, 105, 116]), .held (115 :: [112, 105, 108, 108, 97, 103, 101, 47, 115, 97, 108, 116, 46, 115, 116, 97, 121]), .held (115 :: [112, 105, 108, 108, 97, 103, 101, 47, 115, 97, 108, 116, 46, 97, 108, 119, 97, 121, 115])],
  .agg [.lit (.string [102, 105, 108, 108]), .held (115 :: [112, 105, 108, 108, 97, 103, 101, 47, 115, 97, 108, 116, 46, 102, 105, 108, 108]), .held (115 :: [112, 105, 108, 108, 97, 103, 101, 47, 115, 97, 108, 116, 46, 114, 101, 97, 100, 121])],
  .agg [.lit (.string [100, 114, 97, 105, 110]), .held (115 :: [112, 105, 108, 108, 97, 103, 101, 47, 115, 97, 108, 116, 46, 100, 114, 97, 105, 110]), .held (115 :: [112, 105, 108, 108, 97, 103, 101, 47, 115, 97, 108, 116, 46, 97, 108, 119, 97, 121, 115])],
  .agg [.lit (.string [115, 116, 97, 114, 116]), .held (115 :: [112, 105, 108, 108, 97, 103, 101, 47, 115, 97, 108, 116, 46, 115, 116, 97, 114, 116]), .held (115 :: [112, 105, 108, 108, 97, 103, 101, 47, 115, 97, 108, 116, 46, 97, 108, 119, 97, 121, 115])],
  .agg [.lit (.string [115, 116, 111, 112]), .held (115 :: [112, 105, 108, 108, 97, 103, 101, 47, 115, 97, 108, 116, 46, 115, 116, 111, 112]), .held (115 :: [112, 105, 108, 108, 97, 103, 101, 47, 115, 97, 108, 116, 46, 97, 108, 119, 97, 121, 115])]] := by kernel_rfl
theorem acts_cells {W : World} {base : Nat} {sp : Nat → Bool} {fuel : Nat} {cs : List Value} {p : List MemPlace}
  (h : DataW.trod (funcToken Tryz.prog) Tryz.prog W base sp true fuel 246 cs = some ((actsIn Rows.laid_spillage_salt_acts).funcsOut, p)) : cs = actsV := by
 rw [acts_out] at h
 have c3 : Tryz.prog.cellsOf 223 = 3 := by kernel_rfl
 have c15 : Tryz.prog.cellsOf 246 = 15 := by kernel_rfl
 obtain ⟨xs, m, rfl, hx, hl, hlen, hf⟩ := DataW.trod_array Tryz.underlying246 h
 rw [c15] at hl
 have h0 := hf 0 (by decide)
 have h1 := hf 1 (by decide)
 have h2 := hf 2 (by decide)
 have h3 := hf 3 (by decide)
 have h4 := hf 4 (by decide)
 match cs, hl, xs, hlen, hx, h0, h1, h2, h3, h4 with
 | [a0, a1, a2, b0, b1, b2, d0, d1, d2, e0, e1, e2, f0, f1, f2], _, [x0, x1, x2, x3, x4], _, hx, h0, h1, h2, h3, h4 =>
  simp only [c3, Nat.zero_mul, Nat.one_mul, Nat.reduceMul, List.drop_zero, List.drop_succ_cons, List.take_succ_cons, List.take_zero, List.getElem?_cons_zero, List.getElem?_cons_succ] at h0 h1 h2 h3 h4
  simp only [List.map_cons, List.map_nil, Prod.mk.injEq, DataW.agg.injEq, List.cons.injEq, and_true] at hx
  obtain ⟨⟨q0, q1, q2, q3, q4⟩, _⟩ := hx
  obtain ⟨x0, y0⟩ := x0
  obtain ⟨x1, y1⟩ := x1
  obtain ⟨x2, y2⟩ := x2
  obtain ⟨x3, y3⟩ := x3
  obtain ⟨x4, y4⟩ := x4
  simp only at q0 q1 q2 q3 q4
  subst q0; subst q1; subst q2; subst q3; subst q4
  have k0 := act_cells one_stay one_always h0
  have k1 := act_cells one_fill one_ready h1
  have k2 := act_cells one_drain one_always h2
  have k3 := act_cells one_start one_always h3
  have k4 := act_cells one_stop one_always h4
  simp only [List.cons.injEq, and_true] at k0 k1 k2 k3 k4
  obtain ⟨rfl, rfl, rfl⟩ := k0
  obtain ⟨rfl, rfl, rfl⟩ := k1
  obtain ⟨rfl, rfl, rfl⟩ := k2
  obtain ⟨rfl, rfl, rfl⟩ := k3
  obtain ⟨rfl, rfl, rfl⟩ := k4
  rfl
theorem rh_ro {W : World} {vs : List (Nat × List C)} {globs : List (Nat × Nat)} (hl : vs.length ≤ lim) (hg : ∀ g id, lookupN globs g = some id → ∃ cs, nth vs id = some (g, cs))
  (hv : ∀ i g cs, nth vs i = some (g, cs) → ∃ arr t fz, W.heap[g]? = some (.cells arr t fz) ∧ ∀ E, All2 (C.Is E) cs arr.toList) : ∃ E : Env, RH E (hpL (vs.map fun x => ⟨true, 0, .flat x.2⟩) globs) W := by
 refine ⟨fun i => (nth vs i).map fun x => (x.1, x.2.length, 0), ⟨by show (vs.map _).length ≤ lim; simpa using hl, fun id hid => ?_, fun id p hp => ?_, fun id b hb => ?_, fun id id' b b' p p' hb hb' hro hp hp' he => ?_, fun g id hg' => ?_, fun _ _ e => by cases e⟩⟩
 ·have hid : (vs.map fun x => (⟨true, 0, .flat x.2⟩ : Blk)).length ≤ id := hid
  rw [List.length_map] at hid
  rw [nth_eq, List.getElem?_eq_none hid]; rfl
 ·cases hx : nth vs id with
  | none => rw [hx] at hp; cases hp
  | some x =>
   rw [hx] at hp
   injection hp with hp; subst hp
   obtain ⟨arr, t, fz, h1, _⟩ := hv id x.1 x.2 hx
   exact (Array.getElem?_eq_some_iff.1 h1).1
 ·have hb2 := (hpL_get (by simpa using hl) id).symm.trans hb
  rw [nth_eq, List.getElem?_map, ← nth_eq] at hb2
  cases hx : nth vs id with
  | none => rw [hx] at hb2; cases hb2
  | some x =>
   rw [hx] at hb2
   injection hb2 with hb2; subst hb2
   obtain ⟨arr, t, fz, h1, h2⟩ := hv id x.1 x.2 hx
   have hsz : arr.size = x.2.length := by
    rw [← Array.length_toList]
    exact (h2 fun _ => none).length.symm
   refine ⟨(x.1, x.2.length, 0), rfl, .inl ⟨arr, fz, ⟨t, h1, fun e => by cases e⟩, hsz, bodyAt_zero fun i c hc => ?_, fun cs e => by injection e with e; subst e; exact hsz⟩⟩
   obtain ⟨y, hy, hi⟩ := (h2 _).get i c hc
   exact ⟨y, by rw [← Array.getElem?_toList]; exact hy, hi⟩
 ·have hb2 := (hpL_get (by simpa using hl) id).symm.trans hb
  rw [nth_eq, List.getElem?_map] at hb2
  cases hx : vs[id]? with
  | none => rw [hx] at hb2; cases hb2
  | some x =>
   rw [hx] at hb2
   injection hb2 with hb2; subst hb2
   cases hro
 ·obtain ⟨cs, hcs⟩ := hg g id hg'
  exact ⟨cs.length, by rw [hcs]; rfl⟩
theorem ints_is {k : IntKind} {E : Env} : ∀ {zs : List Int}, All2 (C.Is E) (zs.map fun z => .lit (.int k z)) (zs.map fun z => Value.int k z)
 | [] => trivial
 | _ :: zs => ⟨⟨rfl, rfl⟩, ints_is (zs := zs)⟩
theorem acts_is {E : Env} : All2 (C.Is E) actsL actsV := by
 have k : ∀ f, (fn0 f).Is E (.func (.func f) #[] #[]) := fun f => ⟨[], rfl, trivial⟩
 exact ⟨⟨rfl, rfl⟩, k _, k _, ⟨rfl, rfl⟩, k _, k _, ⟨rfl, rfl⟩, k _, k _, ⟨rfl, rfl⟩, k _, k _, ⟨rfl, rfl⟩, k _, k _, trivial⟩
theorem cells_of {W : World} {r : Reach} {base : Nat} {t : TypeId} {v : Value} {ts : List TypeId} (hs : ∃ d, Tryz.prog.underlying t = some d ∧ descAgg d = true) (hc : Tryz.prog.cellTypes Tryz.prog.depth t = some ts) (hz : Tryz.prog.cellsOf t = ts.length)
  (h : Value.okWide Tryz.prog W r base t v) : ∃ l : List Value, l.length = ts.length ∧ v = .agg l.toArray ∧ ∀ (i : Nat) (x : Value) (u : TypeId), l[i]? = some x → ts[i]? = some u → Cell.okWide Tryz.prog W r base u x := by
 obtain ⟨d, hd, ha⟩ := hs
 have h' : ∃ cs, v = .agg cs ∧ cs.size = Tryz.prog.cellsOf t ∧ Row.okWide Tryz.prog W r base t cs := by
  unfold Value.okWide at h
  rw [hd] at h
  cases d <;> first | exact h | cases ha
 obtain ⟨cs, rfl, hsz, ts', hts, _, hcell⟩ := h'
 obtain rfl := Option.some.inj (hc.symm.trans hts)
 refine ⟨cs.toList, by rw [Array.length_toList, hsz, hz], by simp, fun i x u hx hu => ?_⟩
 rw [Array.getElem?_toList] at hx
 obtain ⟨u', hu', hk⟩ := hcell i x hx
 have hi : i < ts.length := (List.getElem?_eq_some_iff.1 hu).1
 rw [Nat.mod_eq_of_lt hi, hu] at hu'
 obtain rfl := Option.some.inj hu'
 exact hk
theorem cell_int {W : World} {r : Reach} {base : Nat} {x : Value} (h : Cell.okWide Tryz.prog W r base 3 x) : ∃ z, x = .int .i64 z :=
 okWide_int (base := base) (t := 3) Tryz.underlying3 (by unfold Value.okWide; rw [Tryz.underlying3]; exact h)
theorem agg_is {E : Env} {cs : List C} {l : List Value} (h : All2 (C.Is E) cs l) : (A.agg cs).Is E (.agg l.toArray) := ⟨l, rfl, h⟩
theorem args_below {H : Type} {enc : TypeId × Value → H} {P : Program} (hl : laidOutB P = true) {W W' : World} (hb : Below W.heap.size W W') : ∀ {ts : List TypeId} {vs : List Value} {ds : List (DataW H)} {ps : List MemPlace}, (ts.all fun t => P.readableRec t && decide (t < P.types.size)) = true →
  DataW.TrodAll enc P W 0 (fun _ => true) true ts vs ds ps → (∀ x ∈ ps, x.block < W.heap.size) → DataW.TrodAll enc P W' 0 (fun b => decide (b < W.heap.size)) true ts vs ds ps
 | [], [], [], ps, _, h, _ => h
 | t :: ts, v :: vs, d :: ds, ps, ht, h, hlt => by
  obtain ⟨p, p', h1, h2, rfl⟩ := h
  rw [List.all_cons, Bool.and_eq_true, Bool.and_eq_true, decide_eq_true_eq] at ht
  exact ⟨p, p', Below.trod hl ht.1.1 ht.1.2 h1 hb (fun x hx => hlt x (by simp [hx])), args_below hl hb ht.2 h2 (fun x hx => hlt x (by simp [hx])), rfl⟩
 | [], _ :: _, _, _, _, h, _ => h.elim
 | [], [], _ :: _, _, _, h, _ => h.elim
 | _ :: _, [], _, _, _, h, _ => h.elim
 | _ :: _, _ :: _, [], _, _, h, _ => h.elim
theorem laidOut : laidOutB Tryz.prog = true := by kernel_rfl
theorem below_of {E E' : Env} {h : Hp} {W W' : World} (hl : h.low = h.next) (rh : RH E h W) (hst : Stp E h W E' h W') : Below W.heap.size W W' :=
 ⟨hst.fr.os, hst.fr.tape, hst.fr.output, hst.fr.size, fun k hk => hst.fr.keep k hk fun id p hp _ => by
  rcases Nat.lt_or_ge id h.next with hi | hi
  ·rw [hl]; exact hi
  ·rw [rh.dom id hi] at hp; cases hp⟩
theorem post_true {H : Type} {enc : TypeId × Value → H} {f : Func} {s : ChangeSpec} {W W' : World} {args : Array Value} {ds gs : List (DataW H)} {before : List MemPlace} (hvars : s.vars = []) (hsp : (s.fn H (ds ++ gs)) = { results := [.lit (.bool true)], args := ds })
  (hW : DataW.Whole enc Tryz.prog f.params.toList s.vars false W args.toList ds gs before) (hb : Below W.heap.size W W') (hr : f.resultTypes = #[4]) (hts : (f.params.toList.all fun t => Tryz.prog.readableRec t && decide (t < Tryz.prog.types.size)) = true) :
  s.post enc Tryz.prog f false true false false W args (.bool true) W' := by
 have hlt := hW.lt
 have hW' := hW
 obtain ⟨p, q, hA, hV, rfl, _, _⟩ := hW
 rw [hvars] at hV
 obtain ⟨rfl, rfl⟩ := trodVars_none hV
 refine ⟨ds, [], _, [], p, [], hW', ?_, ?_, ?_, hb.frame _, fun h => by cases h⟩
 ·rw [hsp, hr]; exact trodAll_mk1 (shut_bool Tryz.underlying4 _)
 ·rw [hsp]; exact args_below laidOut hb hts hA fun x hx => hlt x (by simp [hx])
 ·rw [hsp, hvars]; rfl
end Go.Proofs.YtlpchgidkibbeaaGreatDoor
namespace Go.Proofs.YtlpchgidkibbeaaGreatDoor
open Go.ChangeShapes Go.WideShapes Go.ChangeAt Go.RowKit Go.Ev
set_option maxRecDepth 100000
def laid5 : List (String × DataW Unit) := [("math/bits.deBruijn32tab", Rows.laid_math_bits_deBruijn32tab), ("math/bits.deBruijn64tab", Rows.laid_math_bits_deBruijn64tab), ("internal/strconv.uint64pow10", Rows.laid_internal_strconv_uint64pow10), ("unicode/utf8.acceptRanges", Rows.laid_unicode_utf8_acceptRanges), ("unicode/utf8.first", Rows.laid_unicode_utf8_first)]
def laid6 : List (String × DataW Unit) := [("math/bits.deBruijn32tab", Rows.laid_math_bits_deBruijn32tab), ("math/bits.deBruijn64tab", Rows.laid_math_bits_deBruijn64tab), ("internal/strconv.uint64pow10", Rows.laid_internal_strconv_uint64pow10), ("unicode/utf8.acceptRanges", Rows.laid_unicode_utf8_acceptRanges), ("spillage/salt.acts", Rows.laid_spillage_salt_acts), ("unicode/utf8.first", Rows.laid_unicode_utf8_first)]
theorem plain5 : (laid6.filter fun x => x.2.handleName?.isNone) = laid5 := by kernel_rfl
theorem rh_laid6 {W : World} (h : laidMetH Tryz.prog laid6 W) : ∃ E : Env, RH E hpS W := by
 obtain ⟨hd, _⟩ := laidMetH_iff.1 h
 rw [plain5] at hd
 obtain ⟨ps, hv, _, _⟩ := hd
 obtain ⟨g2, t2, c2, f2, p2, hg2, ht2, hv2, _, _, _, _, hd2⟩ := laidVar hv "internal/strconv.uint64pow10" Rows.laid_internal_strconv_uint64pow10 (by simp [laid5])
 have hm : ("spillage/salt.acts", DataW.iface "func table" (actsIn Rows.laid_spillage_salt_acts)) ∈ laid6 := by
  have e : DataW.iface "func table" (actsIn Rows.laid_spillage_salt_acts) = Rows.laid_spillage_salt_acts := by kernel_rfl
  rw [e]
  simp [laid6]
 obtain ⟨g1, t1, c1, f1, p1, hg1, ht1, hv1, hd1⟩ := h.funcs hm
 obtain rfl := Option.some.inj (gActs.symm.trans hg1)
 obtain rfl := Option.some.inj (gPow.symm.trans hg2)
 have tA : (Tryz.prog.globals[0]?).map (·.type) = some 246 := by kernel_rfl
 have tP : (Tryz.prog.globals[2]?).map (·.type) = some 278 := by kernel_rfl
 obtain rfl := Option.some.inj (tA.symm.trans ht1)
 obtain rfl := Option.some.inj (tP.symm.trans ht2)
 have k1 := acts_cells hd1
 have k2 : c2.toList = Lib.pow10Tab.map fun z => Value.int .u64 z := Lib.cells_of_tab Tryz.underlying278 Tryz.underlying269 (by kernel_rfl) (by kernel_rfl) hd2
 obtain ⟨e1, fz1, b1⟩ := var_block gActs hv1
 obtain ⟨e2, fz2, b2⟩ := var_block gPow hv2
 refine rh_ro (vs := [(0, actsL), (2, Lib.pow10Tab.map fun n => .lit (.int .u64 n))]) (by simp [lim]) (fun g id hg => ?_) (fun i g cs hi => ?_)
 ·unfold lookupN at hg
  split at hg
  ·rename_i e
   obtain rfl := Nat.eq_of_beq_eq_true e
   injection hg with hg; subst hg
   exact ⟨_, rfl⟩
  ·unfold lookupN at hg
   split at hg
   ·rename_i e
    obtain rfl := Nat.eq_of_beq_eq_true e
    injection hg with hg; subst hg
    exact ⟨_, rfl⟩
   ·cases hg
 ·match i, hi with
  | 0, hi =>
   injection hi with hi
   injection hi with hi hi2; subst hi; subst hi2
   exact ⟨c1, e1, fz1, b1, fun E => by rw [k1]; exact acts_is⟩
  | 1, hi =>
   injection hi with hi
   injection hi with hi hi2; subst hi; subst hi2
   exact ⟨c2, e2, fz2, b2, fun E => by rw [k2]; exact ints_is⟩
  | i + 2, hi => cases hi
noncomputable def door0 (os : Os) : World := World.doorLaid Tryz.prog 60 os
noncomputable def door6 (os : Os) : World := (door0 os).layVars Tryz.prog laid5
theorem door6_os (os : Os) : (door6 os).os = os := World.layVars_os _ _ _
theorem door6_plain (os : Os) : laidMet Tryz.prog laid5 (door6 os) := by
 have e1 : (laid5.filter fun x => (laid5.map (·.1)).contains x.1) = laid5 := List.filter_eq_self.2 fun x hx => List.contains_iff_mem.2 (List.mem_map.2 ⟨x, hx, rfl⟩)
 have e2 : (laid5.filter fun x => !(laid5.map (·.1)).contains x.1) = [] := List.filter_eq_nil_iff.2 fun x hx => by rw [List.contains_iff_mem.2 (List.mem_map.2 ⟨x, hx, rfl⟩)]; simp
 exact laidMet_layVars (w0 := door0 os) (laid5.map (·.1)) [] (by rw [e1]; rfl) (by rw [e1]; kernel_rfl) (by rw [e1]; kernel_rfl) (by rw [e2]; exact LaidIn.none)
theorem door6_met (os : Os) (args : Array Value) : laidMetH Tryz.prog laid6 ((door6 os).forCall (fun _ _ => 0) ⟨#[], args, []⟩).memory :=
 laidMetH_of_parts3 (fuel := 8) (by rw [plain5]; exact (door6_plain os).of_heap (by simp [World.memory, World.forCall, Input.heap])) (by kernel_rfl) (by kernel_rfl)
theorem door6_shaped (os : Os) (args : Array Value) : ((door6 os).forCall (fun _ _ => 0) ⟨#[], args, []⟩).Shaped Tryz.prog := World.shaped_of_ZipB (by kernel_rfl) (by kernel_rfl)
end Go.Proofs.YtlpchgidkibbeaaGreatDoor
