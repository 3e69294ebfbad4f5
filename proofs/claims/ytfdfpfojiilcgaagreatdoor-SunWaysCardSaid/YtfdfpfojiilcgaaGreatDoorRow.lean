/- From the evaluator's word on a law to the row's statement: what the listed variables hold, what the arguments are, what is asked behind the call. Conditions: none. -/
import Derived.Test.YtfdfpfojiilcgaaGreatDoorRows
import Derived.Test.YtfdfpfojiilcgaaGreatDoorCones
import Derived.ProofKit
import Derived.LaidMore
import Derived.OpenShut
import Derived.Carry
import Derived.Stop.Joined
import Derived.Lib.LaidTab
namespace Go.Proofs.YtfdfpfojiilcgaaGreatDoor
open Go.ChangeShapes Go.WideShapes Go.ChangeAt Go.RowKit Go.Ev

set_option maxRecDepth 100000

theorem own : ownKnob Tryz.prog.godebug = none := by kernel_rfl
theorem gAxes : Tryz.prog.globalNamed "spillage/sun.axes" = some 0 := by kernel_rfl
theorem gPow : Tryz.prog.globalNamed "internal/strconv.uint64pow10" = some 2 := by kernel_rfl

/-- the four variables that a row lists -/
def laid4 : List (String × DataW Unit) := [("math/bits.deBruijn32tab", Rows.laid_math_bits_deBruijn32tab), ("math/bits.deBruijn64tab", Rows.laid_math_bits_deBruijn64tab), ("internal/strconv.uint64pow10", Rows.laid_internal_strconv_uint64pow10), ("spillage/sun.axes", Rows.laid_spillage_sun_axes)]

theorem laidVar {P : Program} {W : World} : ∀ {l : List (String × DataW Unit)} {ps : List MemPlace}, DataW.LaidVars P W l ps → ∀ n d, (n, d) ∈ l → ∃ g t cs fuel p, P.globalNamed n = some g ∧ (P.globals[g]?).map (·.type) = some t ∧ W.var? P n = some cs ∧
    ∃ (enc : TypeId × Value → Unit) (base : Nat) (sp : Nat → Bool) (held : Bool), DataW.trod enc P W base sp held fuel t cs.toList = some (d, p)
  | [], _, _, _, _, hm => by cases hm
  | (n0, d0) :: l, ps, h, n, d, hm => by
    obtain ⟨g, t, cs, fuel, p, q, h1, h2, h3, h4, h5, _⟩ := h
    rcases List.mem_cons.1 hm with e | hm
    · injection e with e1 e2
      subst e1; subst e2
      exact ⟨g, t, cs, fuel, p, h1, h2, h3, _, _, _, _, h4⟩
    · exact laidVar h5 n d hm

/-- the variables' blocks -/
theorem var_block {P : Program} {W : World} {n : String} {g : Nat} {cs : Array Value} (hg : P.globalNamed n = some g) (h : W.var? P n = some cs) : ∃ t fz, W.heap[g]? = some (.cells cs t fz) := by
  unfold World.var? at h
  rw [hg] at h
  simp only [Option.bind_some] at h
  split at h
  · rename_i c t fz hh
    injection h with h; subst h
    exact ⟨t, fz, hh⟩
  · cases h

theorem vec_cells {H : Type} {enc : TypeId × Value → H} {W : World} {base : Nat} {sp : Nat → Bool} {held : Bool} {fuel : Nat} {cs : List Value} {a b c : Int} {p : List MemPlace}
    (h : DataW.trod enc Tryz.prog W base sp held fuel 23 cs = some (.agg [.lit (.int .i64 a), .lit (.int .i64 b), .lit (.int .i64 c)], p)) : cs = [.int .i64 a, .int .i64 b, .int .i64 c] := by
  have c3 : Tryz.prog.cellsOf 3 = 1 := by kernel_rfl
  have c23 : Tryz.prog.cellsOf 23 = 3 := by kernel_rfl
  obtain ⟨xs, n, rfl, hx, hl, hlen, hf⟩ := DataW.trod_struct Tryz.underlying23 h
  rw [c23] at hl
  have h0 : DataW.trod enc Tryz.prog W base sp held n 3 ((cs.drop 0).take (Tryz.prog.cellsOf 3)) = xs[0]? := hf 0 _ rfl
  have h1 : DataW.trod enc Tryz.prog W base sp held n 3 ((cs.drop 1).take (Tryz.prog.cellsOf 3)) = xs[1]? := hf 1 _ rfl
  have h2 : DataW.trod enc Tryz.prog W base sp held n 3 ((cs.drop 2).take (Tryz.prog.cellsOf 3)) = xs[2]? := hf 2 _ rfl
  rw [c3] at h0 h1 h2
  match cs, hl, xs, hlen, hx, h0, h1, h2 with
  | [u, v, w], _, [x, y, z], _, hx, h0, h1, h2 =>
    simp only [List.drop_zero, List.drop_succ_cons, List.take_succ_cons, List.take_zero, List.getElem?_cons_zero, List.getElem?_cons_succ] at h0 h1 h2
    simp only [List.map_cons, List.map_nil, Prod.mk.injEq, DataW.agg.injEq, List.cons.injEq, and_true] at hx
    obtain ⟨⟨e0, e1, e2⟩, _⟩ := hx
    obtain ⟨n0, f0, rfl, _⟩ := DataW.trod_int Tryz.underlying3 h0
    obtain ⟨n1, f1, rfl, _⟩ := DataW.trod_int Tryz.underlying3 h1
    obtain ⟨n2, f2, rfl, _⟩ := DataW.trod_int Tryz.underlying3 h2
    simp only [List.cons.injEq, and_true] at f0 f1 f2
    simp only [DataW.lit.injEq, Lit.int.injEq, true_and] at e0 e1 e2
    subst e0; subst e1; subst e2
    rw [f0, f1, f2]
theorem axes_cells {H : Type} {enc : TypeId × Value → H} {W : World} {base : Nat} {sp : Nat → Bool} {held : Bool} {fuel : Nat} {cs : List Value} {p : List MemPlace}
    (h : DataW.trod enc Tryz.prog W base sp held fuel 59 cs = some (.agg [.agg [.lit (.int .i64 1), .lit (.int .i64 0), .lit (.int .i64 0)], .agg [.lit (.int .i64 0), .lit (.int .i64 0), .lit (.int .i64 1)]], p)) : cs = [1, 0, 0, 0, 0, 1].map fun z => Value.int .i64 z := by
  have c23 : Tryz.prog.cellsOf 23 = 3 := by kernel_rfl
  have c59 : Tryz.prog.cellsOf 59 = 6 := by kernel_rfl
  obtain ⟨xs, m, rfl, hx, hl, hlen, hf⟩ := DataW.trod_array Tryz.underlying59 h
  rw [c59] at hl
  have h0 := hf 0 (by decide)
  have h1 := hf 1 (by decide)
  match cs, hl, xs, hlen, hx, h0, h1 with
  | [a, b, c, d, e, f], _, [x, y], _, hx, h0, h1 =>
    simp only [c23, Nat.zero_mul, Nat.one_mul, List.drop_zero, List.drop_succ_cons, List.take_succ_cons, List.take_zero, List.getElem?_cons_zero, List.getElem?_cons_succ] at h0 h1
    simp only [List.map_cons, List.map_nil, Prod.mk.injEq, DataW.agg.injEq, List.cons.injEq, and_true] at hx
    obtain ⟨⟨e0, e1⟩, _⟩ := hx
    obtain ⟨x1, x2⟩ := x
    obtain ⟨y1, y2⟩ := y
    simp only at e0 e1
    subst e0; subst e1
    have k0 := vec_cells h0
    have k1 := vec_cells h1
    simp only [List.cons.injEq, and_true] at k0 k1
    obtain ⟨rfl, rfl, rfl⟩ := k0
    obtain ⟨rfl, rfl, rfl⟩ := k1
    rfl

/-- what the listed variables give the evaluator: its memory -/
theorem rh_laid {W : World} (h : laidMetH Tryz.prog laid4 W) : ∃ (e1 e2 : TypeId) (E : Env), RH E (hpG e1 e2) W := by
  rw [MakeChecks.laidMetH_plain _ _ _ (by kernel_rfl)] at h
  obtain ⟨ps, hv, _, _⟩ := h
  obtain ⟨g1, t1, c1, f1, p1, hg1, ht1, hv1, _, _, _, _, hd1⟩ := laidVar hv "spillage/sun.axes" Rows.laid_spillage_sun_axes (by simp [laid4])
  obtain ⟨g2, t2, c2, f2, p2, hg2, ht2, hv2, _, _, _, _, hd2⟩ := laidVar hv "internal/strconv.uint64pow10" Rows.laid_internal_strconv_uint64pow10 (by simp [laid4])
  obtain rfl := Option.some.inj (gAxes.symm.trans hg1)
  obtain rfl := Option.some.inj (gPow.symm.trans hg2)
  have tA : (Tryz.prog.globals[0]?).map (·.type) = some 59 := by kernel_rfl
  have tP : (Tryz.prog.globals[2]?).map (·.type) = some 222 := by kernel_rfl
  obtain rfl := Option.some.inj (tA.symm.trans ht1)
  obtain rfl := Option.some.inj (tP.symm.trans ht2)
  have k1 := axes_cells hd1
  have k2 : c2.toList = Lib.pow10Tab.map fun z => Value.int .u64 z := Lib.cells_of_tab Tryz.underlying222 Tryz.underlying215 (by kernel_rfl) (by kernel_rfl) hd2
  obtain ⟨e1, fz1, b1⟩ := var_block gAxes hv1
  obtain ⟨e2, fz2, b2⟩ := var_block gPow hv2
  have s1 : c1.size = 6 := by have := congrArg List.length k1; simpa using this
  have s2 : c2.size = 20 := by have := congrArg List.length k2; simpa [Lib.pow10Tab] using this
  have hbody : ∀ {k : IntKind} {zs : List Int} {c : Array Value} {E : Env}, c.toList = (zs.map fun z => Value.int k z) → (Body.flat (zs.map fun z => C.lit (.int k z))).Is E c := fun {k zs c E} hc i x hx => by
    rw [nth_eq, List.getElem?_map] at hx
    cases hz : zs[i]? with
    | none => rw [hz] at hx; cases hx
    | some z =>
      rw [hz] at hx
      injection hx with hx; subst hx
      refine ⟨.int k z, ?_, rfl, rfl⟩
      rw [← Array.getElem?_toList, hc, List.getElem?_map, hz]; rfl
  refine ⟨e1, e2, fun i => match i with | 0 => some (0, 6) | 1 => some (2, 20) | _ => none, ⟨by show (2 : Nat) ≤ lim; decide, fun id hid => ?_, fun id p hp => ?_, fun id b hb => ?_, fun id id' b b' p p' hb hb' hro hp hp' he => ?_, fun g id hg => ?_, fun _ _ e => by cases e⟩⟩
  · have hid : 2 ≤ id := hid
    match id, hid with
    | id + 2, _ => rfl
  · match id, hp with
    | 0, hp => injection hp with hp; subst hp; exact (Array.getElem?_eq_some_iff.1 b1).1
    | 1, hp => injection hp with hp; subst hp; exact (Array.getElem?_eq_some_iff.1 b2).1
    | id + 2, hp => cases hp
  · have hb2 := (hpL_get (by simp [lim]) id).symm.trans hb
    match id, hb2 with
    | 0, hb2 =>
      injection hb2 with hb2; subst hb2
      exact ⟨_, rfl, c1, fz1, b1, s1, hbody k1, fun cs e => by injection e with e; subst e; exact s1⟩
    | 1, hb2 =>
      injection hb2 with hb2; subst hb2
      exact ⟨_, rfl, c2, fz2, b2, s2, hbody k2, fun cs e => by injection e with e; subst e; exact s2⟩
    | id + 2, hb2 => cases hb2
  · have hb2 := (hpL_get (by simp [lim]) id).symm.trans hb
    match id, hb2 with
    | 0, hb2 => injection hb2 with hb2; subst hb2; cases hro
    | 1, hb2 => injection hb2 with hb2; subst hb2; cases hro
    | id + 2, hb2 => cases hb2
  · have hg : lookupN [(0, 0), (2, 1)] g = some id := hg
    unfold lookupN at hg
    split at hg
    · rename_i e
      obtain rfl := Nat.eq_of_beq_eq_true e
      injection hg with hg; subst hg
      exact ⟨6, rfl⟩
    · unfold lookupN at hg
      split at hg
      · rename_i e
        obtain rfl := Nat.eq_of_beq_eq_true e
        injection hg with hg; subst hg
        exact ⟨20, rfl⟩
      · cases hg

/-- a value of a type that is numbers alone -/
theorem intsK_of {k : IntKind} {e : TypeId} (he : Tryz.prog.underlying e = some (.int k)) {W : World} {r : Reach} {base : Nat} {t : TypeId} {v : Value} {n : Nat} (hs : ∃ d, Tryz.prog.underlying t = some d ∧ descAgg d = true) (hc : Tryz.prog.cellTypes Tryz.prog.depth t = some (List.replicate n e)) (hz : Tryz.prog.cellsOf t = n)
    (h : Value.okWide Tryz.prog W r base t v) : ∃ l : List Int, l.length = n ∧ (∀ z ∈ l, k.has z) ∧ v = .agg (l.map fun z => Value.int k z).toArray := by
  obtain ⟨d, hd, ha⟩ := hs
  have h' : ∃ cs, v = .agg cs ∧ cs.size = Tryz.prog.cellsOf t ∧ Row.okWide Tryz.prog W r base t cs := by
    unfold Value.okWide at h
    rw [hd] at h
    cases d <;> first | exact h | cases ha
  obtain ⟨cs, rfl, hsz, ts, hts, _, hcell⟩ := h'
  obtain rfl := Option.some.inj (hc.symm.trans hts)
  have hall : ∀ x ∈ cs.toList, ∃ z : Int, x = .int k z ∧ k.has z := fun x hx => by
    obtain ⟨i, hi, rfl⟩ := List.getElem_of_mem hx
    obtain ⟨u, hu, hk⟩ := hcell i _ (by rw [← Array.getElem?_toList]; exact List.getElem?_eq_getElem hi)
    have hu' : u = e := by
      rw [List.getElem?_replicate] at hu
      split at hu
      · injection hu with hu; exact hu.symm
      · cases hu
    subst hu'
    obtain ⟨z, hz⟩ := okWide_int (base := base) (t := u) he (by unfold Value.okWide; rw [he]; exact hk)
    refine ⟨z, hz, ?_⟩
    rw [hz] at hk
    simp only [Cell.okWide, he, Cell.ok] at hk
    exact hk.2
  have : ∀ l : List Value, (∀ x ∈ l, ∃ z : Int, x = .int k z ∧ k.has z) → ∃ zs : List Int, (∀ z ∈ zs, k.has z) ∧ l = zs.map fun z => Value.int k z := by
    intro l
    induction l with
    | nil => exact fun _ => ⟨[], fun _ h => (by cases h), rfl⟩
    | cons x l ih =>
      intro hl
      obtain ⟨z, rfl, hz⟩ := hl x (by simp)
      obtain ⟨zs, hzs, rfl⟩ := ih fun y hy => hl y (by simp [hy])
      refine ⟨z :: zs, fun y hy => ?_, rfl⟩
      rcases List.mem_cons.1 hy with rfl | hy
      · exact hz
      · exact hzs y hy
  obtain ⟨zs, hhas, hzs⟩ := this _ hall
  refine ⟨zs, ?_, hhas, ?_⟩
  · have := congrArg List.length hzs
    simp only [List.length_map, Array.length_toList] at this
    omega
  · rw [← hzs]
theorem is_intsK {k : IntKind} {E : Env} {l : List Int} : (A.agg (l.map fun z => C.lit (.int k z))).Is E (.agg (l.map fun z => Value.int k z).toArray) := by
  refine ⟨_, rfl, ?_⟩
  induction l with
  | nil => trivial
  | cons z l ih => exact ⟨⟨rfl, rfl⟩, ih⟩
theorem byte {z : Int} (h : IntKind.u8.has z) : 0 ≤ z ∧ z ≤ 255 := h
theorem ints_of {W : World} {r : Reach} {base : Nat} {t : TypeId} {v : Value} {n : Nat} (hs : ∃ d, Tryz.prog.underlying t = some d ∧ descAgg d = true) (hc : Tryz.prog.cellTypes Tryz.prog.depth t = some (List.replicate n 3)) (hz : Tryz.prog.cellsOf t = n)
    (h : Value.okWide Tryz.prog W r base t v) : ∃ l : List Int, l.length = n ∧ v = .agg (l.map fun z => Value.int .i64 z).toArray := by
  obtain ⟨l, h1, _, h2⟩ := intsK_of Tryz.underlying3 hs hc hz h
  exact ⟨l, h1, h2⟩
theorem is_ints {E : Env} {l : List Int} : (A.agg (l.map ci)).Is E (.agg (l.map fun z => Value.int .i64 z).toArray) := is_intsK

/-- the arguments read behind the call as they read before, if nothing has turned below -/
theorem args_below {H : Type} {enc : TypeId × Value → H} {P : Program} (hl : laidOutB P = true) {W W' : World} (hb : Below W.heap.size W W') : ∀ {ts : List TypeId} {vs : List Value} {ds : List (DataW H)} {ps : List MemPlace}, (ts.all fun t => P.readableRec t && decide (t < P.types.size)) = true →
    DataW.TrodAll enc P W 0 (fun _ => true) true ts vs ds ps → (∀ x ∈ ps, x.block < W.heap.size) → DataW.TrodAll enc P W' 0 (fun b => decide (b < W.heap.size)) true ts vs ds ps
  | [], [], [], ps, _, h, _ => h
  | t :: ts, v :: vs, d :: ds, ps, ht, h, hlt => by
    obtain ⟨p, p', h1, h2, rfl⟩ := h
    rw [List.all_cons, Bool.and_eq_true, Bool.and_eq_true, decide_eq_true_eq] at ht
    exact ⟨p, p', Below.trod hl ht.1.1 ht.1.2 h1 hb (fun x hx => hlt x (by simp [hx])), args_below hl hb ht.2 h2 (fun x hx => hlt x (by simp [hx])), rfl⟩
  | [], _ :: _, _, _, _, h, _ => h.elim
  | [], [], _ :: _, _, _, h, _ => h.elim
  | _ :: _, [], _, _, _, h, _ => h.elim
  | _ :: _, _ :: _, [], _, _, h, _ => h.elim
theorem laidOut : laidOutB Tryz.prog = true := by kernel_rfl

/-- what leaves the evaluator's memory as it was has turned nothing below -/
theorem below_of {E E' : Env} {e1 e2 : TypeId} {W W' : World} (rh : RH E (hpG e1 e2) W) (hst : Stp E (hpG e1 e2) W E' (hpG e1 e2) W') : Below W.heap.size W W' :=
  ⟨hst.fr.os, hst.fr.tape, hst.fr.output, hst.fr.size, fun k hk => hst.fr.keep k hk fun id p hp _ => by
    rcases Nat.lt_or_ge id (hpG e1 e2).next with h | h
    · exact h
    · rw [rh.dom id h] at hp; cases hp⟩
/-- what a row asks of a law's call: true, and the input as it was -/
theorem post_true {H : Type} {enc : TypeId × Value → H} {f : Func} {s : ChangeSpec} {W W' : World} {args : Array Value} {ds gs : List (DataW H)} {before : List MemPlace} (hvars : s.vars = []) (hsp : (s.fn H (ds ++ gs)) = { results := [.lit (.bool true)], args := ds })
    (hW : DataW.Whole enc Tryz.prog f.params.toList s.vars false W args.toList ds gs before) (hb : Below W.heap.size W W') (hr : f.resultTypes = #[4]) (hts : (f.params.toList.all fun t => Tryz.prog.readableRec t && decide (t < Tryz.prog.types.size)) = true) :
    s.post enc Tryz.prog f false true false false W args (.bool true) W' := by
  have hlt := hW.lt
  have hW' := hW
  obtain ⟨p, q, hA, hV, rfl, _, _⟩ := hW
  rw [hvars] at hV
  obtain ⟨rfl, rfl⟩ := trodVars_none hV
  refine ⟨ds, [], _, [], p, [], hW', ?_, ?_, ?_, hb.frame _, fun h => by cases h⟩
  · rw [hsp, hr]; exact trodAll_mk1 (shut_bool Tryz.underlying4 _)
  · rw [hsp]; exact args_below laidOut hb hts hA fun x hx => hlt x (by simp [hx])
  · rw [hsp, hvars]; rfl
end Go.Proofs.YtfdfpfojiilcgaaGreatDoor
