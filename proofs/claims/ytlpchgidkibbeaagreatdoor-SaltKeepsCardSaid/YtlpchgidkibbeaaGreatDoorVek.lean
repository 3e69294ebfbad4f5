/- Contracts of the functions on numbers, rules and receivers, each over a table of those before it. Conditions: as the tables' entries say. (Printed by gen_vec.py.) -/
import Derived.Test.YtlpchgidkibbeaaGreatDoorSmall
import Derived.Test.YtlpchgidkibbeaaGreatDoorIns
namespace Go.Ev
open Go Go.Proofs
def tbBase : List (FuncId × Spec) := [(83, specFirst), (90, specFirst)] ++ tabS
theorem tbBase_ok : TabOk Tryz.prog (tabOf tbBase) := tab_cons (tab_cons tabS_ok fiQ_ok) fiS_ok
def whenSV : List Int → List Bool → List ByteArray → A
 | [e], [b], [] => int (errIf b e)
 | _, _, _ => int 0
theorem whenS_run (e : Int) (b : Bool) : (evFun Tryz.prog (tabOf tbBase) modes 100 86 (encA [.b, .i] [e] [b] []) hp0).run = some (int (errIf b e), hp0) := by
 have h : (evFun Tryz.prog (tabOf tbBase) modes 100 86 (encA [.b, .i] [e] [b] []) hp0).run = (Tree.node b (.leaf (int e, hp0)) (.leaf (int 0, hp0))).run := by kernel_rfl
 rw [h]; cases b <;> rfl
theorem whenS_ok : SpecOk Tryz.prog 86 (specI [.b, .i] (fun _ _ _ => true) whenSV) := specI_ok (fun l m n => by unfold whenSV; split <;> rfl) fun l m n hl hm hn _ => match l, m, n, hl, hm, hn with
 | [e], [b], [], _, _, _ => call_ev tbBase_ok (whenS_run e b)
def tb_whenS : List (FuncId × Spec) := (86, specI [.b, .i] (fun _ _ _ => true) whenSV) :: tbBase
theorem tb_whenS_ok : TabOk Tryz.prog (tabOf tb_whenS) := tab_cons tbBase_ok whenS_ok
def whenQV : List Int → List Bool → List ByteArray → A
 | [e], [b], [] => int (errIf b e)
 | _, _, _ => int 0
theorem whenQ_run (e : Int) (b : Bool) : (evFun Tryz.prog (tabOf tb_whenS) modes 100 48 (encA [.b, .i] [e] [b] []) hp0).run = some (int (errIf b e), hp0) := by
 have h : (evFun Tryz.prog (tabOf tb_whenS) modes 100 48 (encA [.b, .i] [e] [b] []) hp0).run = (Tree.node b (.leaf (int e, hp0)) (.leaf (int 0, hp0))).run := by kernel_rfl
 rw [h]; cases b <;> rfl
theorem whenQ_ok : SpecOk Tryz.prog 48 (specI [.b, .i] (fun _ _ _ => true) whenQV) := specI_ok (fun l m n => by unfold whenQV; split <;> rfl) fun l m n hl hm hn _ => match l, m, n, hl, hm, hn with
 | [e], [b], [], _, _, _ => call_ev tb_whenS_ok (whenQ_run e b)
def tb_whenQ : List (FuncId × Spec) := (48, specI [.b, .i] (fun _ _ _ => true) whenQV) :: tb_whenS
theorem tb_whenQ_ok : TabOk Tryz.prog (tabOf tb_whenQ) := tab_cons tb_whenS_ok whenQ_ok
def withinSV : List Int → List Bool → List ByteArray → A
 | [n, lo, hi], [], [] => int (wW n lo hi)
 | _, _, _ => int 0
theorem withinS_run (n lo hi : Int) : (evFun Tryz.prog (tabOf tb_whenQ) modes 100 103 (encA [.i, .i, .i] [n, lo, hi] [] []) hp0).run = some (int (wW n lo hi), hp0) := by
 have h : (evFun Tryz.prog (tabOf tb_whenQ) modes 100 103 (encA [.i, .i, .i] [n, lo, hi] [] []) hp0).run = (Tree.node (decide (n < lo)) (.leaf (int (errIf true 3), hp0)) (.leaf (int (errIf (decide (hi < n)) 3), hp0))).run := by kernel_rfl
 rw [h]; unfold wW; cases decide (n < lo) <;> rfl
theorem withinS_ok : SpecOk Tryz.prog 103 (specI [.i, .i, .i] (fun _ _ _ => true) withinSV) := specI_ok (fun l m n => by unfold withinSV; split <;> rfl) fun l m n hl hm hn _ => match l, m, n, hl, hm, hn with
 | [n, lo, hi], [], [], _, _, _ => call_ev tb_whenQ_ok (withinS_run n lo hi)
def tb_withinS : List (FuncId × Spec) := (103, specI [.i, .i, .i] (fun _ _ _ => true) withinSV) :: tb_whenQ
theorem tb_withinS_ok : TabOk Tryz.prog (tabOf tb_withinS) := tab_cons tb_whenQ_ok withinS_ok
def rangeQV : List Int → List Bool → List ByteArray → A
 | [n, lo, hi], [], [] => int (wW n lo hi)
 | _, _, _ => int 0
theorem rangeQ_run (n lo hi : Int) : (evFun Tryz.prog (tabOf tb_withinS) modes 100 49 (encA [.i, .i, .i] [n, lo, hi] [] []) hp0).run = some (int (wW n lo hi), hp0) := by
 have h : (evFun Tryz.prog (tabOf tb_withinS) modes 100 49 (encA [.i, .i, .i] [n, lo, hi] [] []) hp0).run = (Tree.node (decide (n < lo)) (.leaf (int (errIf true 3), hp0)) (.leaf (int (errIf (decide (hi < n)) 3), hp0))).run := by kernel_rfl
 rw [h]; unfold wW; cases decide (n < lo) <;> rfl
theorem rangeQ_ok : SpecOk Tryz.prog 49 (specI [.i, .i, .i] (fun _ _ _ => true) rangeQV) := specI_ok (fun l m n => by unfold rangeQV; split <;> rfl) fun l m n hl hm hn _ => match l, m, n, hl, hm, hn with
 | [n, lo, hi], [], [], _, _, _ => call_ev tb_withinS_ok (rangeQ_run n lo hi)
def tb_rangeQ : List (FuncId × Spec) := (49, specI [.i, .i, .i] (fun _ _ _ => true) rangeQV) :: tb_withinS
theorem tb_rangeQ_ok : TabOk Tryz.prog (tabOf tb_rangeQ) := tab_cons tb_withinS_ok rangeQ_ok
def rulesV : List Int → List Bool → List ByteArray → A
 | [c, l, f, r, h, k], [], [] => int (rulesErr c l f r h k)
 | _, _, _ => int 0
theorem rules_run (c l f r h k : Int) : (evFun Tryz.prog (tabOf tb_rangeQ) modes 100 84 (encA [.v 6] [c, l, f, r, h, k] [] []) hp0).run = some (int (rulesErr c l f r h k), hp0) := by
 have hh : (evFun Tryz.prog (tabOf tb_rangeQ) modes 100 84 (encA [.v 6] [c, l, f, r, h, k] [] []) hp0).run = (Tree.node (rangesW c l f r h k != 0) (.leaf (int (rangesW c l f r h k), hp0)) (.node (decide (r ≤ f)) (.node (decide (k < f)) (.leaf (int (firstZ [errIf true 11, errIf true 34]), hp0)) (.leaf (int (firstZ [errIf true 11, errIf (decide (h < k)) 34]), hp0))) (.node (decide (k < f)) (.leaf (int (firstZ [errIf (decide (h ≤ r)) 11, errIf true 34]), hp0)) (.leaf (int (firstZ [errIf (decide (h ≤ r)) 11, errIf (decide (h < k)) 34]), hp0))))).run := by kernel_rfl
 rw [hh]; unfold rulesErr ordersW; cases rangesW c l f r h k != 0 <;> cases decide (r ≤ f) <;> cases decide (k < f) <;> rfl
theorem rules_ok : SpecOk Tryz.prog 84 (specI [.v 6] (fun _ _ _ => true) rulesV) := specI_ok (fun l m n => by unfold rulesV; split <;> rfl) fun l m n hl hm hn _ => match l, m, n, hl, hm, hn with
 | [c, l, f, r, h, k], [], [], _, _, _ => call_ev tb_rangeQ_ok (rules_run c l f r h k)
def tb_rules : List (FuncId × Spec) := (84, specI [.v 6] (fun _ _ _ => true) rulesV) :: tb_rangeQ
theorem tb_rules_ok : TabOk Tryz.prog (tabOf tb_rules) := tab_cons tb_rangeQ_ok rules_ok
def recvV : List Int → List Bool → List ByteArray → A
 | [n], [], [s] => int (recvErr s n)
 | _, _, _ => int 0
theorem recv_run (n : Int) (s : ByteArray) : (evFun Tryz.prog (tabOf tb_rules) modes 100 85 (encA [.sv 1] [n] [] [s]) hp0).run = some (int (recvErr s n), hp0) := by
 have h : (evFun Tryz.prog (tabOf tb_rules) modes 100 85 (encA [.sv 1] [n] [] [s]) hp0).run = (Tree.node (s == sEmpty) (.leaf (int (firstZ [errIf false 13, wW n 0 1000000000]), hp0)) (.node (s == sFilled) (.leaf (int (firstZ [errIf false 13, wW n 0 1000000000]), hp0)) (.node (s == sRunning) (.leaf (int (firstZ [errIf false 13, wW n 0 1000000000]), hp0)) (.leaf (int (firstZ [errIf true 13, wW n 0 1000000000]), hp0))))).run := by kernel_rfl
 rw [h]; unfold recvErr known; cases s == sEmpty <;> cases s == sFilled <;> cases s == sRunning <;> rfl
theorem recv_ok : SpecOk Tryz.prog 85 (specI [.sv 1] (fun _ _ _ => true) recvV) := specI_ok (fun l m n => by unfold recvV; split <;> rfl) fun l m n hl hm hn _ => match l, m, n, hl, hm, hn with
 | [n], [], [s], _, _, _ => call_ev tb_rules_ok (recv_run n s)
def tb_recv : List (FuncId × Spec) := (85, specI [.sv 1] (fun _ _ _ => true) recvV) :: tb_rules
theorem tb_recv_ok : TabOk Tryz.prog (tabOf tb_recv) := tab_cons tb_rules_ok recv_ok
end Go.Ev
namespace Go.Ev
open Go Go.Proofs
def fn0 (f : FuncId) : C := .fn f []
def sWait : ByteArray := sB [119, 97, 105, 116]
def sFill : ByteArray := sB [102, 105, 108, 108]
def sDrain : ByteArray := sB [100, 114, 97, 105, 110]
def sStart : ByteArray := sB [115, 116, 97, 114, 116]
def sStop : ByteArray := sB [115, 116, 111, 112]
def actOf (s : ByteArray) (f1 f2 : FuncId) : List C := [cs s, fn0 f1, fn0 f2]
def aWait : List C := actOf sWait 211 212
def aFill : List C := actOf sFill 213 214
def aDrain : List C := actOf sDrain 215 212
def aStart : List C := actOf sStart 216 212
def aStop : List C := actOf sStop 217 212
def actsL : List C := aWait ++ (aFill ++ (aDrain ++ (aStart ++ aStop)))
def actZ : List C := [cs emptyB, .lit .nilFunc, .lit .nilFunc]
def kindA (a : List C) (b : Bool) : A := .tup [(true, a), (false, [.lit (.bool b)])]
def kindT (s : ByteArray) : Tree A := .node (sWait.toList == s.toList) (.leaf (kindA aWait true)) (.node (sFill.toList == s.toList) (.leaf (kindA aFill true)) (.node (sDrain.toList == s.toList) (.leaf (kindA aDrain true)) (.node (sStart.toList == s.toList) (.leaf (kindA aStart true)) (.node (sStop.toList == s.toList) (.leaf (kindA aStop true)) (.leaf (kindA actZ false))))))
def hpK : Hp := hpL [⟨true, 0, .flat actsL⟩] [(0, 0)]
theorem kind_run (s : ByteArray) : (evFun Tryz.prog (tabOf tb_recv) modes 100 129 [str s] hpK).run = ((kindT s).bind fun v => .leaf (v, hpK)).run := by kernel_rfl
def actsAt (h : Hp) : Bool := match lookupN h.globs 0 with
 | some id => match h.blk id with
  | some ⟨true, _, .flat cs⟩ => eqDs cs actsL
  | _ => false
 | none => false
def specKind : Spec := fun args h => match args with
 | [.one (.lit (.string s))] => match actsAt h with
  | true => (kindT s).bind fun v => .leaf (v, h)
  | false => .fail 310
 | _ => .fail 310
theorem sub_acts2 {t : TypeId} : Sub ⟨true, t, .flat actsL⟩ ⟨true, 0, .flat actsL⟩ := ⟨rfl, (fun h => by cases h), fun E E' arr h i c hc => by
 obtain ⟨x, hx, hi⟩ := h i c hc
 refine ⟨x, hx, hi.noId ?_⟩
 have hm : c ∈ actsL := by rw [nth_eq] at hc; exact List.mem_of_getElem? hc
 have key : ∀ c ∈ actsL, c.noId = true := by decide
 exact key c hm, fun _ cs1 e => ⟨_, rfl, by injection e with e; rw [e]⟩, rfl⟩
theorem kindT_noId {s : ByteArray} {v : A} (h : (kindT s).run = some v) : v.noId = true := by
 unfold kindT at h
 revert h
 generalize (sWait.toList == s.toList) = b1; generalize (sFill.toList == s.toList) = b2; generalize (sDrain.toList == s.toList) = b3; generalize (sStart.toList == s.toList) = b4; generalize (sStop.toList == s.toList) = b5
 intro h
 cases b1 <;> cases b2 <;> cases b3 <;> cases b4 <;> cases b5 <;> (simp only [Tree.run, Option.some.injEq] at h; subst h; rfl)
theorem specKind_ok : SpecOk Tryz.prog 129 specKind := by
 intro args h v h' hr E w vals rh hargs
 unfold specKind at hr
 split at hr
 ·rename_i s
  split at hr
  ·rename_i hacts
   obtain ⟨a, ha, hr⟩ := Tree.bind_some hr
   simp only [Tree.run, Option.some.injEq, Prod.mk.injEq] at hr
   obtain ⟨rfl, rfl⟩ := hr
   unfold actsAt at hacts
   split at hacts
   ·rename_i id hg
    split at hacts
    ·rename_i et cs' hb
     obtain rfl := eqDs_eq hacts
     have hrun : (evFun Tryz.prog (tabOf tb_recv) modes 100 129 [str s] hpK).run = some (a, hpK) := by
      rw [kind_run, Tree.run_bind, ha]; rfl
     refine lift_sub (ids := [id]) (call_ev tb_recv_ok hrun) (kindT_noId ha) rh rfl (by decide) (by simp) (fun k id' b1 hk hb1 => ?_) (fun g k hgk => ?_) (all_noId hargs rfl)
     ·cases k with
      | zero =>
       simp only [nth, Option.some.injEq] at hk hb1
       subst hk; subst hb1
       exact ⟨_, hb, sub_acts2⟩
      | succ k => simp [nth] at hk
     ·unfold lookupN at hgk
      split at hgk
      ·rename_i e
       have := Nat.eq_of_beq_eq_true e
       subst this
       simp only [Option.some.injEq] at hgk
       subst hgk
       exact ⟨id, rfl, hg⟩
      ·cases hgk
    ·cases hacts
   ·cases hacts
  ·cases hr
 ·cases hr
end Go.Ev
namespace Go.Ev
open Go Go.Proofs
theorem lift_acts {P : Program} {f : FuncId} {args : List A} {v : A} (hc : CallAt P f args hpK v hpK) (hv : v.noId = true) (ha : args.all A.noId = true) {E : Env} {h : Hp} {w : World} {vals : List Value} (hacts : actsAt h = true) (rh : RH E h w) (hargs : All2 (A.Is E) args vals) :
  Calls P f vals.toArray w fun e w' => ∃ x E', e = .returned x ∧ v.Is E' x ∧ Stp E h w E' h w' := by
 unfold actsAt at hacts
 split at hacts
 ·rename_i id hg
  split at hacts
  ·rename_i et cs' hb
   obtain rfl := eqDs_eq hacts
   refine lift_sub (ids := [id]) hc hv rh rfl (by decide) (by simp) (fun k id' b1 hk hb1 => ?_) (fun g k hgk => ?_) (all_noId hargs ha)
   ·cases k with
    | zero =>
     simp only [nth, Option.some.injEq] at hk hb1
     subst hk; subst hb1
     exact ⟨_, hb, sub_acts2⟩
    | succ k => simp [nth] at hk
   ·unfold lookupN at hgk
    split at hgk
    ·rename_i e
     have := Nat.eq_of_beq_eq_true e
     subst this
     simp only [Option.some.injEq] at hgk
     subst hgk
     exact ⟨id, rfl, hg⟩
    ·cases hgk
  ·cases hacts
 ·cases hacts
theorem encA_noId : ∀ (sh : List Sh) (l : List Int) (m : List Bool) (n : List ByteArray), (encA sh l m n).all A.noId = true := by
 have nl : ∀ l : List Int, noIds (l.map ci) = true := fun l => by
  induction l with
  | nil => rfl
  | cons a l ih => exact ih
 intro sh
 induction sh with
 | nil => intro l m n; rfl
 | cons x0 sh ih =>
  intro l m n
  cases x0 with
  | i => simp only [encA, List.all_cons, Bool.and_eq_true]; exact ⟨rfl, ih _ _ _⟩
  | b => simp only [encA, List.all_cons, Bool.and_eq_true]; exact ⟨rfl, ih _ _ _⟩
  | s => simp only [encA, List.all_cons, Bool.and_eq_true]; exact ⟨rfl, ih _ _ _⟩
  | v k => simp only [encA, List.all_cons, Bool.and_eq_true]; exact ⟨nl _, ih _ _ _⟩
  | sv k => simp only [encA, List.all_cons, Bool.and_eq_true]; exact ⟨nl _, ih _ _ _⟩
def specG (sh : List Sh) (ok : List Int → List Bool → List ByteArray → Bool) (F : List Int → List Bool → List ByteArray → A) : Spec := fun args h => match decA sh args, actsAt h with
 | some (l, m, n), true => .need (ok l m n) (.leaf (F l m n, h))
 | _, _ => .fail 332
theorem specG_ok {P : Program} {f : FuncId} {sh : List Sh} {ok : List Int → List Bool → List ByteArray → Bool} {F : List Int → List Bool → List ByteArray → A} (hv : ∀ l m n, (F l m n).noId = true)
  (hc : ∀ l m n, l.length = lenI sh → m.length = lenB sh → n.length = lenS sh → ok l m n = true → CallAt P f (encA sh l m n) hpK (F l m n) hpK) : SpecOk P f (specG sh ok F) := by
 intro args h v h' hr E w vals rh hargs
 unfold specG at hr
 split at hr
 ·rename_i l m n hd hacts
  obtain ⟨hok, hr⟩ := Tree.need_some hr
  simp only [Tree.run, Option.some.injEq, Prod.mk.injEq] at hr
  obtain ⟨rfl, rfl⟩ := hr
  obtain ⟨rfl, h2, h3, h4⟩ := dec_enc hd
  exact lift_acts (hc l m n h2 h3 h4 hok) (hv l m n) (encA_noId sh l m n) hacts rh hargs
 ·cases hr
def tb_kind : List (FuncId × Spec) := (129, specKind) :: tb_recv
theorem tb_kind_ok : TabOk Tryz.prog (tabOf tb_kind) := tab_cons tb_recv_ok specKind_ok
def isAct (s : ByteArray) : Bool := (sWait.toList == s.toList) || ((sFill.toList == s.toList) || ((sDrain.toList == s.toList) || ((sStart.toList == s.toList) || (sStop.toList == s.toList))))
def stepErr (c light flow : Int) (s : ByteArray) : Int := firstZ [errIf (!isAct s) 13, wW light 0 1000000, wW flow 0 c]
def chkV : List Int → List Bool → List ByteArray → A
 | [c, _, _, _, _, _, light, flow], [], [s] => int (stepErr c light flow s)
 | _, _, _ => int 0
theorem chk_run (c l f r h k light flow : Int) (s : ByteArray) : (evFun Tryz.prog (tabOf tb_kind) modes 100 121 (encA [.v 6, .sv 2] [c, l, f, r, h, k, light, flow] [] [s]) hpK).run = some (int (stepErr c light flow s), hpK) := by
 have hh : (evFun Tryz.prog (tabOf tb_kind) modes 100 121 (encA [.v 6, .sv 2] [c, l, f, r, h, k, light, flow] [] [s]) hpK).run =
  (Tree.node (sWait.toList == s.toList) (.leaf (int (firstZ [errIf false 13, wW light 0 1000000, wW flow 0 c]), hpK)) (.node (sFill.toList == s.toList) (.leaf (int (firstZ [errIf false 13, wW light 0 1000000, wW flow 0 c]), hpK)) (.node (sDrain.toList == s.toList) (.leaf (int (firstZ [errIf false 13, wW light 0 1000000, wW flow 0 c]), hpK)) (.node (sStart.toList == s.toList) (.leaf (int (firstZ [errIf false 13, wW light 0 1000000, wW flow 0 c]), hpK)) (.node (sStop.toList == s.toList) (.leaf (int (firstZ [errIf false 13, wW light 0 1000000, wW flow 0 c]), hpK)) (.leaf (int (firstZ [errIf true 13, wW light 0 1000000, wW flow 0 c]), hpK))))))).run := by kernel_rfl
 rw [hh]
 unfold stepErr isAct
 cases sWait.toList == s.toList <;> cases sFill.toList == s.toList <;> cases sDrain.toList == s.toList <;> cases sStart.toList == s.toList <;> cases sStop.toList == s.toList <;> rfl
theorem chk_ok : SpecOk Tryz.prog 121 (specG [.v 6, .sv 2] (fun _ _ _ => true) chkV) := specG_ok (fun l m n => by unfold chkV; split <;> rfl) fun l m n hl hm hn _ => match l, m, n, hl, hm, hn with
 | [c, l, f, r, h, k, light, flow], [], [s], _, _, _ => call_ev tb_kind_ok (chk_run c l f r h k light flow s)
def tb_chk : List (FuncId × Spec) := (121, specG [.v 6, .sv 2] (fun _ _ _ => true) chkV) :: tb_kind
theorem tb_chk_ok : TabOk Tryz.prog (tabOf tb_chk) := tab_cons tb_kind_ok chk_ok
end Go.Ev
