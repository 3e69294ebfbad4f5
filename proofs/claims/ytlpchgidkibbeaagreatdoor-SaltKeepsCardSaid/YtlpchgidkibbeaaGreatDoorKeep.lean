/- Code that is cut at its loops, each piece run by an evaluator of its own. Conditions: as the rules say. -/
import Derived.Test.YtlpchgidkibbeaaGreatDoorLoops
import Derived.Test.YtlpchgidkibbeaaGreatDoorSkf
import Derived.Test.YtlpchgidkibbeaaGreatDoorMvD
import Derived.Test.YtlpchgidkibbeaaGreatDoorTankY
import Derived.Test.YtlpchgidkibbeaaGreatDoorTxs
import Derived.Test.YtlpchgidkibbeaaGreatDoorKeK
import Derived.Test.YtlpchgidkibbeaaGreatDoorTxK
namespace Go.Ev
open Go
section
variable {P : Program} {rec : Code → St → Tree (X × St)}
variable (P) in
def CutV (c : Code) (sB : St) (φ : X × St → Prop) : Nat → (X × St) ⊕ (List Bool × St) → Prop
 | _, .inl q => φ q
 | 0, .inr _ => False
 | k + 1, .inr (p, S) => ∃ (ψ : X × St → Prop) (cut : Bool) (rec : Code → St → Tree (X × St)) (slots slotsR : List Nat), RecOk P rec ∧ ComesF P (.loop (nthLoop c p)) sB S ψ ∧ ∀ q, ψ q → Leads (CutV c sB φ k) ((evR rec cut c p q.1 q.2).bind (canO slots slotsR sB))
theorem comesF_cutV (hrec : RecOk P rec) {c : Code} {sB st : St} {φ : X × St → Prop} (hlow : sB.hp.low = sB.hp.next) (k : Nat) (slots slotsR : List Nat) (h : ((evB rec c st).bind (canO slots slotsR sB)).All (CutV P c sB φ k)) : ComesF P c sB st φ := by
 intro ro ds0 E0 w0 ds E a w Q rh0 r s hz hm hro hq
 have fin : ∀ (slots slotsR : List Nat) (x : X) (st2 : St) (ds1 : List Deferred) (st1 : St) (E1 : Env) (w1 : World) (k : Nat), Stp E0 sB.hp w0 E1 st1.hp w1 → st1.size = sB.size → Marks w0 ds0 ds1 w1 → (canO slots slotsR sB (.done x st2)).All (CutV P c sB φ k) → After ds1 st1 E1 w1 Q (x, st2) := by
  intro slots slotsR x st2 ds1 st1 E1 w1 k s1 hz1 m1 ho
  simp only [canO] at ho
  split at ho
  ·rename_i st' hb
   have ho : φ (x, st') := by cases k <;> exact ho
   intro ds' E' a' w' r' s' hz' m'
   obtain ⟨E3, r3, s3, z3⟩ := canonAt_ok hb hlow rh0 r' (s1.trans s') (hz'.trans hz1)
   exact hq _ ho ds' E3 a' w' r3 s3 z3 (Marks.trans s1.fr.size s'.fr.oth m1 m')
  ·exact ho.elim
 have key : ∀ (k : Nat) (slots slotsR : List Nat) (o : O) (ds1 : List Deferred) (st1 : St) (E1 : Env) (w1 : World), Stp E0 sB.hp w0 E1 st1.hp w1 → st1.size = sB.size → Marks w0 ds0 ds1 w1 → (canO slots slotsR sB o).All (CutV P c sB φ k) → OAfter P ro c ds1 st1 E1 w1 Q o := by
  intro k
  induction k with
  | zero =>
   intro slots slotsR o ds1 st1 E1 w1 s1 hz1 m1 ho
   cases o with
   | done x st => exact fin slots slotsR x st ds1 st1 E1 w1 _ s1 hz1 m1 ho
   | stop p st =>
    simp only [canO] at ho
    split at ho <;> exact ho.elim
  | succ k ih =>
   intro slots slotsR o ds1 st1 E1 w1 s1 hz1 m1 ho
   cases o with
   | done x st => exact fin slots slotsR x st ds1 st1 E1 w1 _ s1 hz1 m1 ho
   | stop p st2 =>
    simp only [canO] at ho
    split at ho
    ·rename_i S hb
     obtain ⟨ψ, cut, rec', slots', slotsR', hrec', hl, hrest⟩ := ho
     intro ds' E' a' w' r' s' hz' m'
     obtain ⟨E3, r3, s3, z3⟩ := canonAt_ok hb hlow rh0 r' (s1.trans s') (hz'.trans hz1)
     refine hl ro ds0 E0 w0 ds' E3 a' w' _ rh0 r3 s3 z3 (Marks.trans s1.fr.size s'.fr.oth m1 m') hro fun q hψ => ?_
     intro ds4 E4 a4 w4 r4 s4 hz4 m4
     refine evR_ok hrec' c r4 (hro.oth s4.fr.oth) (Tree.All_mono (fun o ho => ?_) (Tree.All_bind (hrest q hψ).all))
     exact ih slots' slotsR' o ds4 q.2 E4 w4 s4 hz4 m4 ho
    ·exact ho.elim
 exact evB_ok hrec c r (hro.oth s.fr.oth) (Tree.All_mono (fun o ho => key k slots slotsR o ds st E w s hz hm ho) (Tree.All_bind h))
theorem call_baseV (hrec : RecOk P rec) {f : FuncId} {fn : Func} {c : Code} (hfn : P.funcs[f]? = some fn) (hc : fn.body = some c) {args : List A} (hsz : (Nat.ble args.length fn.ntmps && Nat.ble args.length lim) = true) {h : Hp} (m : Bool × Bool) {v : A} {h' : Hp} (k : Nat) (slots slotsR : List Nat)
  {sB : St} (hsB : sB = st0 fn args h m) {t : Tree ((X × St) ⊕ (List Bool × St))} (hpre : evO rec c slots slotsR sB = t) {S : Sk ((X × St) ⊕ (List Bool × St))} (h1 : t = into t S) (h2 : fits t S = true) (h3 : SkLeads (CutV P c sB (Left2 P fn h v h') k) S) : CallAt P f args h v h' := by
 subst hsB
 subst hpre
 exact call_comes hfn hc hsz m (comes_base (St.Le.refl _) (comesF_cutV hrec rfl k slots slotsR (all_into h1 h2 h3.all)))
end
end Go.Ev
namespace Go.Ev
open Go Go.RowKit Go.Proofs
set_option maxRecDepth 100000
structure Kf where
 tE : Nat → Int → (Nat → Int) → (Nat → Int) → Int
 cE : Nat → Int → Int → Int → (Nat → Int) → (Nat → Int) → Int
 cL : Nat → Int → Int → (Nat → Int) → (Nat → Int) → T3
 dE : Nat → Int → Int → (Nat → Int) → (Nat → Int) → Int
 dH : Nat → Int → Bool → (Nat → Int) → (Nat → Int) → Int
 dM : Nat → Int → Bool → (Nat → Int) → (Nat → Int) → Nat
 dK : Nat → Int → Bool → (Nat → Int) → (Nat → Int) → T3
 kE : Nat → Int → Int → Int → (Nat → Int) → (Nat → Int) → Int
 kN : Nat → (Nat → Int) → Int → Int → Int
 kL : Nat → (Nat → Int) → (Nat → Int) → Int → Int → T3
 tP : Int → (Nat → Int) → (Nat → Int) → Nat → ByteArray
 pE : ByteArray → Int
 pA : ByteArray → Int
 pR : ByteArray → Int
 p1 : ByteArray → Nat → Int
 p2 : ByteArray → Nat → Int
 pN : ByteArray → Nat
 sN : ByteArray → UInt8 → Nat
 sF : ByteArray → UInt8 → Nat → ByteArray
inductive ChK where | ok (m : Nat) | large | over
inductive DrK where | sh | z | g (m : Nat)
structure Cm where
 ch : ChK
 dr : Nat → DrK
 co : Nat
 ps : Nat → Bool
def selD (k1 : DrK) (a b k : Nat) : Nat → DrK := fun nx => match Nat.ble nx a with
 | true => k1
 | false => match Nat.ble nx b with
  | true => .g k
  | false => .z
def kcC (K : Kf) (k : ChK) : FT
 | [room, am, ht], [], [], [⟨some _, n, [.int .i64 z1, .int .i64 z2]⟩] => match k with
  | .large => .need (Nat.blt 0 n && Nat.ble n 17 && (K.cE n room am ht z1 z2 == 4)) (.leaf (badA 4, []))
  | .over => .need (Nat.blt 0 n && Nat.ble n 17 && (K.cE n room am ht z1 z2 == 23)) (.leaf (badA 23, []))
  | .ok m => .need (Nat.blt 0 n && Nat.ble n 17 && (K.cE n room am ht z1 z2 == 0 && Nat.beq (K.cL n am ht z1 z2).1 (m + 1))) (.leaf (goodA room (m + 1), boxT 81 room (slC true 2 2 (m + 1)) :: layB 152 (m + 1, (K.cL n am ht z1 z2).2)))
 | [room, am, ht], [], [], [⟨none, 0, [.int .i64 z1, .int .i64 z2]⟩] => match k with
  | .large => .need (K.cE 0 room am ht z1 z2 == 4) (.leaf (badA 4, []))
  | .over => .need (K.cE 0 room am ht z1 z2 == 23) (.leaf (badA 23, []))
  | .ok m => .need (K.cE 0 room am ht z1 z2 == 0 && Nat.beq (K.cL 0 am ht z1 z2).1 (m + 1)) (.leaf (goodA0 room (m + 1), boxT 81 room (slC true 1 2 (m + 1)) :: layB 152 (m + 1, (K.cL 0 am ht z1 z2).2)))
 | _, _, _, _ => .fail 600
def kdC (K : Kf) (k : DrK) : FT
 | [room, am], [top], [], [⟨some _, n, [.int .i64 z1, .int .i64 z2]⟩] => match k with
  | .sh => .need (Nat.blt 0 n && Nat.ble n 17 && (K.dE n room am z1 z2 == 16)) (.leaf (badD 16, []))
  | .z => .need (Nat.blt 0 n && Nat.ble n 17 && (K.dE n room am z1 z2 == 0 && Nat.beq (K.dM n am top z1 z2) 0)) (.leaf (goodD0 room (K.dH n am top z1 z2), []))
  | .g m => .need (Nat.blt 0 n && Nat.ble n 17 && (K.dE n room am z1 z2 == 0 && (!Nat.beq (K.dM n am top z1 z2) 0 && Nat.beq (K.dK n am top z1 z2).1 (m + 1)))) (.leaf (goodD room (K.dH n am top z1 z2) (m + 1), boxT 81 room (slC true 2 2 (m + 1)) :: layB 152 (m + 1, (K.dK n am top z1 z2).2)))
 | [room, am], [_], [], [⟨none, 0, [.int .i64 _, .int .i64 _]⟩] => match k with
  | .sh => .need (K.dE 0 room am zF zF == 16) (.leaf (badD 16, []))
  | _ => .fail 607
 | _, _, _, _ => .fail 601
def tkM (t : T3) (m : Nat) : T3 := (m + 1, t.2)
def kkC (K : Kf) (m : Nat) : FT
 | [room, num, den], [], [], [⟨_, 0, [.int .i64 z1, .int .i64 z2]⟩] => .need (K.kE 0 room num den z1 z2 == 0) (.leaf (.tup [(true, [ci room, nilC]), (false, [ci (K.kN 0 z2 num den)]), (false, [ci 0])], []))
 | [room, num, den], [], [], [⟨_, k + 1, [.int .i64 z1, .int .i64 z2]⟩] => .need (Nat.ble (k + 1) 17 && (K.kE (k + 1) room num den z1 z2 == 0 && Nat.beq (K.kL (k + 1) z1 z2 num den).1 (m + 1))) (.leaf (.tup [tkVal room (tkM (K.kL (k + 1) z1 z2 num den) m) (k + 1), (false, [ci (K.kN (k + 1) z2 num den)]), (false, [ci 0])], tkMem 81 152 room (tkM (K.kL (k + 1) z1 z2 num den) m) (k + 1)))
 | _, _, _, _ => .fail 602
def kpr (K : Kf) : FT
 | [room], [], [], [⟨_, n, [.int .i64 z1, .int .i64 z2]⟩] => .need (Nat.ble n 17 && (K.tE n room z1 z2 == 0)) (.leaf (prV (K.tP room z1 z2 n) 0, []))
 | _, _, _, _ => .fail 603
def kmO (K : Kf) : FT
 | [room], [], [], [⟨_, n, [.int .i64 z1, .int .i64 z2]⟩] => .need (Nat.ble n 17 && (K.tE n room z1 z2 == 0)) (.leaf (mxV room n, mxW 81 152 room z1 z2 n))
 | _, _, _, _ => .fail 604
def kps (K : Kf) (nl : Nat) (b : Bool) : FT
 | [], [], [s], [] => match b with
  | true => .need (K.pE s == 0 && Nat.beq (K.pN s) nl) (.leaf (paV (K.pR s) nl, paNw (K.pR s) (K.p1 s) (K.p2 s) nl))
  | false => .need (K.pE s == 25) (.leaf (errV (K.pA s) 25, []))
 | _, _, _, _ => .fail 605
def ktC (K : Kf) : FT
 | [room], [], [], [⟨_, n, [.int .i64 z1, .int .i64 z2]⟩] => .need (K.tE n room z1 z2 == 0) (.leaf (int 0, []))
 | _, _, _, _ => .fail 606
def tbKo (K : Kf) : List (FuncId × Spec) := (13, specAwake) :: (47, chSp K.tE) :: tbT0
def tbKp (K : Kf) (c : Cm) (nl : Nat) : List (FuncId × Spec) := (13, specAwake) :: (57, fun args h => specT [tkS, (false, [.i]), (false, [.i])] [] (kcC K c.ch) args h) ::
 (58, fun args h => specT [tkS, (false, [.i]), (false, [.b])] [] (kdC K (c.dr h.next)) args h) :: (46, fun args h => specT clSh [] (kkC K c.co) args h) ::
 (45, fun args h => specT [tkS] [] (kmO K) args h) :: (68, fun args h => specT [tkS] glW (kpr K) args h) :: (69, fun args h => specT [(false, [.s])] [] (kps K nl (c.ps h.next)) args h) ::
 (73, smSp) :: (74, spqSp K.sN K.sF) :: (55, fun args h => specT [tkS] [] (ktC K) args h) :: (47, fun args h => specT [tkS] [] (ktC K) args h) :: tbT0
def u16 (x : Int) : C := .lit (.int .u16 x)
def u8c (x : Int) : C := .lit (.int .u8 x)
section
variable (K : Kf) (n : Nat) (room x0 x1 y0 y1 : Int) (z1 z2 : Nat → Int)
def kpArgs : List A := [tankA room n, .agg [u16 x0, u16 x1], .agg [u8c y0, u8c y1]]
def kpB : St := { baseB 455 (kpArgs n room x0 x1 y0 y1) (hpL1 n (tkC z1 z2)) with keep := true }
noncomputable def kpBody : Code := bodyOf Tryz.f11
noncomputable def kpP (i : Nat) : List Bool := pathOf kpBody i
noncomputable def kpC (i : Nat) : Code := nthLoop kpBody (kpP i)
noncomputable def kpRo : Code → St → Tree (X × St) := recT Tryz.prog (tabOf (stpL (tbKo K)))
noncomputable def kpRe (c : Cm) : Code → St → Tree (X × St) := recT Tryz.prog (tabOf (stpL (tbKp K c n)))
noncomputable def kpO : Tree ((X × St) ⊕ (List Bool × St)) := evO (kpRo K) kpBody [3, 4, 5, 7, 8, 57, 58, 59] [6] (kpB n room x0 x1 y0 y1 z1 z2)
def kpN (env : List (Nat × A)) (news : List Blk) : St := stN 455 (envL env) (bsS [⟨some 0, n, tkC z1 z2⟩] glS) (globsG 1 glS) news true
def kpBx : List Blk := [tbox 76 room (slC false 0 2 n), ⟨false, 148, .flat [u16 x0, u16 x1]⟩, ⟨false, 149, .flat [u8c y0, u8c y1]⟩]
def kpPt : List (Nat × A) := [(3, .one (.ptr 3 0 1 0)), (4, .one (.ptr 4 0 1 0)), (5, .one (.ptr 5 0 1 0))]
def kpH0 (l h i : Int) : St := kpN n z1 z2 (kpPt ++ [(7, int l), (8, int h), (57, slT 0 2 n), (58, int n), (59, int i)]) (kpBx n room x0 x1 y0 y1)
def kpX0 (l h : Int) : St := kpN n z1 z2 (kpPt ++ [(7, int l), (8, int h)]) (kpBx n room x0 x1 y0 y1)
noncomputable def kpT0 (l h i : Int) : Tree (X × St) := (kpRo K (kpC 0) (kpH0 n room x0 x1 y0 y1 z1 z2 l h i)).bind (canonT [3, 4, 5, 7, 8, 57, 58, 59] [3, 4, 5, 7, 8] (kpB n room x0 x1 y0 y1 z1 z2))
noncomputable def kpS1 (c : Cm) (l h : Int) : Tree ((X × St) ⊕ (List Bool × St)) := evO2 (kpRe K n c) true kpBody (kpP 0) [3, 4, 5, 7, 8, 15, 177, 178] [6] (kpB n room x0 x1 y0 y1 z1 z2) (.exit 0, kpX0 n room x0 x1 y0 y1 z1 z2 l h)
def kpA2 : A := .agg [.lit (.bool false), .lit (.bool true)]
def kpH1 (l h am i : Int) : St := kpN n z1 z2 (kpPt ++ [(7, int l), (8, int h), (15, int am), (177, kpA2), (178, int i)]) (kpBx n room x0 x1 y0 y1)
noncomputable def kpT1 (c : Cm) (l h am i : Int) : Tree (X × St) := (kpRe K n c (kpC 1) (kpH1 n room x0 x1 y0 y1 z1 z2 l h am i)).bind (canonT [3, 4, 5, 7, 8, 15, 177, 178] [3, 5, 7, 8] (kpB n room x0 x1 y0 y1 z1 z2))
def kpX1 (l h : Int) : St := kpN n z1 z2 [(3, .one (.ptr 3 0 1 0)), (5, .one (.ptr 4 0 1 0)), (7, int l), (8, int h)] [tbox 76 room (slC false 0 2 n), ⟨false, 149, .flat [u8c y0, u8c y1]⟩]
def kpX2 (l h : Int) : St := { kpX1 n room y0 y1 z1 z2 l h with wide := true, keep := false }
noncomputable def kpS2 (c : Cm) (l h : Int) : Tree ((X × St) ⊕ (List Bool × St)) := evO2 (kpRe K n c) true kpBody (kpP 1) [] [6] (kpB n room x0 x1 y0 y1 z1 z2) (.exit 2, kpX2 n room y0 y1 z1 z2 l h)
noncomputable def kp0S (l h i : Int) : Sk (X × St) := .node (decide (i < (n : Int))) (.need (decide (0 ≤ i) && decide (i < (n : Int))) (.need (Nat.blt (0 + i.toNat) n) (.need (Nat.blt (0 + i.toNat) n) (.leaf (.normal, kpH0 n room x0 x1 y0 y1 z1 z2 (w64 (l + z1 (0 + i.toNat))) (w64 (h + z2 (0 + i.toNat))) (IntKind.i64.wrap (i + 1))))))) (.leaf (.exit 0, kpX0 n room x0 x1 y0 y1 z1 z2 l h))
noncomputable def kpOS : SkO2 := .need (okN n) (.node (K.tE n room z1 z2 != 0) (.tt (.leaf (.inl (.ret, kpN n z1 z2 [(6, boo true)] [])))) (.node (decide ((n : Int) > 12)) (.leaf (.inl (.ret, kpN n z1 z2 [(6, boo true)] []))) (.leaf (.inr (kpP 0, kpH0 n room x0 x1 y0 y1 z1 z2 0 0 0)))))
theorem kpO_into : kpO K n room x0 x1 y0 y1 z1 z2 = into (kpO K n room x0 x1 y0 y1 z1 z2) (kpOS K n room x0 x1 y0 y1 z1 z2) := by kernel_rfl
theorem kpO_fits : fits (kpO K n room x0 x1 y0 y1 z1 z2) (kpOS K n room x0 x1 y0 y1 z1 z2) = true := by kernel_rfl
theorem kp0_into (l h i : Int) : kpT0 K n room x0 x1 y0 y1 z1 z2 l h i = into (kpT0 K n room x0 x1 y0 y1 z1 z2 l h i) (kp0S n room x0 x1 y0 y1 z1 z2 l h i) := by kernel_rfl
theorem kp0_fits (l h i : Int) : fits (kpT0 K n room x0 x1 y0 y1 z1 z2 l h i) (kp0S n room x0 x1 y0 y1 z1 z2 l h i) = true := by kernel_rfl
end
end Go.Ev
namespace Go.Ev
open Go Go.RowKit Go.Proofs
set_option maxRecDepth 100000
theorem specT_any {P : Program} {f : FuncId} {sh : Shp} {gl : List (Nat × List C)} {ι : Type} {F : ι → FT} {F' : FT} (h : ∀ i, SpecOk P f fun args h => specT sh gl (F i) args h) (hF : ∀ l m n ts r, (F' l m n ts).run = some r → ∃ i, (F i l m n ts).run = some r) : SpecOk P f fun args h => specT sh gl F' args h := by
 intro args hp v h' hr
 simp only at hr
 unfold specT at hr
 split at hr
 ·rename_i d gids hd hgi
  obtain ⟨hok, hr⟩ := Tree.need_some hr
  obtain ⟨r, hF', hr⟩ := Tree.bind_some hr
  obtain ⟨i, hi⟩ := hF _ _ _ _ _ hF'
  refine h i args hp v h' ?_
  simp only
  unfold specT
  rw [hd, hgi]
  simp only [Tree.run, hok, Tree.run_bind, hi, Option.bind_some]
  exact hr
 ·cases hr
noncomputable def kfT : Kf where
 tE := tankE
 cE := fun n room am ht z1 z2 => chE togS n room am ht z1 z2
 cL := fun n am ht z1 z2 => chL togS n am ht z1 z2
 dE := fun n room am z1 z2 => drE1 n room am z1 z2
 dH := fun n am top z1 z2 => drH n am top z1 z2
 dM := fun n am top z1 z2 => (drL delS n am top z1 z2 n).1
 dK := fun n am top z1 z2 => drK togS (drL delS n am top z1 z2 n)
 kE := fun n room num den z1 z2 => cpE n room num den z1 z2
 kN := fun n z2 num den => sumA (coolN z2 num den) n
 kL := fun n z1 z2 num den => coolG togS n z1 z2 num den
 tP := txP
 pE := psE
 pA := psAt
 pR := rmP
 p1 := f1P
 p2 := f2P
 pN := nlP
 sN := wrdN
 sF := wrdF
theorem kcC_ok (k : ChK) : SpecOk Tryz.prog 57 fun args h => specT [tkS, (false, [.i]), (false, [.i])] [] (kcC kfT k) args h := by
 cases k with
 | large =>
  refine specT_sub (F := chF 4 togS) (chF_ok 4) fun l m nn ts r hr => ?_
  unfold kcC at hr
  split at hr
  ·obtain ⟨hok, hr⟩ := Tree.need_some hr
   rw [Bool.and_eq_true] at hok
   unfold chF
   simp only
   refine (run_need hok.1).trans ?_
   refine (run_need hok.2).trans ?_
   exact hr
  ·obtain ⟨hok, hr⟩ := Tree.need_some hr
   unfold chF
   simp only
   refine (run_need hok).trans ?_
   exact hr
  ·cases hr
 | over =>
  refine specT_sub (F := chF 23 togS) (chF_ok 23) fun l m nn ts r hr => ?_
  unfold kcC at hr
  split at hr
  ·obtain ⟨hok, hr⟩ := Tree.need_some hr
   rw [Bool.and_eq_true] at hok
   unfold chF
   simp only
   refine (run_need hok.1).trans ?_
   refine (run_need hok.2).trans ?_
   exact hr
  ·obtain ⟨hok, hr⟩ := Tree.need_some hr
   unfold chF
   simp only
   refine (run_need hok).trans ?_
   exact hr
  ·cases hr
 | ok p =>
  refine specT_sub (F := chF 0 togS) (chF_ok 0) fun l m nn ts r hr => ?_
  unfold kcC at hr
  split at hr
  ·rename_i room am ht i n z1 z2
   obtain ⟨hok, hr⟩ := Tree.need_some hr
   rw [Bool.and_eq_true, Bool.and_eq_true (kfT.cE n room am ht z1 z2 == 0)] at hok
   have hm : (chL togS n am ht z1 z2).1 = p + 1 := Nat.eq_of_beq_eq_true hok.2.2
   unfold chF
   simp only
   refine (run_need hok.1).trans ?_
   refine (run_need hok.2.1).trans ?_
   simp only [layB]
   rw [hm]
   exact hr
  ·rename_i room am ht z1 z2
   obtain ⟨hok, hr⟩ := Tree.need_some hr
   rw [Bool.and_eq_true] at hok
   have hm : (chL togS 0 am ht z1 z2).1 = p + 1 := Nat.eq_of_beq_eq_true hok.2
   unfold chF
   simp only
   refine (run_need hok.1).trans ?_
   simp only [layB]
   rw [hm]
   exact hr
  ·cases hr
theorem kdC_ok (k : DrK) : SpecOk Tryz.prog 58 fun args h => specT [tkS, (false, [.i]), (false, [.b])] [] (kdC kfT k) args h := by
 cases k with
 | sh =>
  refine specT_sub (F := drF 16 togS delS) (drF_ok 16) fun l m nn ts r hr => ?_
  unfold kdC at hr
  split at hr
  ·obtain ⟨hok, hr⟩ := Tree.need_some hr
   rw [Bool.and_eq_true] at hok
   unfold drF
   simp only
   refine (run_need hok.1).trans ?_
   refine (run_need hok.2).trans ?_
   exact hr
  ·obtain ⟨hok, hr⟩ := Tree.need_some hr
   unfold drF
   simp only
   refine (run_need (by rw [show (drE1 0 _ _ zF zF == 16) = true from hok]; rfl)).trans ?_
   exact hr
  ·cases hr
 | z =>
  refine specT_sub (F := drF 0 togS delS) (drF_ok 0) fun l m nn ts r hr => ?_
  unfold kdC at hr
  split at hr
  ·rename_i room am top i n z1 z2
   obtain ⟨hok, hr⟩ := Tree.need_some hr
   rw [Bool.and_eq_true, Bool.and_eq_true (kfT.dE n room am z1 z2 == 0)] at hok
   have hz : Nat.beq (drL delS n am top z1 z2 n).1 0 = true := hok.2.2
   unfold drF
   simp only
   refine (run_need hok.1).trans ?_
   refine (run_need hok.2.1).trans ?_
   show (Tree.node (Nat.beq (drL delS n am top z1 z2 n).1 0) _ _).run = _
   rw [hz]
   exact hr
  ·cases hr
  ·cases hr
 | g p =>
  refine specT_sub (F := drF 0 togS delS) (drF_ok 0) fun l m nn ts r hr => ?_
  unfold kdC at hr
  split at hr
  ·rename_i room am top i n z1 z2
   obtain ⟨hok, hr⟩ := Tree.need_some hr
   rw [Bool.and_eq_true, Bool.and_eq_true (kfT.dE n room am z1 z2 == 0), Bool.and_eq_true (!Nat.beq (kfT.dM n am top z1 z2) 0)] at hok
   have hz : Nat.beq (drL delS n am top z1 z2 n).1 0 = false := by
    have := hok.2.2.1
    rw [Bool.not_eq_true'] at this
    exact this
   have hm : (drK togS (drL delS n am top z1 z2 n)).1 = p + 1 := Nat.eq_of_beq_eq_true hok.2.2.2
   unfold drF
   simp only
   refine (run_need hok.1).trans ?_
   refine (run_need hok.2.1).trans ?_
   show (Tree.node (Nat.beq (drL delS n am top z1 z2 n).1 0) _ _).run = _
   rw [hz]
   show some _ = _
   simp only [layB]
   rw [hm]
   exact hr
  ·cases hr
  ·cases hr
theorem kkC_ok (p : Nat) : SpecOk Tryz.prog 46 fun args h => specT clSh [] (kkC kfT p) args h := specT_sub (F := cpFG togS) coolP_ok fun l m nn ts r hr => by
 unfold kkC at hr
 split at hr
 ·rename_i room num den i z1 z2
  obtain ⟨hok, hr⟩ := Tree.need_some hr
  have h0 : (cpE 0 room num den z1 z2 != 0) = false := by rw [show cpE 0 room num den z1 z2 = 0 from eq_of_beq hok]; rfl
  unfold cpFG
  simp only
  refine (run_need rfl).trans ?_
  show (Tree.node (cpE 0 room num den z1 z2 != 0) _ _).run = _
  rw [h0]
  exact hr
 ·rename_i room num den i k z1 z2
  obtain ⟨hok, hr⟩ := Tree.need_some hr
  rw [Bool.and_eq_true, Bool.and_eq_true (kfT.kE (k + 1) room num den z1 z2 == 0)] at hok
  have h0 : (cpE (k + 1) room num den z1 z2 != 0) = false := by rw [show cpE (k + 1) room num den z1 z2 = 0 from eq_of_beq hok.2.1]; rfl
  have hm : (coolG togS (k + 1) z1 z2 num den).1 = p + 1 := Nat.eq_of_beq_eq_true hok.2.2
  unfold cpFG
  simp only
  refine (run_need hok.1).trans ?_
  show (Tree.node (cpE (k + 1) room num den z1 z2 != 0) _ _).run = _
  rw [h0]
  show some _ = _
  simp only [tkVal, tkMem, tkNews]
  rw [hm]
  exact hr
 ·cases hr
theorem kpr_ok : SpecOk Tryz.prog 68 fun args h => specT [tkS] glW (kpr kfT) args h := specT_sub (F := prFE txP 0) (prE_ok 0) fun l m nn ts r hr => by
 unfold kpr at hr
 split at hr
 ·exact hr
 ·cases hr
theorem kmO_ok : SpecOk Tryz.prog 45 fun args h => specT [tkS] [] (kmO kfT) args h := specT_sub (F := mxF false 81 152) mpE_ok fun l m nn ts r hr => by
 unfold kmO at hr
 split at hr
 ·obtain ⟨hok, hr⟩ := Tree.need_some hr
  rw [Bool.and_eq_true] at hok
  unfold mxF
  simp only
  refine (run_need hok.1).trans ?_
  refine (run_need (by rw [Bool.false_or]; exact hok.2)).trans ?_
  exact hr
 ·cases hr
theorem kps_t (nl : Nat) : SpecOk Tryz.prog 69 fun args h => specT [(false, [.s])] [] (kps kfT nl true) args h := specT_sub (F := psFE paV paNw psE psAt rmP f1P f2P nlP 0 nl) (paE_ok 0 nl) fun l m nn ts r hr => by
 unfold kps at hr
 split at hr
 ·rename_i s
  obtain ⟨hok, hr⟩ := Tree.need_some hr
  rw [Bool.and_eq_true] at hok
  have h0 : psE s = 0 := eq_of_beq hok.1
  have h2 : Nat.beq (nlP s) nl = true := hok.2
  dsimp only [kfT, Tree.run] at hr
  unfold psFE
  simp only
  refine (run_need (by rw [h0, h2]; rfl)).trans ?_
  exact hr
 ·cases hr
theorem kps_f (nl : Nat) : SpecOk Tryz.prog 69 fun args h => specT [(false, [.s])] [] (kps kfT nl false) args h := specT_any (F := fun q : Nat => psFE paV paNw psE psAt rmP f1P f2P nlP 25 q) (fun q => paE_ok 25 q) fun l m nn ts r hr => by
 unfold kps at hr
 split at hr
 ·rename_i s
  obtain ⟨hok, hr⟩ := Tree.need_some hr
  have h0 : psE s = 25 := eq_of_beq hok
  dsimp only [kfT, Tree.run] at hr
  refine ⟨nlP s, ?_⟩
  unfold psFE
  simp only
  refine (run_need (by rw [beqY, h0]; rfl)).trans ?_
  exact hr
 ·cases hr
theorem kps_ok (nl : Nat) (b : Bool) : SpecOk Tryz.prog 69 fun args h => specT [(false, [.s])] [] (kps kfT nl b) args h := by
 cases b with
 | true => exact kps_t nl
 | false => exact kps_f nl
theorem ktC_sub {f : FuncId} (h : SpecOk Tryz.prog f (chSp tankE)) : SpecOk Tryz.prog f fun args h => specT [tkS] [] (ktC kfT) args h := specT_sub (F := ckF tankE) h fun l m nn ts r hr => by
 unfold ktC at hr
 split at hr
 ·rename_i room i n z1 z2
  obtain ⟨hok, hr⟩ := Tree.need_some hr
  unfold ckF
  simp only
  rw [show tankE n room z1 z2 = 0 from eq_of_beq hok]
  exact hr
 ·cases hr
theorem tbKo_ok : TabOk Tryz.prog (tabOf (tbKo kfT)) := tab_cons (tab_cons tbT0_ok qcw_ok) specAwake_ok
theorem tbKp_ok (c : Cm) (nl : Nat) : TabOk Tryz.prog (tabOf (tbKp kfT c nl)) := tab_cons (tab_cons (tab_cons (tab_cons (tab_cons (tab_cons (tab_cons (tab_cons (tab_cons (tab_cons (tab_cons tbT0_ok (ktC_sub qcw_ok)) (ktC_sub ctw_ok)) spq_ok) sm_ok) (fun args h => kps_ok nl (c.ps h.next) args h)) kpr_ok) kmO_ok) (kkC_ok c.co)) (fun args h => kdC_ok (c.dr h.next) args h)) (kcC_ok c.ch)) specAwake_ok
theorem kpRo_ok : RecOk Tryz.prog (kpRo kfT) := recT_ok (stpL_ok tbKo_ok)
theorem kpRe_ok (c : Cm) (n : Nat) : RecOk Tryz.prog (kpRe kfT n c) := recT_ok (stpL_ok (tbKp_ok c n))
section
variable (K : Kf) (n : Nat) (room x0 x1 y0 y1 : Int) (z1 z2 : Nat → Int)
theorem kp0_eq (l h i : Int) : (kpRo K (kpC 0) (kpH0 n room x0 x1 y0 y1 z1 z2 l h i)).bind (canonT [3, 4, 5, 7, 8, 57, 58, 59] [3, 4, 5, 7, 8] (kpB n room x0 x1 y0 y1 z1 z2)) = kpT0 K n room x0 x1 y0 y1 z1 z2 l h i := by delta kpT0; rfl
theorem kp0_next (k : Nat) (hk : k ≤ 1000) : kpH0 n room x0 x1 y0 y1 z1 z2 (w64 (sumA z1 k + z1 (0 + ((k : Nat) : Int).toNat))) (w64 (sumA z2 k + z2 (0 + ((k : Nat) : Int).toNat))) (IntKind.i64.wrap (((k : Nat) : Int) + 1)) = kpH0 n room x0 x1 y0 y1 z1 z2 (sumA z1 (k + 1)) (sumA z2 (k + 1)) ((k + 1 : Nat) : Int) := by
 rw [wrap_succ (by omega), idx_nat]
 rfl
theorem kp0S_ok (hn : n ≤ 1000) (k : Nat) (hk : k < n) {p : X × St → Prop} (hp : p (.normal, kpH0 n room x0 x1 y0 y1 z1 z2 (sumA z1 (k + 1)) (sumA z2 (k + 1)) ((k + 1 : Nat) : Int))) : SkLeads p (kp0S n room x0 x1 y0 y1 z1 z2 (sumA z1 k) (sumA z2 k) (k : Int)) := by
 obtain ⟨a1, a2, a3⟩ := rnd_lt hk
 rw [← kp0_next n room x0 x1 y0 y1 z1 z2 k (by omega)] at hp
 exact sk_yes a1 (sk_need a2 (sk_need a3 (sk_need a3 (sk_leaf hp))))
end
section
variable (n : Nat) (room x0 x1 y0 y1 : Int) (z1 z2 : Nat → Int)
theorem kp_loop0 (hn : n ≤ 1000) : ComesF Tryz.prog (.loop (kpC 0)) (kpB n room x0 x1 y0 y1 z1 z2) (kpH0 n room x0 x1 y0 y1 z1 z2 (sumA z1 0) (sumA z2 0) ((0 : Nat) : Int)) fun o => o = (.exit 0, kpX0 n room x0 x1 y0 y1 z1 z2 (sumA z1 n) (sumA z2 n)) :=
 loop_count kpRo_ok rfl [3, 4, 5, 7, 8, 57, 58, 59] [3, 4, 5, 7, 8] (fun k => kpH0 n room x0 x1 y0 y1 z1 z2 (sumA z1 k) (sumA z2 k) (k : Int)) (fun _ => (.exit 0, kpX0 n room x0 x1 y0 y1 z1 z2 (sumA z1 n) (sumA z2 n))) n (fun k => kpT0 kfT n room x0 x1 y0 y1 z1 z2 (sumA z1 k) (sumA z2 k) (k : Int)) (fun k => kp0S n room x0 x1 y0 y1 z1 z2 (sumA z1 k) (sumA z2 k) (k : Int)) (fun k => kp0_eq kfT n room x0 x1 y0 y1 z1 z2 (sumA z1 k) (sumA z2 k) (k : Int)) (fun k => kp0_into kfT n room x0 x1 y0 y1 z1 z2 _ _ _) (fun k => kp0_fits kfT n room x0 x1 y0 y1 z1 z2 _ _ _) (fun k hk => kp0S_ok n room x0 x1 y0 y1 z1 z2 hn k hk (rnd_next (St.Le.refl _) rfl)) (sk_no (rnd_end n) (sk_leaf rfl))
end
end Go.Ev
namespace Go.Ev
open Go Go.RowKit Go.Proofs
set_option maxRecDepth 100000
def gvB (n : Nat) : Bool := okN n && Nat.ble n 1000000
section
variable (K : Kf) (n : Nat) (room x0 x1 y0 y1 : Int) (z1 z2 : Nat → Int) (l h : Int)
def ckB (m : Nat) (a b : Nat → Int) : Bool := okN m && (K.tE m room a b == 0)
def kAm : Int := w64 (1 + (w64 x0).tmod 65535)
noncomputable def kpR : SkO2 := .leaf (.inl (.ret, kpN n z1 z2 [(6, boo false)] []))
noncomputable def kpGo : SkO2 := .leaf (.inr (kpP 1, kpH1 n room x0 x1 y0 y1 z1 z2 l h (kAm x0) 0))
noncomputable def k1Tl (a b : Nat → Int) : ChK → SkO2
 | .large => .node (decide (w64 (l + kAm x0) > room)) (.tt (.ff (.ff (kpGo n room x0 x1 y0 y1 z1 z2 l h)))) (.node (decide (w64 (h + w64 x1) > 1000000000)) (.ff (.ff (kpGo n room x0 x1 y0 y1 z1 z2 l h))) (.tt (.tt (.tt (.tt (.tt (.tt (kpR n z1 z2))))))))
 | .over => .node (decide (w64 (l + kAm x0) > room)) (.tt (.tt (.ff (kpGo n room x0 x1 y0 y1 z1 z2 l h)))) (.node (decide (w64 (h + w64 x1) > 1000000000)) (.tt (.ff (kpGo n room x0 x1 y0 y1 z1 z2 l h))) (.tt (.tt (.tt (.tt (.tt (.tt (kpR n z1 z2))))))))
 | .ok m => .node (decide (w64 (l + kAm x0) > room)) (.tt (.tt (.tt (kpR n z1 z2)))) (.node (decide (w64 (h + w64 x1) > 1000000000)) (.tt (.tt (kpR n z1 z2))) (.ff (.need (gvB (m + 1)) (.ff (.need (ckB K room (m + 1) (K.cL n (kAm x0) (w64 x1) a b).2.1 (K.cL n (kAm x0) (w64 x1) a b).2.2) (.ff (.node (room != room) (.tt (.tt (.tt (kpR n z1 z2))))
  (.need (gvB (m + 1)) (.ff (.need (gvB (m + 1)) (.node (sumA (K.cL n (kAm x0) (w64 x1) a b).2.1 (m + 1) != w64 (l + kAm x0)) (.tt (.tt (kpR n z1 z2))) (.need (gvB (m + 1)) (.ff (.need (gvB (m + 1)) (.node (sumA (K.cL n (kAm x0) (w64 x1) a b).2.2 (m + 1) != w64 (h + w64 x1)) (.tt (kpR n z1 z2))
   (.node (decide (((m + 1 : Nat) : Int) > w64 ((n : Int) + 1))) (kpR n z1 z2) (kpGo n room x0 x1 y0 y1 z1 z2 l h)))))))))))))))))
def kcB (a b : Nat → Int) : ChK → Bool
 | .large => K.cE n room (kAm x0) (w64 x1) a b == 4
 | .over => K.cE n room (kAm x0) (w64 x1) a b == 23
 | .ok m => K.cE n room (kAm x0) (w64 x1) a b == 0 && Nat.beq (K.cL n (kAm x0) (w64 x1) a b).1 (m + 1)
def smK (n : Nat) : Bool := okN n && Nat.ble n 17
noncomputable def k1S (c : ChK) : Nat → SkO2
 | 0 => .tt (.need (K.tE 0 room (fun _ => 0) (fun _ => 0) == 0) (.ff (.tt (.need (K.tE 0 room (fun _ => 0) (fun _ => 0) == 0) (.ff (.ff (.ff (.node (0 != l) (.tt (kpR 0 z1 z2)) (.node (0 != h) (kpR 0 z1 z2) (.tt (.need (kcB K 0 room x0 x1 (fun _ => 0) (fun _ => 0) c) (k1Tl K 0 room x0 x1 y0 y1 z1 z2 l h (fun _ => 0) (fun _ => 0) c))))))))))))
 | k + 1 => .need (gvB (k + 1)) (.ff (.need (ckB K room (k + 1) z1 z2) (.ff (.need (smK (k + 1)) (.need (gvB (k + 1)) (.ff (.need (ckB K room (k + 1) z1 z2) (.ff (.need (smK (k + 1)) (.ff (.ff (.node (sumA z1 (k + 1) != l) (.tt (kpR (k + 1) z1 z2)) (.node (sumA z2 (k + 1) != h) (kpR (k + 1) z1 z2)
  (.nn (.nn (.nn (.need (gvB (k + 1)) (.ff (.need (okN (k + 1) && (Nat.blt 0 (k + 1) && Nat.ble (k + 1) 17 && kcB K (k + 1) room x0 x1 z1 z2 c)) (k1Tl K (k + 1) room x0 x1 y0 y1 z1 z2 l h z1 z2 c))))))))))))))))))))
variable (c : ChK) (dr : Nat → DrK) (co : Nat) (ps : Nat → Bool)
theorem k1_into : kpS1 K n room x0 x1 y0 y1 z1 z2 ⟨c, dr, co, ps⟩ l h = into (kpS1 K n room x0 x1 y0 y1 z1 z2 ⟨c, dr, co, ps⟩ l h) (k1S K room x0 x1 y0 y1 z1 z2 l h c n) := by
 cases n with
 | zero =>
  cases c with
  | large => kernel_rfl
  | over => kernel_rfl
  | ok m => kernel_rfl
 | succ k =>
  cases c with
  | large => kernel_rfl
  | over => kernel_rfl
  | ok m => kernel_rfl
theorem k1_fits : fits (kpS1 K n room x0 x1 y0 y1 z1 z2 ⟨c, dr, co, ps⟩ l h) (k1S K room x0 x1 y0 y1 z1 z2 l h c n) = true := by
 cases n with
 | zero =>
  cases c with
  | large => kernel_rfl
  | over => kernel_rfl
  | ok m => kernel_rfl
 | succ k =>
  cases c with
  | large => kernel_rfl
  | over => kernel_rfl
  | ok m => kernel_rfl
end
end Go.Ev
namespace Go.Ev
open Go Go.RowKit Go.Proofs
set_option maxRecDepth 100000
section
variable (K : Kf) (n : Nat) (room x0 x1 y0 y1 : Int) (z1 z2 : Nat → Int) (l h am i : Int)
noncomputable def k2R : Sk (X × St) := .leaf (.ret, kpX1 n room y0 y1 z1 z2 l h)
noncomputable def k2N : Sk (X × St) := .leaf (.normal, kpH1 n room x0 x1 y0 y1 z1 z2 l h am (IntKind.i64.wrap (i + 1)))
def kdB (n : Nat) (am : Int) (top : Bool) (a b : Nat → Int) : DrK → Bool
 | .sh => K.dE n room am a b == 16
 | .z => K.dE n room am a b == 0 && Nat.beq (K.dM n am top a b) 0
 | .g m => K.dE n room am a b == 0 && (!Nat.beq (K.dM n am top a b) 0 && Nat.beq (K.dK n am top a b).1 (m + 1))
def kdN (n : Nat) (am : Int) (top : Bool) (a b : Nat → Int) (d : DrK) : Bool := okN n && (Nat.blt 0 n && Nat.ble n 17 && kdB K room n am top a b d)
noncomputable def k2E (top : Bool) (j e : Nat) : Sk (X × St) := .need (gvB n) (.ff (.need (kdN K room n (z1 e) top z1 z2 (.g j)) (.ff (.node (K.dH n (z1 e) top z1 z2 != z2 e) (.tt (k2R n room y0 y1 z1 z2 l h)) (.node (((j + 1 : Nat) : Int) != w64 ((n : Int) - 1)) (k2R n room y0 y1 z1 z2 l h)
 (.need (gvB (j + 1)) (.ff (.need (gvB (j + 1)) (.ff (.need (kdN K room (j + 1) (w64 (l - z1 e)) top (K.dK n (z1 e) top z1 z2).2.1 (K.dK n (z1 e) top z1 z2).2.2 .z)
  (.ff (.node (w64 (K.dH n (z1 e) top z1 z2 + K.dH (j + 1) (w64 (l - z1 e)) top (K.dK n (z1 e) top z1 z2).2.1 (K.dK n (z1 e) top z1 z2).2.2) != h) (.tt (k2R n room y0 y1 z1 z2 l h)) (.ff (k2N n room x0 x1 y0 y1 z1 z2 l h am i))))))))))))))
noncomputable def k2L (j : Nat) : Bool → Sk (X × St)
 | false => .node (decide ((n : Int) < 2)) (k2N n room x0 x1 y0 y1 z1 z2 l h am i) (.need (decide ((0 : Int) ≤ 0) && decide ((0 : Int) < (n : Int))) (.ff (.both (k2E K n room x0 x1 y0 y1 z1 z2 l h am i false j (0 + Int.toNat 0)) (k2E K n room x0 x1 y0 y1 z1 z2 l h am i false j (0 + Int.toNat 0)))))
 | true => .node (decide ((n : Int) < 2)) (k2N n room x0 x1 y0 y1 z1 z2 l h am i) (.need (decide ((0 : Int) ≤ 0) && decide ((0 : Int) < (n : Int))) (.tt (.need (decide (0 ≤ w64 ((n : Int) - 1)) && decide (w64 ((n : Int) - 1) < (n : Int))) (.need (Nat.blt (0 + (w64 ((n : Int) - 1)).toNat) n) (.need (Nat.blt (0 + (w64 ((n : Int) - 1)).toNat) n)
  (.both (k2E K n room x0 x1 y0 y1 z1 z2 l h am i true j (0 + (w64 ((n : Int) - 1)).toNat)) (k2E K n room x0 x1 y0 y1 z1 z2 l h am i true j (0 + (w64 ((n : Int) - 1)).toNat))))))))
noncomputable def k2S (top : Bool) (j : Nat) : DrK → Sk (X × St)
 | .sh => .tt (.nn (.need (gvB n) (.ff (.need (kdN K room n am top z1 z2 .sh) (.node (decide (am > l)) (.ff (k2L K n room x0 x1 y0 y1 z1 z2 l h am i j top)) (.tt (.tt (.tt (.tt (.tt (k2R n room y0 y1 z1 z2 l h)))))))))))
 | .z => .tt (.nn (.need (gvB n) (.ff (.need (kdN K room n am top z1 z2 .z) (.node (decide (am > l)) (.tt (k2R n room y0 y1 z1 z2 l h)) (.ff (.tt (.need (K.tE 0 room (fun _ => 0) (fun _ => 0) == 0) (.ff (.tt (.node (0 != w64 (l - am)) (.tt (.tt (k2R n room y0 y1 z1 z2 l h))) (.tt (.node (0 != w64 (h - K.dH n am top z1 z2)) (.tt (k2R n room y0 y1 z1 z2 l h))
  (.node (decide (K.dH n am top z1 z2 < 0)) (k2R n room y0 y1 z1 z2 l h) (k2L K n room x0 x1 y0 y1 z1 z2 l h am i j top)))))))))))))))
 | .g m => .tt (.nn (.need (gvB n) (.ff (.need (kdN K room n am top z1 z2 (.g m)) (.node (decide (am > l)) (.tt (k2R n room y0 y1 z1 z2 l h)) (.ff (.need (gvB (m + 1)) (.ff (.need (ckB K room (m + 1) (K.dK n am top z1 z2).2.1 (K.dK n am top z1 z2).2.2) (.ff (.need (gvB (m + 1)) (.ff (.need (gvB (m + 1)) (.node (sumA (K.dK n am top z1 z2).2.1 (m + 1) != w64 (l - am)) (.tt (.tt (k2R n room y0 y1 z1 z2 l h)))
  (.need (gvB (m + 1)) (.ff (.need (gvB (m + 1)) (.node (sumA (K.dK n am top z1 z2).2.2 (m + 1) != w64 (h - K.dH n am top z1 z2)) (.tt (k2R n room y0 y1 z1 z2 l h)) (.node (decide (K.dH n am top z1 z2 < 0)) (k2R n room y0 y1 z1 z2 l h) (k2L K n room x0 x1 y0 y1 z1 z2 l h am i j top))))))))))))))))))))
noncomputable def k2Z : Sk (X × St) := .tt (.tt (.need (K.dE 0 room am zF zF == 16) (.node (decide (am > l)) (.ff (.tt (k2N 0 room x0 x1 y0 y1 z1 z2 l h am i))) (.tt (.tt (.tt (.tt (.tt (k2R 0 room y0 y1 z1 z2 l h)))))))))
def kdS (j : Nat) : DrK → Nat → DrK
 | .sh => selD .sh 9 15 j
 | .z => selD .z 9 15 j
 | .g m => selD (.g m) 10 23 j
theorem k2f_into (k : Nat) (ch : ChK) (j co : Nat) (ps : Nat → Bool) (d : DrK) : kpT1 K (k + 1) room x0 x1 y0 y1 z1 z2 ⟨ch, kdS j d, co, ps⟩ l h am 0 = into (kpT1 K (k + 1) room x0 x1 y0 y1 z1 z2 ⟨ch, kdS j d, co, ps⟩ l h am 0) (k2S K (k + 1) room x0 x1 y0 y1 z1 z2 l h am 0 false j d) := by
 cases d with
 | sh => kernel_rfl
 | z => kernel_rfl
 | g m => kernel_rfl
theorem k2zf_into (ch : ChK) (j co : Nat) (ps : Nat → Bool) : kpT1 K 0 room x0 x1 y0 y1 z1 z2 ⟨ch, kdS j .sh, co, ps⟩ l h am 0 = into (kpT1 K 0 room x0 x1 y0 y1 z1 z2 ⟨ch, kdS j .sh, co, ps⟩ l h am 0) (k2Z K room x0 x1 y0 y1 z1 z2 l h am 0) := by kernel_rfl
theorem k2t_into (k : Nat) (ch : ChK) (j co : Nat) (ps : Nat → Bool) (d : DrK) : kpT1 K (k + 1) room x0 x1 y0 y1 z1 z2 ⟨ch, kdS j d, co, ps⟩ l h am 1 = into (kpT1 K (k + 1) room x0 x1 y0 y1 z1 z2 ⟨ch, kdS j d, co, ps⟩ l h am 1) (k2S K (k + 1) room x0 x1 y0 y1 z1 z2 l h am 1 true j d) := by
 cases d with
 | sh => kernel_rfl
 | z => kernel_rfl
 | g m => kernel_rfl
theorem k2zt_into (ch : ChK) (j co : Nat) (ps : Nat → Bool) : kpT1 K 0 room x0 x1 y0 y1 z1 z2 ⟨ch, kdS j .sh, co, ps⟩ l h am 1 = into (kpT1 K 0 room x0 x1 y0 y1 z1 z2 ⟨ch, kdS j .sh, co, ps⟩ l h am 1) (k2Z K room x0 x1 y0 y1 z1 z2 l h am 1) := by kernel_rfl
theorem k2f_fits (k : Nat) (ch : ChK) (j co : Nat) (ps : Nat → Bool) (d : DrK) : fits (kpT1 K (k + 1) room x0 x1 y0 y1 z1 z2 ⟨ch, kdS j d, co, ps⟩ l h am 0) (k2S K (k + 1) room x0 x1 y0 y1 z1 z2 l h am 0 false j d) = true := by
 cases d with
 | sh => kernel_rfl
 | z => kernel_rfl
 | g m => kernel_rfl
theorem k2zf_fits (ch : ChK) (j co : Nat) (ps : Nat → Bool) : fits (kpT1 K 0 room x0 x1 y0 y1 z1 z2 ⟨ch, kdS j .sh, co, ps⟩ l h am 0) (k2Z K room x0 x1 y0 y1 z1 z2 l h am 0) = true := by kernel_rfl
theorem k2t_fits (k : Nat) (ch : ChK) (j co : Nat) (ps : Nat → Bool) (d : DrK) : fits (kpT1 K (k + 1) room x0 x1 y0 y1 z1 z2 ⟨ch, kdS j d, co, ps⟩ l h am 1) (k2S K (k + 1) room x0 x1 y0 y1 z1 z2 l h am 1 true j d) = true := by
 cases d with
 | sh => kernel_rfl
 | z => kernel_rfl
 | g m => kernel_rfl
theorem k2zt_fits (ch : ChK) (j co : Nat) (ps : Nat → Bool) : fits (kpT1 K 0 room x0 x1 y0 y1 z1 z2 ⟨ch, kdS j .sh, co, ps⟩ l h am 1) (k2Z K room x0 x1 y0 y1 z1 z2 l h am 1) = true := by kernel_rfl
end
end Go.Ev
namespace Go.Ev
open Go Go.RowKit Go.Proofs
set_option maxRecDepth 100000
section
variable (K : Kf) (n : Nat) (room x0 x1 y0 y1 : Int) (z1 z2 : Nat → Int) (l h : Int)
def kDn : Int := w64 (1 + w64 y1)
def kNm : Int := (w64 y0).tmod (w64 (1 + w64 y1))
def k3W (b : Bool) : St := kpN n z1 z2 [(6, boo b)] []
def k3R (b : Bool) : SkO2 := .leaf (.inl (.ret, k3W n z1 z2 b))
def cutB (s : ByteArray) : ByteArray := s.extract (Int.toNat 0) (w64 ((s.size : Int) - 1)).toNat
def k3T (a b : Nat → Int) (s : ByteArray) : SkO2 := .node (!sameT n n (K.pR s) room a b z1 z2) (.tt (.tt (.tt (.tt (.tt (.tt (.tt (.tt (k3R n z1 z2 false))))))))) (.ff (.ff (.ff (.ff (.ff (.need (decide ((0 : Int) ≤ 10) && decide ((10 : Int) < 256) && Nat.ble s.size 1000000) (.ff (.ff (.node (((K.sN s (UInt8.ofNat (Int.toNat 10)) : Nat) : Int) != w64 ((n : Int) + 2)) (k3R n z1 z2 false)
 (.need (decide ((0 : Int) ≤ 0) && decide (0 ≤ w64 ((s.size : Int) - 1)) && decide (w64 ((s.size : Int) - 1) ≤ (s.size : Int))) (.need (K.pE (cutB s) == 25) (.tt (.node (K.pA (cutB s) == (n : Int)) (k3R n z1 z2 true) (k3R n z1 z2 false))))))))))))))
def k3S (m : Nat) : Nat → SkO2
 | 0 => .nn (.nn (.need (!(kDn y1 == 0)) (.tt (.need (K.kE 0 room (kNm y0 y1) (kDn y1) (fun _ => 0) (fun _ => 0) == 0) (.ff (.tt (.need (K.tE 0 room (fun _ => 0) (fun _ => 0) == 0) (.ff (.tt (.node (0 != l) (.tt (.tt (.tt (k3R 0 z1 z2 false)))) (.tt (.node (0 != w64 (h - K.kN 0 (fun _ => 0) (kNm y0 y1) (kDn y1))) (.tt (.tt (k3R 0 z1 z2 false)))
  (.node (decide (K.kN 0 (fun _ => 0) (kNm y0 y1) (kDn y1) < 0)) (.tt (k3R 0 z1 z2 false)) (.node (decide (w64 (K.kN 0 (fun _ => 0) (kNm y0 y1) (kDn y1) * kDn y1) > w64 (h * kNm y0 y1))) (k3R 0 z1 z2 false)
  (.tt (.need (Nat.ble 0 17 && (K.tE 0 room (fun _ => 0) (fun _ => 0) == 0)) (.tt (.ff (.tt (.need (Nat.ble 0 17 && (K.tE 0 room (fun _ => 0) (fun _ => 0) == 0)) (.need (K.pE (K.tP room (fun _ => 0) (fun _ => 0) 0) == 0 && Nat.beq (K.pN (K.tP room (fun _ => 0) (fun _ => 0) 0)) 0) (.ff (.ff (.ff (.ff (.ff (.ff (.ff (.tt (.ff (.ff (k3T K 0 room z1 z2 (fun _ => 0) (fun _ => 0) (K.tP room (fun _ => 0) (fun _ => 0) 0)))))))))))))))))))))))))))))))))
 | k + 1 => .nn (.nn (.need (!(kDn y1 == 0)) (.nn (.need (gvB (k + 1)) (.ff (.need (okN (k + 1) && (Nat.ble (k + 1) 17 && (K.kE (k + 1) room (kNm y0 y1) (kDn y1) z1 z2 == 0 && Nat.beq (K.kL (k + 1) z1 z2 (kNm y0 y1) (kDn y1)).1 (m + 1)))) (.ff (.need (gvB (m + 1)) (.ff (.need (ckB K room (m + 1) (K.kL (k + 1) z1 z2 (kNm y0 y1) (kDn y1)).2.1 (K.kL (k + 1) z1 z2 (kNm y0 y1) (kDn y1)).2.2)
  (.ff (.need (gvB (m + 1)) (.ff (.need (gvB (m + 1)) (.node (sumA (K.kL (k + 1) z1 z2 (kNm y0 y1) (kDn y1)).2.1 (m + 1) != l) (.tt (.tt (.tt (k3R (k + 1) z1 z2 false)))) (.need (gvB (m + 1)) (.ff (.need (gvB (m + 1)) (.node (sumA (K.kL (k + 1) z1 z2 (kNm y0 y1) (kDn y1)).2.2 (m + 1) != w64 (h - K.kN (k + 1) z2 (kNm y0 y1) (kDn y1))) (.tt (.tt (k3R (k + 1) z1 z2 false)))
  (.node (decide (K.kN (k + 1) z2 (kNm y0 y1) (kDn y1) < 0)) (.tt (k3R (k + 1) z1 z2 false)) (.node (decide (w64 (K.kN (k + 1) z2 (kNm y0 y1) (kDn y1) * kDn y1) > w64 (h * kNm y0 y1))) (k3R (k + 1) z1 z2 false)
  (.need (gvB (k + 1)) (.ff (.need (okN (k + 1) && (Nat.ble (k + 1) 17 && (K.tE (k + 1) room z1 z2 == 0))) (.ff (.ff (.ff (.node (!(sumA z1 (k + 1) == l && (sumA z2 (k + 1) == h && true))) (.tt (k3R (k + 1) z1 z2 false)) (.node (room != room) (k3R (k + 1) z1 z2 false)
  (.need (gvB (k + 1)) (.ff (.need (okN (k + 1) && (Nat.ble (k + 1) 17 && (K.tE (k + 1) room z1 z2 == 0))) (.need (K.pE (K.tP room z1 z2 (k + 1)) == 0 && Nat.beq (K.pN (K.tP room z1 z2 (k + 1))) (k + 1)) (.ff (.ff (.ff (.ff (.ff (.ff (.ff (.need (gvB (k + 1)) (.ff (.ff (.need (ok2 (k + 1) (k + 1) && Nat.ble (k + 1) 1000000)
  (.ff (k3T K (k + 1) room z1 z2 (K.p1 (K.tP room z1 z2 (k + 1))) (K.p2 (K.tP room z1 z2 (k + 1))) (K.tP room z1 z2 (k + 1))))))))))))))))))))))))))))))))))))))))))))))))
def k3P : Nat → Nat → Bool
 | 0 => fun nx => Nat.ble nx 8
 | _ + 1 => fun nx => Nat.ble nx 25
variable (ch : ChK) (dr : Nat → DrK) (m : Nat)
theorem k3_into : kpS2 K n room x0 x1 y0 y1 z1 z2 ⟨ch, dr, m, k3P n⟩ l h = into (kpS2 K n room x0 x1 y0 y1 z1 z2 ⟨ch, dr, m, k3P n⟩ l h) (k3S K room y0 y1 z1 z2 l h m n) := by
 cases n with
 | zero => kernel_rfl
 | succ k => kernel_rfl
theorem k3_fits : fits (kpS2 K n room x0 x1 y0 y1 z1 z2 ⟨ch, dr, m, k3P n⟩ l h) (k3S K room y0 y1 z1 z2 l h m n) = true := by
 cases n with
 | zero => kernel_rfl
 | succ k => kernel_rfl
end
end Go.Ev
namespace Go.Ev
open Go Go.RowKit Go.Proofs
set_option maxRecDepth 100000
theorem kand {a b : Bool} (h : a = true) (h' : b = true) : (a && b) = true := by rw [h, h']; rfl
theorem gvB_ok {n : Nat} (h : n ≤ 1000000) : gvB n = true := kand (okN_ok n) (ble_lit h)
theorem bneN {a b : Int} (h : a = b) : (a != b) = false := by rw [h]; simp
theorem decT {p : Prop} [Decidable p] (h : p) : decide p = true := decide_eq_true h
theorem decF {p : Prop} [Decidable p] (h : ¬ p) : decide p = false := decide_eq_false h
theorem kbeq {a b : Int} (h : a = b) : (a == b) = true := by rw [h]; exact beq_self_eq_true b
theorem drE_zero {n : Nat} {room am : Int} {z1 z2 : Nat → Int} (hT : tankE n room z1 z2 = 0) (h1 : 1 ≤ am) (h2 : am ≤ sumN z1 n) : drE1 n room am z1 z2 = 0 := by
 obtain ⟨_, _, _, e1, _, hR⟩ := tank_facts hT
 have := hR.bA
 exact first_z hT (first_z (wW_ok h1 (by omega)) (first_z (errIf_no (decF (by omega))) rfl))
theorem drE_short {n : Nat} {room am : Int} {z1 z2 : Nat → Int} (hT : tankE n room z1 z2 = 0) (h1 : 1 ≤ am) (h2 : am ≤ 1000000) (h3 : sumN z1 n < am) : drE1 n room am z1 z2 = 16 := by
 obtain ⟨_, _, _, e1, _, hR⟩ := tank_facts hT
 have h4 : errIf (decide (am > sumA z1 n)) 16 = 16 := by rw [decT (by omega)]; rfl
 unfold drE1 firstZ firstZ firstZ
 rw [hT, wW_ok h1 h2, h4]
 rfl
section
variable {n : Nat} {room am : Int} {top : Bool} {z1 z2 : Nat → Int}
theorem kdN_sh (hn0 : 0 < n) (hn : n ≤ 17) (h : drE1 n room am z1 z2 = 16) : kdN kfT room n am top z1 z2 .sh = true := by
 show (okN n && (Nat.blt 0 n && Nat.ble n 17 && (drE1 n room am z1 z2 == 16))) = true
 exact kand (okN_ok n) (kand (kand (blt_lit hn0) (ble_lit hn)) (kbeq h))
theorem kdN_z (hn0 : 0 < n) (hn : n ≤ 17) (h : drE1 n room am z1 z2 = 0) (h2 : (drL delS n am top z1 z2 n).1 = 0) : kdN kfT room n am top z1 z2 .z = true := by
 show (okN n && (Nat.blt 0 n && Nat.ble n 17 && (drE1 n room am z1 z2 == 0 && Nat.beq (drL delS n am top z1 z2 n).1 0))) = true
 exact kand (okN_ok n) (kand (kand (blt_lit hn0) (ble_lit hn)) (kand (kbeq h) (by rw [h2]; rfl)))
theorem kdN_g {j : Nat} (hn0 : 0 < n) (hn : n ≤ 17) (h : drE1 n room am z1 z2 = 0) (h2 : (drL delS n am top z1 z2 n).1 ≠ 0) (h3 : (drK togS (drL delS n am top z1 z2 n)).1 = j + 1) : kdN kfT room n am top z1 z2 (.g j) = true := by
 show (okN n && (Nat.blt 0 n && Nat.ble n 17 && (drE1 n room am z1 z2 == 0 && (!Nat.beq (drL delS n am top z1 z2 n).1 0 && Nat.beq (drK togS (drL delS n am top z1 z2 n)).1 (j + 1))))) = true
 exact kand (okN_ok n) (kand (kand (blt_lit hn0) (ble_lit hn)) (kand (kbeq h) (kand (by rw [beqN h2]; rfl) (by rw [h3]; exact beqY _))))
end
section
variable {n : Nat} {room : Int} {top : Bool} {z1 z2 : Nat → Int} (hT : tankE n room z1 z2 = 0)
include hT
theorem end_rest (h2 : 2 ≤ n) : kdN kfT room n (z1 (ixT top n 0)) top z1 z2 (.g (n - 2)) = true ∧ kfT.dH n (z1 (ixT top n 0)) top z1 z2 = z2 (ixT top n 0) ∧ kdN kfT room (n - 2 + 1) (w64 (sumA z1 n - z1 (ixT top n 0))) top (kfT.dK n (z1 (ixT top n 0)) top z1 z2).2.1 (kfT.dK n (z1 (ixT top n 0)) top z1 z2).2.2 .z = true ∧
  w64 (kfT.dH n (z1 (ixT top n 0)) top z1 z2 + kfT.dH (n - 2 + 1) (w64 (sumA z1 n - z1 (ixT top n 0))) top (kfT.dK n (z1 (ixT top n 0)) top z1 z2).2.1 (kfT.dK n (z1 (ixT top n 0)) top z1 z2).2.2) = sumA z2 n := by
 obtain ⟨⟨b1, b2, b3⟩, hc, hr, e1, e2, hR⟩ := tank_facts hT
 have hb1 := hR.bA
 have hb2 := hR.bH
 have hix := ix_in (top := top) (show 0 < n by omega)
 have hrow : (1 ≤ z1 (ixT top n 0) ∧ z1 (ixT top n 0) ≤ 1000000) ∧ 0 ≤ z2 (ixT top n 0) ∧ z2 (ixT top n 0) ≤ 1000000000 := hR.row hix
 have hat := sumN_at (f := z1) hix fun i hi => by have := (hR.pos i hi).1; exact Int.le_trans (by decide) this
 obtain ⟨d1, d2, d3⟩ := end_drawn (top := top) hT (by omega)
 obtain ⟨_, g1, g2, g3, g4, g5⟩ := drw_ok (top := top) hT hrow.1.1 hat
 have hz := drE_zero hT hrow.1.1 hat
 have k1 := kdN_g (j := n - 2) (top := top) (show 0 < n by omega) (by omega) hz (by rw [d2]; omega) (by rw [d3]; omega)
 have hd1 : kfT.dH n (z1 (ixT top n 0)) top z1 z2 = z2 (ixT top n 0) := d1
 refine ⟨k1, hd1, ?_⟩
 rw [hd1]
 show kdN kfT room (n - 2 + 1) (w64 (sumA z1 n - z1 (ixT top n 0))) top (drK togS (drL delS n (z1 (ixT top n 0)) top z1 z2 n)).2.1 (drK togS (drL delS n (z1 (ixT top n 0)) top z1 z2 n)).2.2 .z = true ∧ w64 (z2 (ixT top n 0) + drH (n - 2 + 1) (w64 (sumA z1 n - z1 (ixT top n 0))) top (drK togS (drL delS n (z1 (ixT top n 0)) top z1 z2 n)).2.1 (drK togS (drL delS n (z1 (ixT top n 0)) top z1 z2 n)).2.2) = sumA z2 n
 rw [d1] at g1
 rcases hD : drK togS (drL delS n (z1 (ixT top n 0)) top z1 z2 n) with ⟨m', a, b⟩
 rw [hD] at g1 g2 d3
 have d3 : m' = n - 2 + 1 := by have : m' = n - 1 := d3; omega
 subst d3
 show kdN kfT room (n - 2 + 1) (w64 (sumA z1 n - z1 (ixT top n 0))) top a b .z = true ∧ w64 (z2 (ixT top n 0) + drH (n - 2 + 1) (w64 (sumA z1 n - z1 (ixT top n 0))) top a b) = sumA z2 n
 have hT2 := tank_zero (room := room) g1 g2 (by omega) b2 b3 (by omega)
 have hsa : sumN a (n - 2 + 1) = sumN z1 n - z1 (ixT top n 0) := g1.sa
 have hsb : sumN b (n - 2 + 1) = sumN z2 n - z2 (ixT top n 0) := g1.sh
 have hp0 := sumN_at (f := a) (n := n - 2 + 1) (k := 0) (by omega) fun i hi => by have := (g1.pos i hi).1; exact Int.le_trans (by decide) this
 have hp1 : 1 ≤ a 0 := (g1.pos 0 (show 0 < n - 2 + 1 by omega)).1
 rw [e1, w64_in (n := sumN z1 n - z1 (ixT top n 0)) (by omega) (by omega), ← hsa]
 obtain ⟨f1, f2, f3, f4, f5, f6⟩ := drw_ok (am := sumN a (n - 2 + 1)) (top := top) hT2 (by omega) (Int.le_refl _)
 rw [Int.sub_self] at f1
 obtain ⟨q1, q2⟩ := rng_zero f1
 refine ⟨kdN_z (by omega) (by omega) (drE_zero hT2 (by omega) (Int.le_refl _)) q1, ?_⟩
 rw [show drH (n - 2 + 1) (sumN a (n - 2 + 1)) top a b = sumN z2 n - z2 (ixT top n 0) by omega, e2]
 rw [show z2 (ixT top n 0) + (sumN z2 n - z2 (ixT top n 0)) = sumN z2 n by omega]
 exact w64_in (by omega) (by omega)
end
section
variable {n : Nat} {room x0 x1 y0 y1 am i : Int} {z1 z2 : Nat → Int} {p : X × St → Prop} (hT : tankE n room z1 z2 = 0)
include hT
theorem k2E_ok {top : Bool} {e : Nat} (h2 : 2 ≤ n) (he : e = ixT top n 0) (hN : SkLeads p (k2N n room x0 x1 y0 y1 z1 z2 (sumA z1 n) (sumA z2 n) am i)) : SkLeads p (k2E kfT n room x0 x1 y0 y1 z1 z2 (sumA z1 n) (sumA z2 n) am i top (n - 2) e) := by
 subst he
 obtain ⟨⟨b1, _⟩, _⟩ := tank_facts hT
 obtain ⟨c1, c2, c3, c4⟩ := end_rest (top := top) hT h2
 have g1 := gvB_ok (n := n) (by omega)
 have g2 := gvB_ok (n := n - 2 + 1) (by omega)
 have e1 : w64 ((n : Int) - 1) = ((n - 2 + 1 : Nat) : Int) := by rw [w64_in (by omega) (by omega)]; omega
 exact sk_need g1 (sk_ff (sk_need c1 (sk_ff (sk_no (bneN c2) (sk_no (bneN e1.symm) (sk_need g2 (sk_ff (sk_need g2 (sk_ff (sk_need c3 (sk_ff (sk_no (bneN c4) (sk_ff hN))))))))))))) 
theorem k2L_ok {top : Bool} (hn0 : 0 < n) (hN : SkLeads p (k2N n room x0 x1 y0 y1 z1 z2 (sumA z1 n) (sumA z2 n) am i)) : SkLeads p (k2L kfT n room x0 x1 y0 y1 z1 z2 (sumA z1 n) (sumA z2 n) am i (n - 2) top) := by
 obtain ⟨⟨b1, _⟩, _⟩ := tank_facts hT
 have ix : (decide ((0 : Int) ≤ 0) && decide ((0 : Int) < (n : Int))) = true := kand (decT (Int.le_refl 0)) (decT (by omega))
 cases top with
 | false =>
  refine sk_either (fun _ => hN) fun g => ?_
  have h2 : 2 ≤ n := by have := of_decide_eq_false g; omega
  have hE := k2E_ok (top := false) (e := 0 + Int.toNat 0) hT h2 rfl hN
  exact sk_need ix (sk_ff (sk_both hE hE))
 | true =>
  refine sk_either (fun _ => hN) fun g => ?_
  have h2 : 2 ≤ n := by have := of_decide_eq_false g; omega
  have e1 : w64 ((n : Int) - 1) = ((n - 1 : Nat) : Int) := by rw [w64_in (by omega) (by omega)]; omega
  have e2 : (0 + (w64 ((n : Int) - 1)).toNat) = n - 1 := by rw [e1]; omega
  have hE := k2E_ok (top := true) (e := 0 + (w64 ((n : Int) - 1)).toNat) hT h2 (by rw [e2]; rfl) hN
  exact sk_need ix (sk_tt (sk_need (kand (decT (by omega)) (decT (by omega))) (sk_need (blt_lit (by omega)) (sk_need (blt_lit (by omega)) (sk_both hE hE)))))
theorem k2S_ok {top : Bool} (hn0 : 0 < n) (ha : 1 ≤ am) (ha2 : am ≤ 1000000) (hN : SkLeads p (k2N n room x0 x1 y0 y1 z1 z2 (sumA z1 n) (sumA z2 n) am i)) : ∃ d, SkLeads p (k2S kfT n room x0 x1 y0 y1 z1 z2 (sumA z1 n) (sumA z2 n) am i top (n - 2) d) := by
 have hL := k2L_ok (top := top) hT hn0 hN
 obtain ⟨⟨b1, b2, b3⟩, _, hr, e1, e2, hR⟩ := tank_facts hT
 have hb1 := hR.bA
 have hb2 := hR.bH
 have g1 := gvB_ok (n := n) (by omega)
 by_cases hs : sumN z1 n < am
 ·exact ⟨.sh, sk_tt (sk_nn (sk_need g1 (sk_ff (sk_need (kdN_sh hn0 (by omega) (drE_short hT ha ha2 hs)) (sk_yes (decT (by omega)) (sk_ff hL))))))⟩
 ·have hz := drE_zero hT ha (by omega)
  obtain ⟨f1, f2, f3, f4, f5, f6⟩ := drw_ok (top := top) hT ha (by omega : am ≤ sumN z1 n)
  have hle : sumN z2 n - drH n am top z1 z2 ≥ 0 := by
   rw [← f1.sh]
   exact sumN_nn _ fun j hj => (f1.pos j hj).2
  have wl : w64 (sumA z1 n - am) = sumN z1 n - am := by rw [e1]; exact w64_in (by omega) (by omega)
  have wh : w64 (sumA z2 n - drH n am top z1 z2) = sumN z2 n - drH n am top z1 z2 := by rw [e2]; exact w64_in (by omega) (by omega)
  by_cases h0 : (drL delS n am top z1 z2 n).1 = 0
  ·have q1 := f1.sa
   have q2 := f1.sh
   rw [h0] at q1 q2
   have q1 : (0 : Int) = sumN z1 n - am := q1
   have q2 : (0 : Int) = sumN z2 n - drH n am top z1 z2 := q2
   have hT0 : tankE 0 room (fun _ => 0) (fun _ => 0) = 0 := tank_zero (A := 0) (H := 0) ⟨fun i hi => absurd (show i < 0 from hi) (by omega), rfl, rfl, by decide, by decide⟩ (fun i hi => absurd hi (by omega)) (by omega) b2 b3 (by omega)
   exact ⟨.z, sk_tt (sk_nn (sk_need g1 (sk_ff (sk_need (kdN_z hn0 (by omega) hz h0) (sk_no (decF (by omega)) (sk_ff (sk_tt (sk_need (kbeq hT0) (sk_ff (sk_tt (sk_no (bneN (q1.trans wl.symm)) (sk_tt (sk_no (bneN (q2.trans wh.symm)) (sk_no (decF (Int.not_lt.2 f6)) hL))))))))))))))⟩
  ·rcases hD : drK togS (drL delS n am top z1 z2 n) with ⟨m', a, b⟩
   rw [hD] at f2 f3 f5
   have hm1 : 0 < m' := by
    rcases Nat.eq_zero_or_pos m' with h | h
    ·exfalso
     subst h
     have q1 : (0 : Int) = sumN z1 n - am := f2.sa
     rw [← q1] at f1
     exact h0 (rng_zero f1).1
    ·exact h
   obtain ⟨m, rfl⟩ : ∃ m, m' = m + 1 := ⟨m' - 1, by omega⟩
   have f5 : m + 1 ≤ n := f5
   have hT2 := tank_zero (room := room) f2 f3 (by omega) b2 b3 (by omega)
   obtain ⟨_, _, _, c1, c2, _⟩ := tank_facts hT2
   have hsa : sumN a (m + 1) = sumN z1 n - am := f2.sa
   have hsb : sumN b (m + 1) = sumN z2 n - drH n am top z1 z2 := f2.sh
   have hDk : (kfT.dK n am top z1 z2).2 = (a, b) := by
    show (drK togS (drL delS n am top z1 z2 n)).2 = (a, b)
    rw [hD]
   have gm := gvB_ok (n := m + 1) (by omega)
   have ck : ckB kfT room (m + 1) (kfT.dK n am top z1 z2).2.1 (kfT.dK n am top z1 z2).2.2 = true := by
    rw [hDk]
    exact kand (okN_ok _) (kbeq hT2)
   have s1 : sumA (kfT.dK n am top z1 z2).2.1 (m + 1) = w64 (sumA z1 n - am) := by
    rw [hDk, wl]
    exact c1.trans hsa
   have s2 : sumA (kfT.dK n am top z1 z2).2.2 (m + 1) = w64 (sumA z2 n - kfT.dH n am top z1 z2) := by
    rw [hDk]
    exact (c2.trans hsb).trans wh.symm
   refine ⟨.g m, sk_tt (sk_nn (sk_need g1 (sk_ff (sk_need (kdN_g hn0 (by omega) hz h0 (by rw [hD])) (sk_no (decF (by omega)) (sk_ff (sk_need gm (sk_ff (sk_need ck (sk_ff (sk_need gm (sk_ff (sk_need gm (sk_no (bneN s1) (sk_need gm (sk_ff (sk_need gm (sk_no (bneN s2) (sk_no (decF (Int.not_lt.2 f6)) hL)))))))))))))))))))⟩
end
end Go.Ev
namespace Go.Ev
open Go Go.RowKit Go.Proofs
set_option maxRecDepth 100000
theorem rndF {P : Program} {rec : Code → St → Tree (X × St)} (hrec : RecOk P rec) {c : Code} {sB st : St} {φ : X × St → Prop} (hlow : sB.hp.low = sB.hp.next) (slots slotsX : List Nat) {T : Tree (X × St)} (hT : (rec c st).bind (canonT slots slotsX sB) = T) {S : Sk (X × St)} (h1 : T = into T S) (h2 : fits T S = true) (h3 : SkLeads φ S) : ComesF P c sB st φ := by
 subst hT
 exact comesF_round hrec hlow slots slotsX (all_into h1 h2 h3.all)
def hdI : Nat → Int
 | 0 => 0
 | 1 => 1
 | _ => 2
section
variable (K : Kf) (n : Nat) (room x0 x1 y0 y1 : Int) (z1 z2 : Nat → Int) (c : Cm) (l h am i : Int)
theorem kpT1_eq : (kpRe K n c (kpC 1) (kpH1 n room x0 x1 y0 y1 z1 z2 l h am i)).bind (canonT [3, 4, 5, 7, 8, 15, 177, 178] [3, 5, 7, 8] (kpB n room x0 x1 y0 y1 z1 z2)) = kpT1 K n room x0 x1 y0 y1 z1 z2 c l h am i := by delta kpT1; rfl
theorem k2x_into : kpT1 K n room x0 x1 y0 y1 z1 z2 c l h am 2 = into (kpT1 K n room x0 x1 y0 y1 z1 z2 c l h am 2) (.ff (.leaf (.exit 2, kpX1 n room y0 y1 z1 z2 l h))) := by kernel_rfl
theorem k2x_fits : fits (kpT1 K n room x0 x1 y0 y1 z1 z2 c l h am 2) (.ff (.leaf (.exit 2, kpX1 n room y0 y1 z1 z2 l h))) = true := by kernel_rfl
theorem kpS1_eq : (evR (kpRe K n c) true kpBody (kpP 0) (.exit 0) (kpX0 n room x0 x1 y0 y1 z1 z2 l h)).bind (canO [3, 4, 5, 7, 8, 15, 177, 178] [6] (kpB n room x0 x1 y0 y1 z1 z2)) = kpS1 K n room x0 x1 y0 y1 z1 z2 c l h := by delta kpS1 evO2; rfl
theorem kpS2_eq : (evR (kpRe K n c) true kpBody (kpP 1) (.exit 2) (kpX2 n room y0 y1 z1 z2 l h)).bind (canO [] [6] (kpB n room x0 x1 y0 y1 z1 z2)) = kpS2 K n room x0 x1 y0 y1 z1 z2 c l h := by delta kpS2 evO2; rfl
theorem kpO_eq : evO (kpRo K) kpBody [3, 4, 5, 7, 8, 57, 58, 59] [6] (kpB n room x0 x1 y0 y1 z1 z2) = kpO K n room x0 x1 y0 y1 z1 z2 := by delta kpO; rfl
end
theorem kp_le (n : Nat) (room y0 y1 : Int) (z1 z2 : Nat → Int) (l h : Int) : (kpX1 n room y0 y1 z1 z2 l h).Le (kpX2 n room y0 y1 z1 z2 l h) := ⟨rfl, rfl, rfl, rfl, rfl, fun r => ⟨r.1, r.2, r.3, r.4⟩⟩
theorem comesF_post {P : Program} {c : Code} {sB st s t : St} {x : X} (h : s.Le t) (hc : ComesF P c sB st fun q => q = (x, s)) : ComesF P c sB st fun q => q = (x, t) := by
 intro ro ds0 E0 w0 ds E a w Q rh0 r st1 hz hm hro hq
 refine hc ro ds0 E0 w0 ds E a w Q rh0 r st1 hz hm hro fun q e => ?_
 subst e
 intro ds' E' a' w' r' s' hz' m'
 exact hq _ rfl ds' E' a' w' (h.r r') (h.stp r' s') (h.size.trans hz') m'
section
variable {n : Nat} {room x0 x1 y0 y1 am : Int} {z1 z2 : Nat → Int} (hT : tankE n room z1 z2 = 0) (ha : 1 ≤ am) (ha2 : am ≤ 1000000)
include hT ha ha2
theorem kp_loop1 : ComesF Tryz.prog (.loop (kpC 1)) (kpB n room x0 x1 y0 y1 z1 z2) (kpH1 n room x0 x1 y0 y1 z1 z2 (sumA z1 n) (sumA z2 n) am 0) fun o => o = (.exit 2, kpX1 n room y0 y1 z1 z2 (sumA z1 n) (sumA z2 n)) := by
 refine comesF_loop (fun x : Nat => kpH1 n room x0 x1 y0 y1 z1 z2 (sumA z1 n) (sumA z2 n) am (hdI x)) (fun x => 2 - x) (fun x => x ≤ 2) _ (fun x hx => ?_) 0 (Nat.zero_le 2)
 have hN : ∀ (i : Int) (x y : Nat), IntKind.i64.wrap (i + 1) = hdI y → y ≤ 2 → 2 - y < 2 - x → SkLeads (fun p : X × St => match p.1 with | .normal => ∃ y, p.2.Le (kpH1 n room x0 x1 y0 y1 z1 z2 (sumA z1 n) (sumA z2 n) am (hdI y)) ∧ y ≤ 2 ∧ 2 - y < 2 - x | _ => p = (.exit 2, kpX1 n room y0 y1 z1 z2 (sumA z1 n) (sumA z2 n))) (k2N n room x0 x1 y0 y1 z1 z2 (sumA z1 n) (sumA z2 n) am i) := fun i x y e h1 h2 => sk_leaf ⟨y, by rw [e]; exact St.Le.refl _, h1, h2⟩
 have go : ∀ (top : Bool) (i : Int) (x y : Nat), (∀ d, kpT1 kfT n room x0 x1 y0 y1 z1 z2 ⟨.large, kdS (n - 2) d, 0, fun _ => true⟩ (sumA z1 n) (sumA z2 n) am i = into (kpT1 kfT n room x0 x1 y0 y1 z1 z2 ⟨.large, kdS (n - 2) d, 0, fun _ => true⟩ (sumA z1 n) (sumA z2 n) am i) (k2S kfT n room x0 x1 y0 y1 z1 z2 (sumA z1 n) (sumA z2 n) am i top (n - 2) d)) →
   (∀ d, fits (kpT1 kfT n room x0 x1 y0 y1 z1 z2 ⟨.large, kdS (n - 2) d, 0, fun _ => true⟩ (sumA z1 n) (sumA z2 n) am i) (k2S kfT n room x0 x1 y0 y1 z1 z2 (sumA z1 n) (sumA z2 n) am i top (n - 2) d) = true) → 0 < n → IntKind.i64.wrap (i + 1) = hdI y → y ≤ 2 → 2 - y < 2 - x → ComesF Tryz.prog (kpC 1) (kpB n room x0 x1 y0 y1 z1 z2) (kpH1 n room x0 x1 y0 y1 z1 z2 (sumA z1 n) (sumA z2 n) am i) fun p : X × St => match p.1 with | .normal => ∃ y, p.2.Le (kpH1 n room x0 x1 y0 y1 z1 z2 (sumA z1 n) (sumA z2 n) am (hdI y)) ∧ y ≤ 2 ∧ 2 - y < 2 - x | _ => p = (.exit 2, kpX1 n room y0 y1 z1 z2 (sumA z1 n) (sumA z2 n)) := fun top i x y h1 h2 hn0 e hy1 hy2 => by
  obtain ⟨d, hd⟩ := k2S_ok (top := top) hT hn0 ha ha2 (hN i x y e hy1 hy2)
  exact rndF (kpRe_ok ⟨.large, kdS (n - 2) d, 0, fun _ => true⟩ n) rfl [3, 4, 5, 7, 8, 15, 177, 178] [3, 5, 7, 8] (kpT1_eq kfT n room x0 x1 y0 y1 z1 z2 _ _ _ am i) (h1 d) (h2 d) hd
 have goz : ∀ (i : Int) (x y : Nat), n = 0 → kpT1 kfT 0 room x0 x1 y0 y1 z1 z2 ⟨.large, kdS 0 .sh, 0, fun _ => true⟩ (sumA z1 0) (sumA z2 0) am i = into (kpT1 kfT 0 room x0 x1 y0 y1 z1 z2 ⟨.large, kdS 0 .sh, 0, fun _ => true⟩ (sumA z1 0) (sumA z2 0) am i) (k2Z kfT room x0 x1 y0 y1 z1 z2 (sumA z1 0) (sumA z2 0) am i) →
   fits (kpT1 kfT 0 room x0 x1 y0 y1 z1 z2 ⟨.large, kdS 0 .sh, 0, fun _ => true⟩ (sumA z1 0) (sumA z2 0) am i) (k2Z kfT room x0 x1 y0 y1 z1 z2 (sumA z1 0) (sumA z2 0) am i) = true → IntKind.i64.wrap (i + 1) = hdI y → y ≤ 2 → 2 - y < 2 - x → ComesF Tryz.prog (kpC 1) (kpB n room x0 x1 y0 y1 z1 z2) (kpH1 n room x0 x1 y0 y1 z1 z2 (sumA z1 n) (sumA z2 n) am i) fun p : X × St => match p.1 with | .normal => ∃ y, p.2.Le (kpH1 n room x0 x1 y0 y1 z1 z2 (sumA z1 n) (sumA z2 n) am (hdI y)) ∧ y ≤ 2 ∧ 2 - y < 2 - x | _ => p = (.exit 2, kpX1 n room y0 y1 z1 z2 (sumA z1 n) (sumA z2 n)) := fun i x y hn h1 h2 e hy1 hy2 => by
  have hN2 := hN i x y e hy1 hy2
  subst hn
  have hE : kfT.dE 0 room am zF zF = 16 := drE_short (n := 0) (z1 := zF) (z2 := zF) hT ha ha2 (show (0 : Int) < am by omega)
  exact rndF (kpRe_ok ⟨.large, kdS 0 .sh, 0, fun _ => true⟩ 0) rfl [3, 4, 5, 7, 8, 15, 177, 178] [3, 5, 7, 8] (kpT1_eq kfT 0 room x0 x1 y0 y1 z1 z2 _ _ _ am i) h1 h2 (sk_tt (sk_tt (sk_need (kbeq hE) (sk_yes (decT (show am > (0 : Int) by omega)) (sk_ff (sk_tt hN2))))))
 match x, hx with
 | 0, _ =>
  rcases Nat.eq_zero_or_pos n with h | h
  ·exact goz 0 0 1 h (k2zf_into kfT room x0 x1 y0 y1 z1 z2 _ _ am .large 0 0 _) (k2zf_fits kfT room x0 x1 y0 y1 z1 z2 _ _ am .large 0 0 _) (by decide) (by omega) (by omega)
  ·obtain ⟨k, rfl⟩ : ∃ k, n = k + 1 := ⟨n - 1, by omega⟩
   exact go false 0 0 1 (fun d => k2f_into kfT room x0 x1 y0 y1 z1 z2 _ _ am k .large _ 0 _ d) (fun d => k2f_fits kfT room x0 x1 y0 y1 z1 z2 _ _ am k .large _ 0 _ d) h (by decide) (by omega) (by omega)
 | 1, _ =>
  rcases Nat.eq_zero_or_pos n with h | h
  ·exact goz 1 1 2 h (k2zt_into kfT room x0 x1 y0 y1 z1 z2 _ _ am .large 0 0 _) (k2zt_fits kfT room x0 x1 y0 y1 z1 z2 _ _ am .large 0 0 _) (by decide) (by omega) (by omega)
  ·obtain ⟨k, rfl⟩ : ∃ k, n = k + 1 := ⟨n - 1, by omega⟩
   exact go true 1 1 2 (fun d => k2t_into kfT room x0 x1 y0 y1 z1 z2 _ _ am k .large _ 0 _ d) (fun d => k2t_fits kfT room x0 x1 y0 y1 z1 z2 _ _ am k .large _ 0 _ d) h (by decide) (by omega) (by omega)
 | 2, _ => exact rndF (kpRe_ok ⟨.large, fun _ => .sh, 0, fun _ => true⟩ n) rfl [3, 4, 5, 7, 8, 15, 177, 178] [3, 5, 7, 8] (kpT1_eq kfT n room x0 x1 y0 y1 z1 z2 _ _ _ am 2) (k2x_into kfT n room x0 x1 y0 y1 z1 z2 _ _ _ am) (k2x_fits kfT n room x0 x1 y0 y1 z1 z2 _ _ _ am) (sk_ff (sk_leaf rfl))
end
theorem kAm_bd {x0 : Int} (h0 : 0 ≤ x0) (h1 : x0 ≤ 65535) : 1 ≤ kAm x0 ∧ kAm x0 ≤ 65535 := by
 unfold kAm
 rw [w64_in (n := x0) (by omega) (by omega), Int.tmod_eq_emod_of_nonneg h0]
 have a := Int.emod_nonneg x0 (show (65535 : Int) ≠ 0 by decide)
 have b := Int.emod_lt_of_pos x0 (show (0 : Int) < 65535 by decide)
 rw [w64_in (by omega) (by omega)]
 omega
section
variable {n : Nat} {room x0 x1 y0 y1 : Int} {z1 z2 : Nat → Int} (h0 : 0 ≤ x0) (h1 : x0 ≤ 65535) (h2 : 0 ≤ x1) (h3 : x1 ≤ 65535)
include h0 h1 h2 h3
theorem k1Tl_ok {a b : Nat → Int} (hT : tankE n room a b = 0) (hn : n ≤ 12) {p : (X × St) ⊕ (List Bool × St) → Prop} (hp : p (.inr (kpP 1, kpH1 n room x0 x1 y0 y1 z1 z2 (sumA a n) (sumA b n) (kAm x0) 0))) :
  ∃ c, kcB kfT n room x0 x1 a b c = true ∧ SkLeads p (k1Tl kfT n room x0 x1 y0 y1 z1 z2 (sumA a n) (sumA b n) a b c) := by
 obtain ⟨a1, a2⟩ := kAm_bd h0 h1
 have hx : w64 x1 = x1 := w64_in (by omega) (by omega)
 obtain ⟨⟨b1, b2, b3⟩, _, hr, e1, e2, hR⟩ := tank_facts hT
 have hb1 := hR.bA
 have hb2 := hR.bH
 have n1 := sumN_nn (f := a) n fun i hi => by have := (hR.pos i hi).1; exact Int.le_trans (by decide) this
 have n2 := sumN_nn (f := b) n fun i hi => (hR.pos i hi).2
 obtain ⟨am, ham⟩ : ∃ am, am = kAm x0 := ⟨_, rfl⟩
 have hG : SkLeads p (kpGo n room x0 x1 y0 y1 z1 z2 (sumA a n) (sumA b n)) := sk_leaf hp
 have w1 : w64 (sumA a n + kAm x0) = sumN a n + kAm x0 := by rw [e1]; exact w64_in (by omega) (by omega)
 have w2 : w64 (sumA b n + w64 x1) = sumN b n + x1 := by rw [e2, hx]; exact w64_in (by omega) (by omega)
 have c1 : chE1 n room (kAm x0) (w64 x1) a b = 0 := first_z hT (first_z (wW_ok a1 (by omega)) (first_z (wW_ok (by omega) (by omega)) rfl))
 have r1 : w64 (room - sumA a n) = room - sumN a n := by rw [e1]; exact w64_in (by omega) (by omega)
 have r2 : w64 (1000000000 - sumA b n) = 1000000000 - sumN b n := by rw [e2]; exact w64_in (by omega) (by omega)
 have ce : chE togS n room (kAm x0) (w64 x1) a b = chE3 togS n room (kAm x0) (w64 x1) a b := by
  unfold chE
  rw [c1]
  rfl
 by_cases g1 : sumN a n + kAm x0 > room
 ·refine ⟨.large, kbeq ?_, sk_yes (decT (by omega)) (sk_tt (sk_ff (sk_ff hG)))⟩
  have c2 : chE2 n room (kAm x0) (w64 x1) a b = 4 := by
   unfold chE2 firstZ
   rw [r1, decT (by omega : kAm x0 > room - sumN a n)]
   rfl
  show chE togS n room (kAm x0) (w64 x1) a b = 4
  rw [ce]
  unfold chE3
  rw [c2]
  rfl
 ·by_cases g2 : sumN b n + x1 > 1000000000
  ·refine ⟨.over, kbeq ?_, sk_no (decF (by omega)) (sk_yes (decT (by omega)) (sk_tt (sk_ff hG)))⟩
   have c2 : chE2 n room (kAm x0) (w64 x1) a b = 23 := by
    unfold chE2 firstZ firstZ
    rw [r1, r2, decF (by omega : ¬ kAm x0 > room - sumN a n), decT (by omega : w64 x1 > 1000000000 - sumN b n)]
    rfl
   show chE togS n room (kAm x0) (w64 x1) a b = 23
   rw [ce]
   unfold chE3
   rw [c2]
   rfl
  ·have c2 : chE2 n room (kAm x0) (w64 x1) a b = 0 := first_z (errIf_no (decF (by omega))) (first_z (errIf_no (decF (by omega))) rfl)
   obtain ⟨f1, f2, f3, f4⟩ := charged_ok hT a1 (show 0 ≤ w64 x1 by omega) (by omega) (by omega)
   have c3 : chE togS n room (kAm x0) (w64 x1) a b = 0 := by
    rw [ce]
    unfold chE3
    rw [c2]
    show errIf (decide (((chL togS n (kAm x0) (w64 x1) a b).1 : Int) > 16)) 5 = 0
    exact errIf_no (decF (by omega))
   rcases hD : chL togS n (kAm x0) (w64 x1) a b with ⟨m', u, v⟩
   rw [hD] at f1 f2 f3 f4
   have f3 : m' ≤ n + 1 := f3
   have f4 : 1 ≤ m' := f4
   obtain ⟨m, rfl⟩ : ∃ m, m' = m + 1 := ⟨m' - 1, by omega⟩
   have hT2 := tank_zero (room := room) f1 f2 (by omega) b2 b3 (by omega)
   obtain ⟨_, _, _, q1, q2, _⟩ := tank_facts hT2
   have hsa : sumN u (m + 1) = sumN a n + kAm x0 := f1.sa
   have hsb : sumN v (m + 1) = sumN b n + w64 x1 := f1.sh
   have hDk : (kfT.cL n (kAm x0) (w64 x1) a b).2 = (u, v) := by
    show (chL togS n (kAm x0) (w64 x1) a b).2 = (u, v)
    rw [hD]
   have gm := gvB_ok (n := m + 1) (by omega)
   have ck : ckB kfT room (m + 1) (kfT.cL n (kAm x0) (w64 x1) a b).2.1 (kfT.cL n (kAm x0) (w64 x1) a b).2.2 = true := by
    rw [hDk]
    exact kand (okN_ok _) (kbeq hT2)
   have s1 : sumA (kfT.cL n (kAm x0) (w64 x1) a b).2.1 (m + 1) = w64 (sumA a n + kAm x0) := by
    rw [hDk, w1]
    exact q1.trans hsa
   have s2 : sumA (kfT.cL n (kAm x0) (w64 x1) a b).2.2 (m + 1) = w64 (sumA b n + w64 x1) := by
    rw [hDk, w2, ← hx]
    rw [hx]
    exact (q2.trans hsb).trans (by rw [hx])
   have hl : w64 ((n : Int) + 1) = (n : Int) + 1 := w64_in (by omega) (by omega)
   refine ⟨.ok m, kand (kbeq c3) ?_, sk_no (decF (by omega)) (sk_no (decF (by omega)) (sk_ff (sk_need gm (sk_ff (sk_need ck (sk_ff (sk_no (bneN rfl) (sk_need gm (sk_ff (sk_need gm (sk_no (bneN s1) (sk_need gm (sk_ff (sk_need gm (sk_no (bneN s2) (sk_no (decF (by omega)) hG))))))))))))))))⟩
   show Nat.beq (chL togS n (kAm x0) (w64 x1) a b).1 (m + 1) = true
   rw [hD]
   exact beqY _
theorem k1S_ok (hT : tankE n room z1 z2 = 0) (hn : n ≤ 12) {p : (X × St) ⊕ (List Bool × St) → Prop} (hp : p (.inr (kpP 1, kpH1 n room x0 x1 y0 y1 z1 z2 (sumA z1 n) (sumA z2 n) (kAm x0) 0))) :
  ∃ c, SkLeads p (k1S kfT room x0 x1 y0 y1 z1 z2 (sumA z1 n) (sumA z2 n) c n) := by
 cases n with
 | zero =>
  have hT0 : tankE 0 room (fun _ => 0) (fun _ => 0) = 0 := hT
  obtain ⟨c, hc, hS⟩ := k1Tl_ok (y0 := y0) (y1 := y1) (z1 := z1) (z2 := z2) h0 h1 h2 h3 hT0 hn (p := p) hp
  exact ⟨c, sk_tt (sk_need (kbeq hT0) (sk_ff (sk_tt (sk_need (kbeq hT0) (sk_ff (sk_ff (sk_ff (sk_no (bneN rfl) (sk_no (bneN rfl) (sk_tt (sk_need hc hS)))))))))))⟩
 | succ k =>
  obtain ⟨c, hc, hS⟩ := k1Tl_ok (y0 := y0) (y1 := y1) (z1 := z1) (z2 := z2) h0 h1 h2 h3 hT hn (p := p) hp
  have gv := gvB_ok (n := k + 1) (by omega)
  have ck : ckB kfT room (k + 1) z1 z2 = true := kand (okN_ok _) (kbeq hT)
  have sm : smK (k + 1) = true := kand (okN_ok _) (ble_lit (by omega))
  exact ⟨c, sk_need gv (sk_ff (sk_need ck (sk_ff (sk_need sm (sk_need gv (sk_ff (sk_need ck (sk_ff (sk_need sm (sk_ff (sk_ff (sk_no (bneN rfl) (sk_no (bneN rfl) (sk_nn (sk_nn (sk_nn (sk_need gv (sk_ff (sk_need (kand (okN_ok _) (kand (kand (blt_lit (Nat.succ_pos k)) (ble_lit (by omega))) hc)) hS)))))))))))))))))))⟩
end
theorem kf_pR : kfT.pR = rmP := by dsimp only [kfT]
theorem kf_pE : kfT.pE = psE := by dsimp only [kfT]
theorem kf_pA : kfT.pA = psAt := by dsimp only [kfT]
theorem kf_p1 : kfT.p1 = f1P := by dsimp only [kfT]
theorem kf_p2 : kfT.p2 = f2P := by dsimp only [kfT]
theorem kf_pN : kfT.pN = nlP := by dsimp only [kfT]
theorem kf_sN : kfT.sN = wrdN := by dsimp only [kfT]
theorem kf_tP : kfT.tP = txP := by dsimp only [kfT]
theorem kf_tE : kfT.tE = tankE := by dsimp only [kfT]
theorem kDn_bd {y0 y1 : Int} (h0 : 0 ≤ y0) (h1 : y0 ≤ 255) (h2 : 0 ≤ y1) (h3 : y1 ≤ 255) : (1 ≤ kDn y1 ∧ kDn y1 ≤ 256) ∧ 0 ≤ kNm y0 y1 ∧ kNm y0 y1 ≤ kDn y1 := by
 have e : kDn y1 = 1 + y1 := by
  unfold kDn
  rw [w64_in (n := y1) (by omega) (by omega)]
  exact w64_in (by omega) (by omega)
 have e2 : kNm y0 y1 = y0 % (1 + y1) := by
  unfold kNm
  rw [show w64 (1 + w64 y1) = 1 + y1 from e, w64_in (n := y0) (by omega) (by omega), Int.tmod_eq_emod_of_nonneg h0]
 have a := Int.emod_nonneg y0 (show 1 + y1 ≠ 0 by omega)
 have b := Int.emod_lt_of_pos y0 (show 0 < 1 + y1 by omega)
 rw [e, e2]
 omega
section
variable {n : Nat} {room y0 y1 : Int} {z1 z2 : Nat → Int} (hT : tankE n room z1 z2 = 0)
include hT
theorem txP_ok : (txP room z1 z2 n).size ≤ 4096 ∧ 0 < (txP room z1 z2 n).size := by
 obtain ⟨⟨b1, _⟩, _⟩ := tank_facts hT
 have h1 := txQ_size room z1 z2 n
 rw [← tx_same] at h1
 obtain ⟨_, _, _, _, _, h2⟩ := print_told hT
 have h3 : cntA (txP room z1 z2 n) 10 ≤ (txP room z1 z2 n).size := by rw [← mAt_end]; exact mAt_le _ 10 _
 omega
omit hT in
theorem k3T_ok {zz1 zz2 : Nat → Int} (hT : tankE n room zz1 zz2 = 0) {s : ByteArray} (hs : s = txP room zz1 zz2 n) {a b : Nat → Int} (hs' : sameT n n (kfT.pR s) room a b z1 z2 = true) {p : (X × St) ⊕ (List Bool × St) → Prop} (hp : p (.inl (.ret, k3W n z1 z2 true))) : SkLeads p (k3T kfT n room z1 z2 a b s) := by
 obtain ⟨⟨b1, _⟩, _⟩ := tank_facts hT
 obtain ⟨t1, t2⟩ := txP_ok hT
 obtain ⟨q1, q2, q3, q4, q5, q6⟩ := print_told hT
 obtain ⟨c1, c2⟩ := cut_told hT
 rw [← hs] at t1 t2 q6 c1 c2
 have e1 : w64 ((s.size : Int) - 1) = ((s.size - 1 : Nat) : Int) := by rw [w64_in (by omega) (by omega)]; omega
 have ec : cutB s = s.extract 0 (s.size - 1) := by
  unfold cutB
  rw [e1, Int.toNat_natCast]
  rfl
 have hn : ((kfT.sN s (UInt8.ofNat (Int.toNat 10)) : Nat) : Int) = w64 ((n : Int) + 2) := by
  rw [kf_sN, show UInt8.ofNat (Int.toNat 10) = (10 : UInt8) from rfl, wrdN_is, q6, w64_in (by omega) (by omega)]
  omega
 have g1 : (!sameT n n (kfT.pR s) room a b z1 z2) = false := by rw [hs']; rfl
 have g2 : (kfT.pE (cutB s) == 25) = true := by rw [kf_pE, ec]; exact kbeq c1
 have g3 : (kfT.pA (cutB s) == (n : Int)) = true := by rw [kf_pA, ec]; exact kbeq c2
 have g4 : (decide ((0 : Int) ≤ 10) && decide ((10 : Int) < 256) && Nat.ble s.size 1000000) = true := kand (by decide) (ble_lit (by omega))
 have g5 : (decide ((0 : Int) ≤ 0) && decide (0 ≤ w64 ((s.size : Int) - 1)) && decide (w64 ((s.size : Int) - 1) ≤ (s.size : Int))) = true := by
  rw [e1]
  exact kand (kand (by decide) (decT (by omega))) (decT (by omega))
 have L1 := sk_need g5 (sk_need g2 (sk_tt (sk_yes (S' := k3R n z1 z2 false) g3 (sk_leaf hp))))
 exact sk_no g1 (sk_ff (sk_ff (sk_ff (sk_ff (sk_ff (sk_need g4 (sk_ff (sk_ff (sk_no (bneN hn) L1)))))))))
theorem k3S_ok (h0 : 0 ≤ y0) (h1 : y0 ≤ 255) (h2 : 0 ≤ y1) (h3 : y1 ≤ 255) {p : (X × St) ⊕ (List Bool × St) → Prop} (hp : p (.inl (.ret, k3W n z1 z2 true))) : ∃ m, SkLeads p (k3S kfT room y0 y1 z1 z2 (sumA z1 n) (sumA z2 n) m n) := by
 obtain ⟨⟨d1, d2⟩, d3, d4⟩ := kDn_bd h0 h1 h2 h3
 have hd : (!(kDn y1 == 0)) = true := by
  rw [show (kDn y1 == 0) = false by rw [beq_eq_false_iff_ne]; omega]; rfl
 obtain ⟨⟨b1, b2, b3⟩, _, hr, e1, e2, hR⟩ := tank_facts hT
 have hb1 := hR.bA
 have hb2 := hR.bH
 have n2 := sumN_nn (f := z2) n fun i hi => (hR.pos i hi).2
 have hk : ∀ zz1 zz2 : Nat → Int, tankE n room zz1 zz2 = 0 → cpE n room (kNm y0 y1) (kDn y1) zz1 zz2 = 0 := fun zz1 zz2 h => first_z h (first_z (wW_ok d1 (by omega)) (first_z (wW_ok d3 d4) rfl))
 cases n with
 | zero =>
  have hT0 : tankE 0 room (fun _ => 0) (fun _ => 0) = 0 := hT
  obtain ⟨q1, q2, q3, q4, q5, q6⟩ := print_told hT0
  have g1 : (0 != w64 (sumA z2 0 - kfT.kN 0 (fun _ => 0) (kNm y0 y1) (kDn y1))) = false := rfl
  have g3 : w64 (kfT.kN 0 (fun _ => 0) (kNm y0 y1) (kDn y1) * kDn y1) = 0 := by
   show w64 (0 * kDn y1) = 0
   rw [Int.zero_mul]; rfl
  have g4 : w64 (sumA z2 0 * kNm y0 y1) = 0 := by
   show w64 (0 * kNm y0 y1) = 0
   rw [Int.zero_mul]; rfl
  have gp : (kfT.pE (kfT.tP room (fun _ => 0) (fun _ => 0) 0) == 0 && Nat.beq (kfT.pN (kfT.tP room (fun _ => 0) (fun _ => 0) 0)) 0) = true := by
   rw [kf_pE, kf_tP, kf_pN]
   exact kand (kbeq q1) (by rw [q3]; rfl)
  have sm : ∀ a b c d : Nat → Int, sameT 0 0 (kfT.pR (kfT.tP room (fun _ => 0) (fun _ => 0) 0)) room a b c d = true := fun a b c d => by
   rw [kf_pR, kf_tP, q4]
   exact same_congr (n := 0) (fun j hj => by omega) fun j hj => by omega
  have ht : (Nat.ble 0 17 && (kfT.tE 0 room (fun _ => 0) (fun _ => 0) == 0)) = true := by
   rw [kf_tE]
   exact kand rfl (kbeq hT0)
  refine ⟨0, sk_nn (sk_nn (sk_need hd (sk_tt (sk_need (kbeq (hk _ _ hT0)) (sk_ff (sk_tt (sk_need (kbeq hT0) (sk_ff (sk_tt (sk_no (bneN rfl) (sk_tt (sk_no g1 (sk_no (decF (show ¬ (0 : Int) < 0 by decide)) (sk_no (decF (by rw [g3, g4]; decide)) (sk_tt (sk_need ht (sk_tt (sk_ff (sk_tt (sk_need ht (sk_need gp (sk_ff (sk_ff (sk_ff (sk_ff (sk_ff (sk_ff (sk_ff (sk_tt (sk_ff (sk_ff ?_)))))))))))))))))))))))))))))))⟩
  exact k3T_ok hT0 (by rw [kf_tP]) (sm _ _ _ _) hp
 | succ k =>
  obtain ⟨q1, q2, q3, q4, q5, q6⟩ := print_told hT
  obtain ⟨f1, f2, f3, f4, f5, f6⟩ := cooled_ok hT d3 d4 d1 (by omega)
  have f7 : 1 ≤ (coolT (k + 1) z1 z2 (kNm y0 y1) (kDn y1)).1 := (togS_bd z1 (coolH z2 (kNm y0 y1) (kDn y1)) (k + 1)).2 (by omega)
  rcases hD : coolT (k + 1) z1 z2 (kNm y0 y1) (kDn y1) with ⟨m', u, v⟩
  rw [hD] at f1 f2 f3 f7
  have f3 : m' ≤ k + 1 := f3
  have f7 : 1 ≤ m' := f7
  obtain ⟨m, rfl⟩ : ∃ m, m' = m + 1 := ⟨m' - 1, by omega⟩
  have hT2 := tank_zero (room := room) f1 f2 (by omega) b2 b3 (by omega)
  obtain ⟨_, _, _, c1, c2, _⟩ := tank_facts hT2
  have hsa : sumN u (m + 1) = sumN z1 (k + 1) := f1.sa
  have hsb : sumN v (m + 1) = sumN z2 (k + 1) - sumA (coolN z2 (kNm y0 y1) (kDn y1)) (k + 1) := f1.sh
  have hDk : (kfT.kL (k + 1) z1 z2 (kNm y0 y1) (kDn y1)).2 = (u, v) := by
   show (coolT (k + 1) z1 z2 (kNm y0 y1) (kDn y1)).2 = (u, v)
   rw [hD]
  have hDm : Nat.beq (kfT.kL (k + 1) z1 z2 (kNm y0 y1) (kDn y1)).1 (m + 1) = true := by
   show Nat.beq (coolT (k + 1) z1 z2 (kNm y0 y1) (kDn y1)).1 (m + 1) = true
   rw [hD]
   exact beqY _
  have gm := gvB_ok (n := m + 1) (by omega)
  have gv := gvB_ok (n := k + 1) (by omega)
  have ck : ckB kfT room (m + 1) (kfT.kL (k + 1) z1 z2 (kNm y0 y1) (kDn y1)).2.1 (kfT.kL (k + 1) z1 z2 (kNm y0 y1) (kDn y1)).2.2 = true := by
   rw [hDk]
   exact kand (okN_ok _) (kbeq hT2)
  have hv := sumN_nn (f := v) (m + 1) fun j hj => (f1.pos j hj).2
  have s1 : sumA (kfT.kL (k + 1) z1 z2 (kNm y0 y1) (kDn y1)).2.1 (m + 1) = sumA z1 (k + 1) := by
   rw [hDk, e1]
   exact c1.trans hsa
  have s2 : sumA (kfT.kL (k + 1) z1 z2 (kNm y0 y1) (kDn y1)).2.2 (m + 1) = w64 (sumA z2 (k + 1) - kfT.kN (k + 1) z2 (kNm y0 y1) (kDn y1)) := by
   rw [hDk, e2]
   refine (c2.trans hsb).trans ?_
   show sumN z2 (k + 1) - sumA (coolN z2 (kNm y0 y1) (kDn y1)) (k + 1) = w64 (sumN z2 (k + 1) - sumA (coolN z2 (kNm y0 y1) (kDn y1)) (k + 1))
   exact (w64_in (by omega) (by omega)).symm
  have pb := prodB (a := kNm y0 y1) (h := sumN z2 (k + 1)) d3 (by omega) n2 hb2
  have pc := prodB (a := kDn y1) (h := sumA (coolN z2 (kNm y0 y1) (kDn y1)) (k + 1)) (by omega) (by omega) f4 f5
  have s3 : ¬ w64 (kfT.kN (k + 1) z2 (kNm y0 y1) (kDn y1) * kDn y1) > w64 (sumA z2 (k + 1) * kNm y0 y1) := by
   show ¬ w64 (sumA (coolN z2 (kNm y0 y1) (kDn y1)) (k + 1) * kDn y1) > w64 (sumA z2 (k + 1) * kNm y0 y1)
   rw [e2, w64_in (by omega) (by omega), w64_in (by omega) (by omega)]
   omega
  have ht : (okN (k + 1) && (Nat.ble (k + 1) 17 && (kfT.tE (k + 1) room z1 z2 == 0))) = true := kand (okN_ok _) (kand (ble_lit (by omega)) (kbeq hT))
  have hco : (okN (k + 1) && (Nat.ble (k + 1) 17 && (kfT.kE (k + 1) room (kNm y0 y1) (kDn y1) z1 z2 == 0 && Nat.beq (kfT.kL (k + 1) z1 z2 (kNm y0 y1) (kDn y1)).1 (m + 1)))) = true := kand (okN_ok _) (kand (ble_lit (by omega)) (kand (kbeq (hk _ _ hT)) hDm))
  have gp : (kfT.pE (kfT.tP room z1 z2 (k + 1)) == 0 && Nat.beq (kfT.pN (kfT.tP room z1 z2 (k + 1))) (k + 1)) = true := by
   rw [kf_pE, kf_tP, kf_pN]
   exact kand (kbeq q1) (by rw [q3]; exact beqY _)
  have sm : sameT (k + 1) (k + 1) (kfT.pR (kfT.tP room z1 z2 (k + 1))) room (kfT.p1 (kfT.tP room z1 z2 (k + 1))) (kfT.p2 (kfT.tP room z1 z2 (k + 1))) z1 z2 = true := by
   rw [kf_pR, kf_tP, kf_p1, kf_p2, q4]
   exact same_congr (fun j hj => (q5 j hj).1) fun j hj => (q5 j hj).2
  have gx : (!(sumA z1 (k + 1) == sumA z1 (k + 1) && (sumA z2 (k + 1) == sumA z2 (k + 1) && true))) = false := by simp
  refine ⟨m, sk_nn (sk_nn (sk_need hd (sk_nn (sk_need gv (sk_ff (sk_need hco (sk_ff (sk_need gm (sk_ff (sk_need ck (sk_ff (sk_need gm (sk_ff (sk_need gm (sk_no (bneN s1) (sk_need gm (sk_ff (sk_need gm (sk_no (bneN s2) (sk_no (decF (Int.not_lt.2 f4)) (sk_no (decF s3) (sk_need gv (sk_ff (sk_need ht (sk_ff (sk_ff (sk_ff (sk_no gx (sk_no (bneN rfl) (sk_need gv (sk_ff (sk_need ht (sk_need gp (sk_ff (sk_ff (sk_ff (sk_ff (sk_ff (sk_ff (sk_ff (sk_need gv (sk_ff (sk_ff (sk_need (kand (ok2_ok _ _) (ble_lit (by omega))) (sk_ff ?_)))))))))))))))))))))))))))))))))))))))))))))⟩
  exact k3T_ok hT (by rw [kf_tP]) sm hp
end
section
variable (n : Nat) (room x0 x1 y0 y1 : Int) (z1 z2 : Nat → Int)
theorem kp_left : Left2 Tryz.prog Tryz.f11 (hpL1 n (tkC z1 z2)) (boo true) (hpL1 n (tkC z1 z2)) (.ret, kpN n z1 z2 [(6, boo true)] []) := left_of (b := true) (by kernel_rfl)
theorem keeps_call (h0 : 0 ≤ x0) (h1 : x0 ≤ 65535) (h2 : 0 ≤ x1) (h3 : x1 ≤ 65535) (i0 : 0 ≤ y0) (i1 : y0 ≤ 255) (i2 : 0 ≤ y1) (i3 : y1 ≤ 255) : CallAt Tryz.prog 11 (kpArgs n room x0 x1 y0 y1) (hpL1 n (tkC z1 z2)) (boo true) (hpL1 n (tkC z1 z2)) := by
 have hbase : kpB n room x0 x1 y0 y1 z1 z2 = st0 Tryz.f11 (kpArgs n room x0 x1 y0 y1) (hpL1 n (tkC z1 z2)) (false, true) := by kernel_rfl
 have hl := kp_left n z1 z2
 refine call_baseV (rec := kpRo kfT) kpRo_ok (c := kpBody) (fn := Tryz.f11) Tryz.func11 (by kernel_rfl) (by kernel_rfl) (false, true) 2 [3, 4, 5, 7, 8, 57, 58, 59] [6] hbase (kpO_eq kfT n room x0 x1 y0 y1 z1 z2) (kpO_into kfT n room x0 x1 y0 y1 z1 z2) (kpO_fits kfT n room x0 x1 y0 y1 z1 z2) ?_
 refine sk_need (okN_ok n) (sk_either (fun _ => sk_tt (sk_leaf hl)) fun g => sk_either (fun _ => sk_leaf hl) fun g2 => ?_)
 have hT : tankE n room z1 z2 = 0 := by
  have g : (tankE n room z1 z2 != 0) = false := g
  simpa using g
 have hn : n ≤ 12 := by have := of_decide_eq_false g2; omega
 obtain ⟨a1, a2⟩ := kAm_bd h0 h1
 obtain ⟨m, hm⟩ := k3S_ok hT i0 i1 i2 i3 (p := CutV Tryz.prog kpBody (kpB n room x0 x1 y0 y1 z1 z2) (Left2 Tryz.prog Tryz.f11 (hpL1 n (tkC z1 z2)) (boo true) (hpL1 n (tkC z1 z2))) 0) hl
 obtain ⟨c, hc⟩ := k1S_ok (y0 := y0) (y1 := y1) h0 h1 h2 h3 hT hn (p := CutV Tryz.prog kpBody (kpB n room x0 x1 y0 y1 z1 z2) (Left2 Tryz.prog Tryz.f11 (hpL1 n (tkC z1 z2)) (boo true) (hpL1 n (tkC z1 z2))) 1)
  ⟨_, true, kpRe kfT n ⟨.large, fun _ => .sh, m, k3P n⟩, [], [6], kpRe_ok _ n, comesF_post (kp_le n room y0 y1 z1 z2 (sumA z1 n) (sumA z2 n)) (kp_loop1 hT a1 (by omega)), fun o ho => by
   subst ho
   exact leads_in (kpS2_eq kfT n room x0 x1 y0 y1 z1 z2 _ _ _) (k3_into kfT n room x0 x1 y0 y1 z1 z2 _ _ .large (fun _ => .sh) m) (k3_fits kfT n room x0 x1 y0 y1 z1 z2 _ _ .large (fun _ => .sh) m) hm⟩
 refine sk_leaf ⟨_, true, kpRe kfT n ⟨c, fun _ => .sh, 0, fun _ => true⟩, [3, 4, 5, 7, 8, 15, 177, 178], [6], kpRe_ok _ n, kp_loop0 n room x0 x1 y0 y1 z1 z2 (by omega), fun o ho => ?_⟩
 subst ho
 exact leads_in (kpS1_eq kfT n room x0 x1 y0 y1 z1 z2 _ _ _) (k1_into kfT n room x0 x1 y0 y1 z1 z2 _ _ c (fun _ => .sh) 0 (fun _ => true)) (k1_fits kfT n room x0 x1 y0 y1 z1 z2 _ _ c (fun _ => .sh) 0 (fun _ => true)) hc
end
end Go.Ev
