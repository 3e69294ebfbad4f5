/- A tank's text, parsed by the reference: trees. Conditions: none. A tank's text, parsed by the reference: its rounds. Conditions: texts of at most 4096 bytes. A tank's text, parsed by the reference. Conditions: none. -/
import Derived.Test.YtlpchgidkibbeaaGreatDoorPars
namespace Go.Ev
open Go Go.RowKit Go.Proofs
set_option maxRecDepth 100000

section
variable (nS : ByteArray → UInt8 → Nat) (fS : ByteArray → UInt8 → Nat → ByteArray) (vI : ByteArray → Int) (gI : ByteArray → Bool) (tE : Nat → Int → (Nat → Int) → (Nat → Int) → Int)
def tbQa : List (FuncId × Spec) := (47, chSp tE) :: (74, spqSp nS fS) :: (128, txiSp vI gI) :: tbT1
noncomputable def pqRe : Code → St → Tree (X × St) := recT Tryz.prog (tabOf (tbQa nS fS vI gI tE))
end
def zqB (s : ByteArray) : St := baseB 129 [.one (.lit (.string s))] (hpT [] [] [])
def zqN (env : List (Nat × A)) (news : List Blk) : St := stN 129 (envL env) (bsS [] []) [] news
/-- the layers so far: none, or a table -/
def zC (j : Nat) : Option Nat → C
  | none => nilC
  | some q => .sl true j 0 2 0 (q + 1)
def zT (f1 f2 : Nat → Int) : Option Nat → List Blk
  | none => []
  | some q => [⟨false, 98, .rows (q + 1) (tkC f1 f2)⟩]
def strW (n : Nat) (F : Nat → ByteArray) : Blk := ⟨false, 9, .rows n [.str F]⟩
def zqE (a e : Int) (n : Nat) (i : Int) : List (Nat × A) := [(2, .one (.ptr 0 0 1 0)), (3, int a), (4, int e), (5, .one (.ptr 1 0 1 0)), (6, .one (.sl true 2 0 1 0 n)), (7, int i)]
def zqS (a e : Int) (n : Nat) (i : Int) (F : Nat → ByteArray) (room : Int) (c : C) (tb : List Blk) : St := zqN (zqE a e n i) (tbox 76 0 nilC :: tbox 76 room c :: strW n F :: tb)
def zqSl : List Nat := [2, 3, 4, 5, 6, 7]
/-- the loop over lines -/
def zqH (n : Nat) (F : Nat → ByteArray) (room : Int) (f1 f2 : Nat → Int) (lay : Option Nat) (i : Int) : St := zqS 0 0 n i F room (zC 3 lay) (zT f1 f2 lay)
/-- the loop over words: m are read -/
def ziL (l : Nat → Int) : Nat → List Blk
  | 0 => []
  | p + 1 => [⟨false, 3, .rows (p + 1) [.int .i64 l]⟩]
def ziA : Nat → A
  | 0 => .one nilC
  | p + 1 => .one (.sl true 4 0 1 0 (p + 1))
def ziJ : Nat → Nat
  | 0 => 4
  | _ + 1 => 5
def ziS (n : Nat) (F : Nat → ByteArray) (room : Int) (c : C) (tb : List Blk) (i : Int) (nw : Nat) (w : Nat → ByteArray) (b : Bool) (al : A) (W : List Blk) (k : Int) : St :=
  zqN (zqE 0 0 n i ++ [(8, .one (.sl true 3 0 1 0 nw)), (9, .one (.lit (.bool b))), (10, al), (11, int k)]) (tbox 76 0 nilC :: tbox 76 room c :: strW n F :: strW nw w :: (W ++ tb))
def ziSl : List Nat := [2, 3, 4, 5, 6, 7, 8, 9, 10, 11]
def ziH (n : Nat) (F : Nat → ByteArray) (room : Int) (f1 f2 : Nat → Int) (lay : Option Nat) (i : Int) (nw : Nat) (w : Nat → ByteArray) (b : Bool) (l : Nat → Int) (m : Nat) (kk : Int) : St :=
  ziS n F room (zC (ziJ m) lay) (zT f1 f2 lay) i nw w b (ziA m) (ziL l m) kk
noncomputable def zqLp : Code := nthLoop (bodyOf Tryz.f71) (pathOf (bodyOf Tryz.f71) 0)
noncomputable def zqPa : List Bool := pathOf (bodyOf Tryz.f71) 0
noncomputable def ziPa : List Bool := pathOf zqLp 0
noncomputable def ziLp : Code := nthLoop zqLp ziPa
section
variable (nS : ByteArray → UInt8 → Nat) (fS : ByteArray → UInt8 → Nat → ByteArray) (vI : ByteArray → Int) (gI : ByteArray → Bool) (tE : Nat → Int → (Nat → Int) → (Nat → Int) → Int) (s : ByteArray)
noncomputable def zqO : Tree ((X × St) ⊕ (List Bool × St)) := evO (pqRe nS fS vI gI tE) (bodyOf Tryz.f71) zqSl [2, 3, 4] (zqB s)
/-- a round of the loop over lines, up to the loop over words -/
noncomputable def zqR (n : Nat) (F : Nat → ByteArray) (room : Int) (f1 f2 : Nat → Int) (lay : Option Nat) (i : Int) : Tree ((X × St) ⊕ (List Bool × St)) := (evB (pqRe nS fS vI gI tE) zqLp (zqH n F room f1 f2 lay i)).bind (canO ziSl zqSl (zqB s))
/-- behind it -/
noncomputable def zqR2 (q : X × St) : Tree ((X × St) ⊕ (List Bool × St)) := (evR (pqRe nS fS vI gI tE) false zqLp ziPa q.1 q.2).bind (canO [] zqSl (zqB s))
/-- a round of the loop over words -/
noncomputable def ziT (st : St) : Tree (X × St) := (pqRe nS fS vI gI tE ziLp st).bind (canonT ziSl ziSl (zqB s))
noncomputable def zqX (q : X × St) : Tree ((X × St) ⊕ (List Bool × St)) := evO2 (pqRe nS fS vI gI tE) true (bodyOf Tryz.f71) zqPa [] [2, 3, 4] (zqB s) q
def c32 : UInt8 := UInt8.ofNat (Int.toNat 32)
def inN (i : Int) (n : Nat) : Bool := decide (0 ≤ i) && decide (i < (n : Int))
abbrev ZkO := Sk ((X × St) ⊕ (List Bool × St))
noncomputable def zqSt (n : Nat) (F : Nat → ByteArray) (room : Int) (f1 f2 : Nat → Int) (lay : Option Nat) (i : Int) (N : Nat) (w : Nat → ByteArray) (b : Bool) : ZkO := .leaf (.inr (ziPa, ziH n F room f1 f2 lay i N w b (fun _ => 0) 0 1))
noncomputable def zq3 (n : Nat) (F : Nat → ByteArray) (room : Int) (f1 f2 : Nat → Int) (lay : Option Nat) (i : Int) (N : Nat) (w : Nat → ByteArray) : ZkO := .node ((N : Int) == 3) (.need (in0 N) (.need (Nat.blt (0 + Int.toNat 0) N) (.node ((w (0 + Int.toNat 0)).toList == sLayer.toList) (zqSt n F room f1 f2 lay i N w (decide (i > 0))) (zqSt n F room f1 f2 lay i N w false)))) (.ff (zqSt n F room f1 f2 lay i N w false))
noncomputable def zqL (n : Nat) (F : Nat → ByteArray) (room : Int) (f1 f2 : Nat → Int) (lay : Option Nat) (i : Int) (N : Nat) (w : Nat → ByteArray) : ZkO := .node ((N : Int) == 2) (.need (in0 N) (.need (Nat.blt (0 + Int.toNat 0) N) (.node ((w (0 + Int.toNat 0)).toList == sTank.toList) (.node (i == 0) (zqSt n F room f1 f2 lay i N w true) (zq3 n F room f1 f2 lay i N w)) (.ff (zq3 n F room f1 f2 lay i N w))))) (.ff (.ff (zq3 n F room f1 f2 lay i N w)))
noncomputable def zqRS (n : Nat) (F : Nat → ByteArray) (room : Int) (f1 f2 : Nat → Int) (lay : Option Nat) (i : Int) : ZkO := .node (decide (i < (n : Int))) (.node (i == IntKind.i64.wrap ((n : Int) - 1)) (.need (inN i n) (.need (Nat.blt (0 + i.toNat) n) (.node (!((F (0 + i.toNat)).toList == sNil.toList)) (.leaf (.inl (.ret, zqS i 25 n i F room (zC 3 lay) (zT f1 f2 lay)))) (.leaf (.inl (.normal, zqH n F room f1 f2 lay (IntKind.i64.wrap (i + 1))))))))
  (.need (inN i n) (.need (Nat.blt (0 + i.toNat) n) (.need (decide ((0 : Int) ≤ 32) && decide ((32 : Int) < 256) && Nat.ble (F (0 + i.toNat)).size 1000000) (zqL n F room f1 f2 lay i (nS (F (0 + i.toNat)) c32) (fS (F (0 + i.toNat)) c32)))))) (.leaf (.inl (.exit 0, zqH n F room f1 f2 lay i)))
theorem zqR_into (n : Nat) (F : Nat → ByteArray) (room : Int) (f1 f2 : Nat → Int) (lay : Option Nat) (i : Nat) : zqR nS fS vI gI tE s n F room f1 f2 lay (i : Int) = into (zqR nS fS vI gI tE s n F room f1 f2 lay (i : Int)) (zqRS nS fS n F room f1 f2 lay (i : Int)) := by
  cases lay with
  | none => kernel_rfl
  | some q => kernel_rfl
theorem zqR_fits (n : Nat) (F : Nat → ByteArray) (room : Int) (f1 f2 : Nat → Int) (lay : Option Nat) (i : Nat) : fits (zqR nS fS vI gI tE s n F room f1 f2 lay (i : Int)) (zqRS nS fS n F room f1 f2 lay (i : Int)) = true := by
  cases lay with
  | none => kernel_rfl
  | some q => kernel_rfl
noncomputable def apI (p : Nat) : Bool := Nat.ble (p + 1) (p + 1) && Nat.blt ((p + 1 + 1) * ((Tryz.prog.info? 3).map (·.bytes)).getD 0) 140737488355328 && Nat.ble (p + 1 + 1) 9223372036854775807
def ziN (n : Nat) (F : Nat → ByteArray) (room : Int) (f1 f2 : Nat → Int) (lay : Option Nat) (i : Int) (nw : Nat) (w : Nat → ByteArray) (b : Bool) (l : Nat → Int) (x : Int) (kk : Int) : Nat → St
  | 0 => ziS n F room (zC 5 lay) (zT f1 f2 lay) i nw w b (.one (.sl true 4 0 1 0 1)) [⟨false, 3, .flat [ci x]⟩] kk
  | p + 1 => ziS n F room (zC 5 lay) (zT f1 f2 lay) i nw w b (.one (.sl true 4 0 1 0 (p + 1 + 1))) [⟨false, 3, .rows (p + 1 + 1) [.int .i64 (putF l (p + 1) x)]⟩] kk
noncomputable def ziP (S : SkX) : Nat → SkX
  | 0 => S
  | p + 1 => .need (apI p) S
noncomputable def ziPN (S : SkX) : Nat → SkX
  | 0 => S
  | p + 1 => .nn (.need (apI p) S)
noncomputable def ziTS (n : Nat) (F : Nat → ByteArray) (room : Int) (f1 f2 : Nat → Int) (lay : Option Nat) (i : Int) (nw : Nat) (w : Nat → ByteArray) (b : Bool) (l : Nat → Int) (m : Nat) (kk : Int) : SkX := .node (decide (kk < (nw : Int))) (.need (inN kk nw) (.need (Nat.blt (0 + kk.toNat) nw) (.need (szW (w (0 + kk.toNat))) (.node b
    (ziP (.leaf (.normal, ziN n F room f1 f2 lay i nw w (gI (w (0 + kk.toNat))) l (vI (w (0 + kk.toNat))) (IntKind.i64.wrap (kk + 1)) m)) m)
    (ziPN (.leaf (.normal, ziN n F room f1 f2 lay i nw w false l (vI (w (0 + kk.toNat))) (IntKind.i64.wrap (kk + 1)) m)) m)))))
  (.leaf (.exit 2, ziH n F room f1 f2 lay i nw w b l m kk))
theorem zi_into (n : Nat) (F : Nat → ByteArray) (room : Int) (f1 f2 : Nat → Int) (lay : Option Nat) (i : Nat) (nw : Nat) (w : Nat → ByteArray) (b : Bool) (l : Nat → Int) (m : Nat) : ziT nS fS vI gI tE s (ziH n F room f1 f2 lay (i : Int) nw w b l m ((m + 1 : Nat) : Int)) = into (ziT nS fS vI gI tE s (ziH n F room f1 f2 lay (i : Int) nw w b l m ((m + 1 : Nat) : Int))) (ziTS vI gI n F room f1 f2 lay (i : Int) nw w b l m ((m + 1 : Nat) : Int)) := by
  cases lay with
  | none =>
    cases m with
    | zero => kernel_rfl
    | succ p => kernel_rfl
  | some q =>
    cases m with
    | zero => kernel_rfl
    | succ p => kernel_rfl
theorem zi_fits (n : Nat) (F : Nat → ByteArray) (room : Int) (f1 f2 : Nat → Int) (lay : Option Nat) (i : Nat) (nw : Nat) (w : Nat → ByteArray) (b : Bool) (l : Nat → Int) (m : Nat) : fits (ziT nS fS vI gI tE s (ziH n F room f1 f2 lay (i : Int) nw w b l m ((m + 1 : Nat) : Int))) (ziTS vI gI n F room f1 f2 lay (i : Int) nw w b l m ((m + 1 : Nat) : Int)) = true := by
  cases lay with
  | none =>
    cases m with
    | zero => kernel_rfl
    | succ p => kernel_rfl
  | some q =>
    cases m with
    | zero => kernel_rfl
    | succ p => kernel_rfl
theorem zqR2_bad (n : Nat) (F : Nat → ByteArray) (room : Int) (f1 f2 : Nat → Int) (lay : Option Nat) (i : Nat) (nw : Nat) (w : Nat → ByteArray) (l : Nat → Int) (m : Nat) (kk : Int) : zqR2 nS fS vI gI tE s (.exit 2, ziH n F room f1 f2 lay (i : Int) nw w false l m kk) = into (zqR2 nS fS vI gI tE s (.exit 2, ziH n F room f1 f2 lay (i : Int) nw w false l m kk)) (.tt (.leaf (.inl (.ret, zqS (i : Int) 25 n (i : Int) F room (zC 3 lay) (zT f1 f2 lay))))) ∧ fits (zqR2 nS fS vI gI tE s (.exit 2, ziH n F room f1 f2 lay (i : Int) nw w false l m kk)) (.tt (.leaf (.inl (.ret, zqS (i : Int) 25 n (i : Int) F room (zC 3 lay) (zT f1 f2 lay))))) = true := by
  cases lay with
  | none =>
    cases m with
    | zero => exact ⟨by kernel_rfl, by kernel_rfl⟩
    | succ p => exact ⟨by kernel_rfl, by kernel_rfl⟩
  | some q =>
    cases m with
    | zero => exact ⟨by kernel_rfl, by kernel_rfl⟩
    | succ p => exact ⟨by kernel_rfl, by kernel_rfl⟩
noncomputable def apQ (q : Nat) : Bool := Nat.ble (q + 1) (q + 1) && Nat.blt ((q + 1 + 1) * ((Tryz.prog.info? 98).map (·.bytes)).getD 0) 140737488355328 && Nat.ble (q + 1 + 1) 9223372036854775807
def in1 (n : Nat) : Bool := decide ((0 : Int) ≤ 1) && decide ((1 : Int) < (n : Int))
def zqA (f1 f2 : Nat → Int) (x y : Int) : Option Nat → C × List Blk
  | none => (.sl true 3 0 2 0 1, [⟨false, 98, .flat [ci x, ci y]⟩])
  | some q => (.sl true 3 0 2 0 (q + 1 + 1), [⟨false, 98, .rows (q + 1 + 1) (tkC (putF f1 (q + 1) x) (putF f2 (q + 1) y))⟩])
noncomputable def zqP (S : ZkO) : Option Nat → ZkO
  | none => S
  | some q => .need (apQ q) S
noncomputable def zqPN (S : ZkO) : Option Nat → ZkO
  | none => S
  | some q => .nn (.need (apQ q) S)
noncomputable def zq2X (n : Nat) (F : Nat → ByteArray) (room : Int) (f1 f2 : Nat → Int) (lay : Option Nat) (i : Int) (l : Nat → Int) : ZkO := .leaf (.inl (.normal, zqS 0 0 n (IntKind.i64.wrap (i + 1)) F room (zqA f1 f2 (l (0 + Int.toNat 0)) (l (0 + Int.toNat 1)) lay).1 (zqA f1 f2 (l (0 + Int.toNat 0)) (l (0 + Int.toNat 1)) lay).2))
noncomputable def zq2B (n : Nat) (F : Nat → ByteArray) (room : Int) (f1 f2 : Nat → Int) (lay : Option Nat) (i : Int) (l : Nat → Int) (p : Nat) : ZkO := .both (.nn (.need (Nat.blt (0 + Int.toNat 1) (p + 1)) (zqP (zq2X n F room f1 f2 lay i l) lay))) (.need (Nat.blt (0 + Int.toNat 1) (p + 1)) (zqPN (zq2X n F room f1 f2 lay i l) lay))
noncomputable def zq2S (n : Nat) (F : Nat → ByteArray) (room : Int) (f1 f2 : Nat → Int) (lay : Option Nat) (i : Int) (l : Nat → Int) (p : Nat) : ZkO := .ff (.node (i == 0) (.need (in0 (p + 1)) (.leaf (.inl (.normal, zqS 0 0 n (IntKind.i64.wrap (i + 1)) F (l (0 + Int.toNat 0)) (zC 3 lay) (zT f1 f2 lay)))))
  (.need (in0 (p + 1)) (.need (in1 (p + 1)) (.both (zq2B n F room f1 f2 lay i l p) (zq2B n F room f1 f2 lay i l p)))))
theorem zq2_into (n : Nat) (F : Nat → ByteArray) (room : Int) (f1 f2 : Nat → Int) (lay : Option Nat) (i : Nat) (nw : Nat) (w : Nat → ByteArray) (l : Nat → Int) (p : Nat) (kk : Int) : zqR2 nS fS vI gI tE s (.exit 2, ziH n F room f1 f2 lay (i : Int) nw w true l (p + 1) kk) = into (zqR2 nS fS vI gI tE s (.exit 2, ziH n F room f1 f2 lay (i : Int) nw w true l (p + 1) kk)) (zq2S n F room f1 f2 lay (i : Int) l p) := by
  cases lay with
  | none => kernel_rfl
  | some q => kernel_rfl
theorem zq2_fits (n : Nat) (F : Nat → ByteArray) (room : Int) (f1 f2 : Nat → Int) (lay : Option Nat) (i : Nat) (nw : Nat) (w : Nat → ByteArray) (l : Nat → Int) (p : Nat) (kk : Int) : fits (zqR2 nS fS vI gI tE s (.exit 2, ziH n F room f1 f2 lay (i : Int) nw w true l (p + 1) kk)) (zq2S n F room f1 f2 lay (i : Int) l p) = true := by
  cases lay with
  | none => kernel_rfl
  | some q => kernel_rfl
end
end Go.Ev

namespace Go.Ev
open Go Go.RowKit Go.Proofs
set_option maxRecDepth 100000

def vQ (b : ByteArray) : Int := (Proofs.intQ b).1
def gQ (b : ByteArray) : Bool := (Proofs.intQ b).2
theorem int_same (b : ByteArray) : gQ b = gP b ∧ (gP b = true → vQ b = vP b) := by
  unfold gQ gP vQ vP Proofs.intQ Proofs.intP
  cases h1 : Nat.ble b.size 10 && Proofs.allDig b b.size with
  | false => exact ⟨rfl, fun h => by cases h⟩
  | true =>
    cases h2 : Proofs.canonB b with
    | false => exact ⟨rfl, fun h => by cases h⟩
    | true => exact ⟨rfl, fun _ => rfl⟩
theorem tbQa_ok : TabOk Tryz.prog (tabOf (tbQa wrdN wrdF vQ gQ tankE)) := tab_cons (tab_cons (tab_cons tbT1_ok intQ_spec) spq_ok) qcw_ok
/-- are the words from the second on numbers -/
def rQ (b : Bool) (w : Nat → ByteArray) : Nat → Bool
  | 0 => b
  | m + 1 => match rQ b w m with
    | true => gQ (w (m + 1))
    | false => false
def lwQ (w : Nat → ByteArray) (j : Nat) : Int := vQ (w (j + 1))
theorem int_rows {e : TypeId} {F : Nat → Int} {x : Int} (h : x = F 0) : ∀ (E : Env) (w : World) (p : Nat × Nat × Nat), blkIs E w p ⟨false, e, .flat [ci x]⟩ → blkIs E w p ⟨false, e, .rows 1 [.int .i64 F]⟩ := by
  subst h
  exact blk_body rfl (fun cs e => by cases e) fun E arr hh => rows_one rfl (fun j c col h1 h2 => by match j, h1, h2 with | 0, h1, h2 => injection h1 with h1; injection h2 with h2; subst h1; subst h2; rfl) hh
theorem apI_ok {m : Nat} (h : m ≤ 1000000000) : apI m = true := by
  have d0 : ((Tryz.prog.info? 3).map (·.bytes)).getD 0 = 8 := by kernel_rfl
  unfold apI
  rw [ble_self, d0]
  have h1 : Nat.blt ((m + 1 + 1) * 8) 140737488355328 = true := by rw [Nat.blt_eq]; omega
  have h2 : Nat.ble (m + 1 + 1) 9223372036854775807 = true := by rw [Nat.ble_eq]; omega
  rw [h1, h2]; rfl
theorem apQ_ok {m : Nat} (h : m ≤ 1000000000) : apQ m = true := by
  have d0 : ((Tryz.prog.info? 98).map (·.bytes)).getD 0 = 16 := by kernel_rfl
  unfold apQ
  rw [ble_self, d0]
  have h1 : Nat.blt ((m + 1 + 1) * 16) 140737488355328 = true := by rw [Nat.blt_eq]; omega
  have h2 : Nat.ble (m + 1 + 1) 9223372036854775807 = true := by rw [Nat.ble_eq]; omega
  rw [h1, h2]; rfl
section
variable (s : ByteArray) (n : Nat) (F : Nat → ByteArray) (room : Int) (f1 f2 : Nat → Int) (lay : Option Nat) (i : Nat) (nw : Nat) (w : Nat → ByteArray) (b : Bool)
theorem ziN_le (b' : Bool) (l : Nat → Int) {x : Int} : ∀ (m : Nat), m ≤ 1000000 → x = l m → (ziN n F room f1 f2 lay (i : Int) nw w b' l x (IntKind.i64.wrap (((m + 1 : Nat) : Int) + 1)) m).Le (ziH n F room f1 f2 lay (i : Int) nw w b' l (m + 1) ((m + 1 + 1 : Nat) : Int)) := by
  intro m hm hx
  cases m with
  | zero =>
    rw [wrap_succ (by omega)]
    cases lay with
    | none => exact le_news (show 0 + 5 ≤ lim by decide) ⟨⟨rfl, fun _ _ _ h => h⟩, ⟨rfl, fun _ _ _ h => h⟩, ⟨rfl, fun _ _ _ h => h⟩, ⟨rfl, fun _ _ _ h => h⟩, ⟨rfl, int_rows hx⟩, trivial⟩
    | some q => exact le_news (show 0 + 6 ≤ lim by decide) ⟨⟨rfl, fun _ _ _ h => h⟩, ⟨rfl, fun _ _ _ h => h⟩, ⟨rfl, fun _ _ _ h => h⟩, ⟨rfl, fun _ _ _ h => h⟩, ⟨rfl, int_rows hx⟩, ⟨rfl, fun _ _ _ h => h⟩, trivial⟩
  | succ p =>
    subst hx
    rw [wrap_succ (by omega)]
    show (ziS n F room (zC 5 lay) (zT f1 f2 lay) (i : Int) nw w b' (.one (.sl true 4 0 1 0 (p + 1 + 1))) [⟨false, 3, .rows (p + 1 + 1) [.int .i64 (putF l (p + 1) (l (p + 1)))]⟩] ((p + 1 + 1 + 1 : Nat) : Int)).Le _
    rw [putF_self]
    exact St.Le.refl _
theorem zi_loop (hw : ∀ j, (w j).size ≤ 4096) (hn : nw ≤ 1000000) (hn1 : 1 ≤ nw) : ComesF Tryz.prog (.loop ziLp) (zqB s) (ziH n F room f1 f2 lay (i : Int) nw w b (lwQ w) 0 ((0 + 1 : Nat) : Int)) fun q => q = (.exit 2, ziH n F room f1 f2 lay (i : Int) nw w (rQ b w (nw - 1)) (lwQ w) (nw - 1) ((nw - 1 + 1 : Nat) : Int)) := by
  refine loop_count (recT_ok tbQa_ok) rfl ziSl ziSl (fun m => ziH n F room f1 f2 lay (i : Int) nw w (rQ b w m) (lwQ w) m ((m + 1 : Nat) : Int)) (fun _ => (.exit 2, ziH n F room f1 f2 lay (i : Int) nw w (rQ b w (nw - 1)) (lwQ w) (nw - 1) ((nw - 1 + 1 : Nat) : Int))) (nw - 1) (fun m => ziT wrdN wrdF vQ gQ tankE s (ziH n F room f1 f2 lay (i : Int) nw w (rQ b w m) (lwQ w) m ((m + 1 : Nat) : Int))) (fun m => ziTS vQ gQ n F room f1 f2 lay (i : Int) nw w (rQ b w m) (lwQ w) m ((m + 1 : Nat) : Int)) (fun _ => rfl) (fun m => zi_into _ _ _ _ _ _ _ _ _ _ _ _ _ _ _ _ _ m) (fun m => zi_fits _ _ _ _ _ _ _ _ _ _ _ _ _ _ _ _ _ m) (fun m hm => ?_) (sk_no (by simp only [decide_eq_false_iff_not]; omega) (sk_leaf rfl))
  have hin : inN ((m + 1 : Nat) : Int) nw = true := by
    unfold inN
    simp only [Bool.and_eq_true, decide_eq_true_eq]
    omega
  have hap : ∀ {ψ : X × St → Prop} {S : SkX}, SkLeads ψ S → SkLeads ψ (ziP S m) := fun {ψ S} h => by
    cases m with
    | zero => exact h
    | succ p => exact sk_need (apI_ok (by omega)) h
  have hapN : ∀ {ψ : X × St → Prop} {S : SkX}, SkLeads ψ S → SkLeads ψ (ziPN S m) := fun {ψ S} h => by
    cases m with
    | zero => exact h
    | succ p => exact sk_nn (sk_need (apI_ok (by omega)) h)
  unfold ziTS
  rw [show (0 + Int.toNat ((m + 1 : Nat) : Int)) = m + 1 by rw [Int.toNat_natCast, Nat.zero_add]]
  refine sk_yes (by simp only [decide_eq_true_eq]; omega) (sk_need hin (sk_need (blt_ok (by omega)) (sk_need (szW_ok (b := w (m + 1)) (hw _) (Nat.le_refl _)) (sk_either (fun h => hap (sk_leaf (rnd_next ?_ rfl))) fun h => hapN (sk_leaf (rnd_next ?_ rfl))))))
  · have e : rQ b w (m + 1) = gQ (w (m + 1)) := by
      show (match rQ b w m with | true => gQ (w (m + 1)) | false => false) = _
      rw [h]
    rw [e]
    exact ziN_le n F room f1 f2 lay i nw w _ (lwQ w) m (by omega) rfl
  · have e : rQ b w (m + 1) = false := by
      show (match rQ b w m with | true => gQ (w (m + 1)) | false => false) = _
      rw [h]
    rw [e]
    exact ziN_le n F room f1 f2 lay i nw w _ (lwQ w) m (by omega) rfl
end
theorem rQ_false (w : Nat → ByteArray) : ∀ m, rQ false w m = false
  | 0 => rfl
  | m + 1 => by
    show (match rQ false w m with | true => gQ (w (m + 1)) | false => false) = false
    rw [rQ_false w m]
theorem rQ_one (b : Bool) (w : Nat → ByteArray) : rQ b w 1 = (b && gQ (w 1)) := by cases b <;> rfl
theorem rQ_two (b : Bool) (w : Nat → ByteArray) : rQ b w 2 = (b && (gQ (w 1) && gQ (w 2))) := by
  show (match rQ b w 1 with | true => gQ (w 2) | false => false) = _
  rw [rQ_one]
  cases b <;> cases gQ (w 1) <;> rfl
section
variable (n : Nat) (F : Nat → ByteArray) (room : Int) (f1 f2 : Nat → Int) (lay : Option Nat) (i : Nat) {bl : ByteArray} {ψ : (X × St) ⊕ (List Bool × St) → Prop}
variable (h : ∀ b, rQ b (wrdF bl 32) (wrdN bl 32 - 1) = okB i bl → ψ (.inr (ziPa, ziH n F room f1 f2 lay (i : Int) (wrdN bl 32) (wrdF bl 32) b (fun _ => 0) 0 1)))
include h
theorem zq3_ok (hx : i = 0 → okB 0 bl = false) : SkLeads ψ (zq3 n F room f1 f2 lay (i : Int) (wrdN bl 32) (wrdF bl 32)) := by
  have hp := wrdN_pos bl
  have hbad : okB i bl = false → SkLeads ψ (zqSt n F room f1 f2 lay (i : Int) (wrdN bl 32) (wrdF bl 32) false) := fun e => sk_leaf (h _ (by rw [rQ_false, e]))
  unfold zq3
  refine sk_either (fun h3 => sk_need (in0_ok hp) (sk_need (blt_ok (show 0 < _ by omega)) (sk_either (fun h4 => sk_leaf (h _ ?_)) fun h4 => hbad ?_))) fun h3 => sk_ff (hbad ?_)
  · have h3 : wrdN bl 32 = 3 := by rw [beq_iff_eq] at h3; omega
    have h4 : ((wd bl 0).toList == sLayer.toList) = true := h4
    rw [h3, rQ_two, (int_same _).1, (int_same _).1]
    cases i with
    | zero => rw [hx rfl]; rfl
    | succ j =>
      rw [okB_one, h3, h4]
      have : decide (((j + 1 : Nat) : Int) > 0) = true := by simp only [decide_eq_true_eq]; omega
      rw [this]; rfl
  · have h4 : ((wd bl 0).toList == sLayer.toList) = false := h4
    cases i with
    | zero => exact hx rfl
    | succ j => rw [okB_one, h4, Bool.false_and, Bool.and_false]
  · have h3 : wrdN bl 32 ≠ 3 := fun e => by rw [e] at h3; cases h3
    cases i with
    | zero => exact hx rfl
    | succ j => rw [okB_one, beq_no h3]; rfl
theorem zqL_ok : SkLeads ψ (zqL n F room f1 f2 lay (i : Int) (wrdN bl 32) (wrdF bl 32)) := by
  have hp := wrdN_pos bl
  unfold zqL
  refine sk_either (fun h2 => sk_need (in0_ok hp) (sk_need (blt_ok (show 0 < _ by omega)) (sk_either (fun h4 => sk_either (fun h0 => sk_leaf (h _ ?_)) fun h0 => zq3_ok n F room f1 f2 lay i h ?_) fun h4 => sk_ff (zq3_ok n F room f1 f2 lay i h ?_)))) fun h2 => sk_ff (sk_ff (zq3_ok n F room f1 f2 lay i h ?_))
  · have h2 : wrdN bl 32 = 2 := by rw [beq_iff_eq] at h2; omega
    have h4 : ((wd bl 0).toList == sTank.toList) = true := h4
    have h0 : i = 0 := by rw [beq_iff_eq] at h0; omega
    subst h0
    rw [h2, rQ_one, (int_same _).1, okB_zero, h2, h4]
    rfl
  · intro e
    subst e
    cases h0
  · intro _
    have h4 : ((wd bl 0).toList == sTank.toList) = false := h4
    rw [okB_zero, h4, Bool.false_and, Bool.and_false]
  · intro _
    have h2 : wrdN bl 32 ≠ 2 := fun e => by rw [e] at h2; cases h2
    rw [okB_zero, beq_no h2]; rfl
end
theorem ziH_zero (n : Nat) (F : Nat → ByteArray) (room : Int) (f1 f2 : Nat → Int) (lay : Option Nat) (i : Nat) (nw : Nat) (w : Nat → ByteArray) (b : Bool) : ziH n F room f1 f2 lay (i : Int) nw w b (fun _ => 0) 0 1 = ziH n F room f1 f2 lay (i : Int) nw w b (lwQ w) 0 ((0 + 1 : Nat) : Int) := by kernel_rfl
theorem zi_loop0 (s : ByteArray) (n : Nat) (F : Nat → ByteArray) (room : Int) (f1 f2 : Nat → Int) (lay : Option Nat) (i : Nat) (nw : Nat) (w : Nat → ByteArray) (b : Bool) (hw : ∀ j, (w j).size ≤ 4096) (hn : nw ≤ 1000000) (hn1 : 1 ≤ nw) :
    ComesF Tryz.prog (.loop (nthLoop zqLp ziPa)) (zqB s) (ziH n F room f1 f2 lay (i : Int) nw w b (fun _ => 0) 0 1) fun q => q = (.exit 2, ziH n F room f1 f2 lay (i : Int) nw w (rQ b w (nw - 1)) (lwQ w) (nw - 1) ((nw - 1 + 1 : Nat) : Int)) := by
  rw [ziH_zero]
  exact zi_loop s n F room f1 f2 lay i nw w b hw hn hn1
def rmK (s : ByteArray) : Nat → Int
  | 0 => 0
  | _ + 1 => rmP s
def layK : Nat → Option Nat
  | 0 => none
  | 1 => none
  | m + 2 => some m
def zqHd (s : ByteArray) (i : Nat) : St := zqH (wrdN s 10) (wrdF s 10) (rmK s (min i (cntA s 10))) (f1P s) (f2P s) (layK (min i (cntA s 10))) (i : Int)
def PqBad (s : ByteArray) (q : X × St) : Prop := ∃ k room g1 g2 lay, badAt s = some k ∧ q = (.ret, zqS (k : Int) 25 (wrdN s 10) (k : Int) (wrdF s 10) room (zC 3 lay) (zT g1 g2 lay))
def PqEnd (s : ByteArray) (q : X × St) : Prop := (q = (.exit 0, zqHd s (cntA s 10 + 1)) ∧ badAt s = none) ∨ PqBad s q
structure GoodQ (s : ByteArray) (i : Nat) : Prop where
  le : i ≤ cntA s 10 + 1
  ok : ∀ j, j < i → j < cntA s 10 → lnOk s j = true
  last : i = cntA s 10 + 1 → ¬ beg s 10 0 (cntA s 10) < s.size
def PqRnd (s : ByteArray) (i : Nat) (q : X × St) : Prop := match q.1 with | .normal => ∃ y, q.2.Le (zqHd s y) ∧ GoodQ s y ∧ cntA s 10 + 1 - y < cntA s 10 + 1 - i | _ => PqEnd s q
section
variable {s : ByteArray}
theorem pq_bad {i k : Nat} {room : Int} {g1 g2 : Nat → Int} {lay : Option Nat} (h : badAt s = some k) : PqRnd s i (.ret, zqS (k : Int) 25 (wrdN s 10) (k : Int) (wrdF s 10) room (zC 3 lay) (zT g1 g2 lay)) := .inr ⟨k, room, g1, g2, lay, h, rfl⟩
theorem good_goodK {i : Nat} (h : GoodQ s i) (hi : i ≤ cntA s 10) : goodK s i := fun j hj => h.ok j hj (by omega)
theorem layer_le {e : TypeId} {z1 z2 : Nat → Int} {x y : Int} (hx : x = z1 0) (hy : y = z2 0) : ∀ (E : Env) (w : World) (p : Nat × Nat × Nat), blkIs E w p ⟨false, e, .flat [ci x, ci y]⟩ → blkIs E w p ⟨false, e, .rows 1 (tkC z1 z2)⟩ := two_rows hx hy
/-- a further layer -/
theorem zqA_le (n : Nat) (F : Nat → ByteArray) (room : Int) (g1 g2 : Nat → Int) (i : Int) {x y : Int} : ∀ (k : Nat), x = g1 k → y = g2 k → (zqS 0 0 n i F room (zqA g1 g2 x y (layK (k + 1))).1 (zqA g1 g2 x y (layK (k + 1))).2).Le (zqH n F room g1 g2 (layK (k + 2)) i) := by
  intro k hx hy
  cases k with
  | zero => exact le_news (show 0 + 4 ≤ lim by decide) ⟨⟨rfl, fun _ _ _ h => h⟩, ⟨rfl, fun _ _ _ h => h⟩, ⟨rfl, fun _ _ _ h => h⟩, ⟨rfl, two_rows hx hy⟩, trivial⟩
  | succ m =>
    subst hx; subst hy
    show (zqS 0 0 n i F room (.sl true 3 0 2 0 (m + 1 + 1)) [⟨false, 98, .rows (m + 1 + 1) (tkC (putF g1 (m + 1) (g1 (m + 1))) (putF g2 (m + 1) (g2 (m + 1))))⟩]).Le _
    rw [putF_self, putF_self]
    exact St.Le.refl _
theorem pq_after (hs : s.size ≤ 4096) {i : Nat} (hg : GoodQ s i) (hi : i < cntA s 10) (b : Bool) (hb : rQ b (wrdF (Proofs.part s 10 i) 32) (wrdN (Proofs.part s 10 i) 32 - 1) = okB i (Proofs.part s 10 i)) :
    CutF Tryz.prog (pqRe wrdN wrdF vQ gQ tankE) zqLp (zqB s) (PqRnd s i) 1 (.inr (ziPa, ziH (wrdN s 10) (wrdF s 10) (rmK s i) (f1P s) (f2P s) (layK i) (i : Int) (wrdN (Proofs.part s 10 i) 32) (wrdF (Proofs.part s 10 i) 32) b (fun _ => 0) 0 1)) := by
  have hps : (Proofs.part s 10 i).size ≤ s.size := by unfold Proofs.part; rw [ByteArray.size_extract]; omega
  have hws : ∀ j, (wrdF (Proofs.part s 10 i) 32 j).size ≤ 4096 := fun j => by have := wd_size (Proofs.part s 10 i) j; omega
  have hNn : wrdN (Proofs.part s 10 i) 32 ≤ 1000000 := by
    have h1 : cntA (Proofs.part s 10 i) 32 ≤ (Proofs.part s 10 i).size := by rw [← mAt_end]; exact mAt_le _ 32 _
    rw [wrdN_is]; omega
  have hks : i ≤ 1000000 := by
    have h1 : cntA s 10 ≤ s.size := by rw [← mAt_end]; exact mAt_le s 10 _
    omega
  have hln : lnOk s i = okB i (Proofs.part s 10 i) := by unfold lnOk; rw [blt_ok hi, Bool.true_and]
  refine ⟨_, false, [], zqSl, zi_loop0 s _ _ _ _ _ _ i _ _ b hws hNn (wrdN_pos _), fun q hq => Leads.all ?_⟩
  subst hq
  rw [hb]
  cases hok : okB i (Proofs.part s 10 i) with
  | false =>
    have hkl : i < linN s := by unfold linN; split <;> omega
    obtain ⟨h1, h2⟩ := zqR2_bad wrdN wrdF vQ gQ tankE s (wrdN s 10) (wrdF s 10) (rmK s i) (f1P s) (f2P s) (layK i) i (wrdN (Proofs.part s 10 i) 32) (wrdF (Proofs.part s 10 i) 32) (lwQ (wrdF (Proofs.part s 10 i) 32)) (wrdN (Proofs.part s 10 i) 32 - 1) ((wrdN (Proofs.part s 10 i) 32 - 1 + 1 : Nat) : Int)
    exact leads_in (by delta zqR2; rfl) h1 h2 (sk_tt (sk_leaf (cutF_dn (pq_bad (bad_at (good_goodK hg (by omega)) hkl (by rw [hln]; exact hok))))))
  | true =>
    have hgy : GoodQ s (i + 1) := ⟨by omega, fun j hj hjc => by
      by_cases e : j = i
      · subst e; rw [hln]; exact hok
      · exact hg.ok j (by omega) hjc, fun e => by omega⟩
    have hkm : min (i + 1) (cntA s 10) = i + 1 := by omega
    obtain ⟨p, hp⟩ : ∃ p, wrdN (Proofs.part s 10 i) 32 - 1 = p + 1 := by
      cases i with
      | zero =>
        rw [okB_zero, Bool.and_eq_true] at hok
        have := Nat.eq_of_beq_eq_true hok.1
        exact ⟨0, by omega⟩
      | succ j =>
        rw [okB_one, Bool.and_eq_true] at hok
        have := Nat.eq_of_beq_eq_true hok.1
        exact ⟨1, by omega⟩
    rw [hp]
    refine leads_in (by delta zqR2; rfl) (zq2_into wrdN wrdF vQ gQ tankE s (wrdN s 10) (wrdF s 10) (rmK s i) (f1P s) (f2P s) (layK i) i (wrdN (Proofs.part s 10 i) 32) (wrdF (Proofs.part s 10 i) 32) (lwQ (wrdF (Proofs.part s 10 i) 32)) p ((p + 1 + 1 : Nat) : Int)) (zq2_fits wrdN wrdF vQ gQ tankE s (wrdN s 10) (wrdF s 10) (rmK s i) (f1P s) (f2P s) (layK i) i (wrdN (Proofs.part s 10 i) 32) (wrdF (Proofs.part s 10 i) 32) (lwQ (wrdF (Proofs.part s 10 i) 32)) p ((p + 1 + 1 : Nat) : Int)) ?_
    cases i with
    | zero =>
      rw [okB_zero, Bool.and_eq_true, Bool.and_eq_true] at hok
      obtain ⟨_, _, h3⟩ := hok
      have e1 : lwQ (wrdF (Proofs.part s 10 0) 32) (0 + Int.toNat 0) = rmP s := (int_same _).2 h3
      refine sk_ff (sk_yes rfl (sk_need (in0_ok (by omega)) (sk_leaf (cutF_dn ⟨1, ?_, hgy, by omega⟩))))
      rw [e1]
      unfold zqHd
      rw [show min 1 (cntA s 10) = 1 by omega, wrap_succ (by omega)]
      exact St.Le.refl _
    | succ j =>
      rw [okB_one, Bool.and_eq_true, Bool.and_eq_true, Bool.and_eq_true] at hok
      obtain ⟨h0, _, h3, h4⟩ := hok
      have h0 := Nat.eq_of_beq_eq_true h0
      have e1 : lwQ (wrdF (Proofs.part s 10 (j + 1)) 32) (0 + Int.toNat 0) = f1P s j := (int_same _).2 h3
      have e2 : lwQ (wrdF (Proofs.part s 10 (j + 1)) 32) (0 + Int.toNat 1) = f2P s j := (int_same _).2 h4
      have hq : j ≤ 1000000 := by omega
      have hX : SkLeads (CutF Tryz.prog (pqRe wrdN wrdF vQ gQ tankE) zqLp (zqB s) (PqRnd s (j + 1)) 0) (zq2X (wrdN s 10) (wrdF s 10) (rmK s (j + 1)) (f1P s) (f2P s) (layK (j + 1)) ((j + 1 : Nat) : Int) (lwQ (wrdF (Proofs.part s 10 (j + 1)) 32))) := by
        refine sk_leaf (cutF_dn ⟨j + 2, ?_, hgy, by omega⟩)
        rw [e1, e2, wrap_succ (by omega)]
        unfold zqHd
        rw [show min (j + 2) (cntA s 10) = j + 2 by omega]
        exact zqA_le (wrdN s 10) (wrdF s 10) (rmK s (j + 1)) (f1P s) (f2P s) ((j + 1 + 1 : Nat) : Int) j rfl rfl
      have hXP : SkLeads (CutF Tryz.prog (pqRe wrdN wrdF vQ gQ tankE) zqLp (zqB s) (PqRnd s (j + 1)) 0) (zqP (zq2X (wrdN s 10) (wrdF s 10) (rmK s (j + 1)) (f1P s) (f2P s) (layK (j + 1)) ((j + 1 : Nat) : Int) (lwQ (wrdF (Proofs.part s 10 (j + 1)) 32))) (layK (j + 1))) := by
        cases j with
        | zero => exact hX
        | succ m => exact sk_need (apQ_ok (by omega)) hX
      have hXN : SkLeads (CutF Tryz.prog (pqRe wrdN wrdF vQ gQ tankE) zqLp (zqB s) (PqRnd s (j + 1)) 0) (zqPN (zq2X (wrdN s 10) (wrdF s 10) (rmK s (j + 1)) (f1P s) (f2P s) (layK (j + 1)) ((j + 1 : Nat) : Int) (lwQ (wrdF (Proofs.part s 10 (j + 1)) 32))) (layK (j + 1))) := by
        cases j with
        | zero => exact hX
        | succ m => exact sk_nn (sk_need (apQ_ok (by omega)) hX)
      have hB : SkLeads (CutF Tryz.prog (pqRe wrdN wrdF vQ gQ tankE) zqLp (zqB s) (PqRnd s (j + 1)) 0) (zq2B (wrdN s 10) (wrdF s 10) (rmK s (j + 1)) (f1P s) (f2P s) (layK (j + 1)) ((j + 1 : Nat) : Int) (lwQ (wrdF (Proofs.part s 10 (j + 1)) 32)) p) :=
        sk_both (sk_nn (sk_need (blt_ok (show 1 < _ by omega)) hXP)) (sk_need (blt_ok (show 1 < _ by omega)) hXN)
      have hin1 : in1 (p + 1) = true := by
        unfold in1
        simp only [Bool.and_eq_true, decide_eq_true_eq]
        omega
      exact sk_ff (sk_no (by simp only [beq_eq_false_iff_ne]; omega) (sk_need (in0_ok (by omega)) (sk_need hin1 (sk_both hB hB))))
end
end Go.Ev

namespace Go.Ev
open Go Go.RowKit Go.Proofs
set_option maxRecDepth 100000

section
variable {s : ByteArray}
theorem part_empty : ((Proofs.part s 10 (cntA s 10)).toList == sNil.toList) = true ↔ ¬ beg s 10 0 (cntA s 10) < s.size := by
  obtain ⟨h1, h2⟩ := part_last s 10
  have hsz : (Proofs.part s 10 (cntA s 10)).size = s.size - beg s 10 0 (cntA s 10) := by
    unfold Proofs.part
    rw [h1, ByteArray.size_extract]
    omega
  constructor
  · intro h hlt
    rw [beq_iff_eq, ByteArray.toList_eq, ByteArray.toList_eq] at h
    have : (Proofs.part s 10 (cntA s 10)).data.toList.length = 0 := by rw [h]; rfl
    have e : (Proofs.part s 10 (cntA s 10)).data.toList.length = (Proofs.part s 10 (cntA s 10)).size := Array.length_toList
    omega
  · intro h
    have : (Proofs.part s 10 (cntA s 10)).size = 0 := by omega
    rw [beq_iff_eq, ByteArray.toList_eq, ByteArray.toList_eq]
    have e : (Proofs.part s 10 (cntA s 10)).data.toList.length = (Proofs.part s 10 (cntA s 10)).size := Array.length_toList
    rw [this] at e
    exact List.length_eq_zero_iff.1 e
theorem pq_round (hs : s.size ≤ 4096) {i : Nat} (hg : GoodQ s i) : ComesF Tryz.prog zqLp (zqB s) (zqHd s i) (PqRnd s i) := by
  have hcs : cntA s 10 ≤ s.size := by rw [← mAt_end]; exact mAt_le s 10 _
  have hle := hg.le
  refine comesF_cut (recT_ok tbQa_ok) rfl 1 ziSl zqSl (Leads.all ?_)
  unfold zqHd
  refine leads_in (show _ = zqR wrdN wrdF vQ gQ tankE s (wrdN s 10) (wrdF s 10) (rmK s (min i (cntA s 10))) (f1P s) (f2P s) (layK (min i (cntA s 10))) (i : Int) by delta zqR; rfl) (zqR_into wrdN wrdF vQ gQ tankE s (wrdN s 10) (wrdF s 10) (rmK s (min i (cntA s 10))) (f1P s) (f2P s) (layK (min i (cntA s 10))) i) (zqR_fits wrdN wrdF vQ gQ tankE s (wrdN s 10) (wrdF s 10) (rmK s (min i (cntA s 10))) (f1P s) (f2P s) (layK (min i (cntA s 10))) i) ?_
  unfold zqRS
  have hn : wrdN s 10 = cntA s 10 + 1 := wrdN_is s 10
  have hix : (0 + Int.toNat (i : Int)) = i := by rw [Int.toNat_natCast, Nat.zero_add]
  rw [hix]
  refine sk_either (fun h1 => ?_) fun h1 => sk_leaf (cutF_dn ?_)
  · have h1 : i < cntA s 10 + 1 := by simp only [decide_eq_true_eq] at h1; omega
    have hin : inN (i : Int) (wrdN s 10) = true := by
      unfold inN
      simp only [Bool.and_eq_true, decide_eq_true_eq]
      omega
    have hw : IntKind.i64.wrap ((wrdN s 10 : Int) - 1) = (cntA s 10 : Int) := by
      rw [IntKind.wrap_i64]
      omega
    rw [hw]
    have hF : wrdF s 10 i = Proofs.part s 10 i := wrdF_is s 10 (by omega)
    rw [hF]
    refine sk_either (fun h2 => ?_) fun h2 => ?_
    · have h2 : i = cntA s 10 := by rw [beq_iff_eq] at h2; omega
      refine sk_need hin (sk_need (blt_ok (by omega)) (sk_either (fun h3 => sk_leaf (cutF_dn ?_)) fun h3 => sk_leaf (cutF_dn ?_)))
      · have h4 : beg s 10 0 (cntA s 10) < s.size := by
          rcases Classical.em (beg s 10 0 (cntA s 10) < s.size) with h | h
          · exact h
          · have := part_empty.2 h
            rw [h2, this] at h3
            cases h3
        have hl : linN s = cntA s 10 + 1 := by unfold linN; rw [if_pos h4]
        refine pq_bad (bad_at (good_goodK hg (by omega)) (by omega) ?_)
        rw [h2]
        exact lnOk_last h4
      · have h4 : ¬ beg s 10 0 (cntA s 10) < s.size := part_empty.1 (by rw [← h2]; simpa using h3)
        refine ⟨i + 1, ?_, ⟨by omega, fun j hj hjc => hg.ok j (by omega) hjc, fun _ => h4⟩, by omega⟩
        unfold zqHd
        rw [show min (i + 1) (cntA s 10) = min i (cntA s 10) by omega, wrap_succ (by omega)]
        exact St.Le.refl _
    · have h2 : i < cntA s 10 := by
        rcases Nat.lt_or_ge i (cntA s 10) with h | h
        · exact h
        · have e : i = cntA s 10 := by omega
          rw [e] at h2
          simp at h2
      have hps : (Proofs.part s 10 i).size ≤ s.size := by unfold Proofs.part; rw [ByteArray.size_extract]; omega
      rw [show min i (cntA s 10) = i by omega]
      refine sk_need hin (sk_need (blt_ok (by omega)) (sk_need ?_ ?_))
      · simp only [Bool.and_eq_true, decide_eq_true_eq, Nat.ble_eq]
        omega
      · exact zqL_ok (wrdN s 10) (wrdF s 10) (rmK s i) (f1P s) (f2P s) (layK i) i fun b hb => pq_after hs hg h2 b hb
  · have h1 : i = cntA s 10 + 1 := by simp only [decide_eq_false_iff_not] at h1; omega
    have h4 := hg.last h1
    have hl : linN s = cntA s 10 := by unfold linN; rw [if_neg h4]
    refine .inl ⟨by unfold zqHd; rw [h1], bad_no ?_⟩
    rw [hl]
    exact fun j hj => hg.ok j (by omega) hj
theorem zq_loop (hs : s.size ≤ 4096) : ComesF Tryz.prog (.loop zqLp) (zqB s) (zqHd s 0) (PqEnd s) := by
  refine comesF_loop (zqHd s) (fun i => cntA s 10 + 1 - i) (GoodQ s) (PqEnd s) (fun i hg => (pq_round hs hg).mono fun q hq => ?_) 0 ⟨Nat.zero_le _, fun j hj => by omega, fun e => by omega⟩
  unfold PqRnd at hq
  obtain ⟨x, st⟩ := q
  cases x with
  | normal => exact hq
  | exit i => exact hq
  | ret => exact hq
end
def znN (room : Int) (c : C) (a e : Int) (tb : List Blk) : St := zqN [(2, .one (.ptr 0 0 1 0)), (3, int a), (4, int e)] (tbox 76 room c :: tb)
/-- a right text's tank -/
def qaNw (room : Int) (f1 f2 : Nat → Int) : Nat → List Blk
  | 0 => []
  | m + 1 => [tbox 76 room (.sl true 1 0 2 0 (m + 1)), ⟨false, 98, .rows (m + 1) (tkC f1 f2)⟩]
def qaV (room : Int) : Nat → A
  | 0 => .tup [(true, [ci room, nilC]), (false, [ci 0]), (false, [ci 0])]
  | m + 1 => .tup [(true, [ci room, .sl true 1 0 2 0 (m + 1)]), (false, [ci 0]), (false, [ci 0])]
section
variable (nS : ByteArray → UInt8 → Nat) (fS : ByteArray → UInt8 → Nat → ByteArray) (vI : ByteArray → Int) (gI : ByteArray → Bool) (tE : Nat → Int → (Nat → Int) → (Nat → Int) → Int) (s : ByteArray)
def c10 : UInt8 := UInt8.ofNat (Int.toNat 10)
noncomputable def znO : ZkO := .node (decide ((s.size : Int) > 4096)) (.leaf (.inl (.ret, znN 0 nilC 0 26 []))) (.node (s.toList == sNil.toList) (.leaf (.inl (.ret, znN 0 nilC 0 25 []))) (.need (decide ((0 : Int) ≤ 10) && decide ((10 : Int) < 256) && Nat.ble s.size 1000000) (.leaf (.inr (zqPa, zqH (nS s c10) (fS s c10) 0 (fun _ => 0) (fun _ => 0) none 0)))))
theorem znO_into : zqO nS fS vI gI tE s = into (zqO nS fS vI gI tE s) (znO nS fS s) := by kernel_rfl
theorem znO_fits : fits (zqO nS fS vI gI tE s) (znO nS fS s) = true := by kernel_rfl
theorem zqX_bad (a e : Int) (n : Nat) (i : Int) (F : Nat → ByteArray) (room : Int) (g1 g2 : Nat → Int) (lay : Option Nat) : zqX nS fS vI gI tE s (.ret, zqS a e n i F room (zC 3 lay) (zT g1 g2 lay)) = .leaf (.inl (.ret, znN 0 nilC a e [])) := by
  cases lay with
  | none => kernel_rfl
  | some q => kernel_rfl
def znS1 (n : Nat) (room : Int) (e : Int) : ZkO := .node (e != 0) (.leaf (.inl (.ret, znN 0 nilC (IntKind.i64.wrap ((n : Int) - 1)) e []))) (.leaf (.inl (.ret, znN room nilC 0 0 [])))
theorem zn1_into (n : Nat) (F : Nat → ByteArray) (room : Int) (g1 g2 : Nat → Int) (i : Int) : zqX nS fS vI gI tE s (.exit 0, zqH n F room g1 g2 none i) = into (zqX nS fS vI gI tE s (.exit 0, zqH n F room g1 g2 none i)) (znS1 n room (tE 0 room (fun _ => 0) (fun _ => 0))) := by kernel_rfl
theorem zn1_fits (n : Nat) (F : Nat → ByteArray) (room : Int) (g1 g2 : Nat → Int) (i : Int) : fits (zqX nS fS vI gI tE s (.exit 0, zqH n F room g1 g2 none i)) (znS1 n room (tE 0 room (fun _ => 0) (fun _ => 0))) = true := by kernel_rfl
def znS2 (n : Nat) (room : Int) (g1 g2 : Nat → Int) (q : Nat) (e : Int) : ZkO := .need (okN (q + 1)) (.node (e != 0) (.leaf (.inl (.ret, znN 0 nilC (IntKind.i64.wrap ((n : Int) - 1)) e []))) (.leaf (.inl (.ret, znN room (.sl true 1 0 2 0 (q + 1)) 0 0 [⟨false, 98, .rows (q + 1) (tkC g1 g2)⟩]))))
theorem zn2_into (n : Nat) (F : Nat → ByteArray) (room : Int) (g1 g2 : Nat → Int) (q : Nat) (i : Int) : zqX nS fS vI gI tE s (.exit 0, zqH n F room g1 g2 (some q) i) = into (zqX nS fS vI gI tE s (.exit 0, zqH n F room g1 g2 (some q) i)) (znS2 n room g1 g2 q (tE (q + 1) room g1 g2)) := by kernel_rfl
theorem zn2_fits (n : Nat) (F : Nat → ByteArray) (room : Int) (g1 g2 : Nat → Int) (q : Nat) (i : Int) : fits (zqX nS fS vI gI tE s (.exit 0, zqH n F room g1 g2 (some q) i)) (znS2 n room g1 g2 q (tE (q + 1) room g1 g2)) = true := by kernel_rfl
end
theorem zn_left (a e : Int) : Left2 Tryz.prog Tryz.f71 (hpT [] [] []) (errV a e) (hpT [] [] []) (.ret, znN 0 nilC a e []) := left_of (b := true) (by kernel_rfl)
theorem zn_left0 (room : Int) : Left2 Tryz.prog Tryz.f71 (hpT [] [] []) (qaV room 0) (hpT [] [] []) (.ret, znN room nilC 0 0 []) := left_of (b := true) (by kernel_rfl)
theorem zn_left1 (room : Int) (f1 f2 : Nat → Int) (m : Nat) : Left2 Tryz.prog Tryz.f71 (hpT [] [] []) (qaV room (m + 1)) (hpT [] [] (qaNw room f1 f2 (m + 1))) (.ret, znN room (.sl true 1 0 2 0 (m + 1)) 0 0 [⟨false, 98, .rows (m + 1) (tkC f1 f2)⟩]) := left_of (b := false) (by kernel_rfl)
theorem zq_start0 (N : Nat) (F : Nat → ByteArray) (s : ByteArray) (g1 g2 : Nat → Int) : zqH N F 0 (fun _ => 0) (fun _ => 0) none 0 = zqH N F (rmK s 0) g1 g2 (layK 0) ((0 : Nat) : Int) := by kernel_rfl
theorem psAt_tank {s : ByteArray} (h : (e0S s != 0) = false) (hn : badAt s = none) (ht : (tankE (nlP s) (rmP s) (f1P s) (f2P s) != 0) = true) : psAt s = (cntA s 10 : Int) := by
  unfold psAt
  rw [h, hn, ht]
theorem zq_start (s : ByteArray) : zqH (wrdN s c10) (wrdF s c10) 0 (fun _ => 0) (fun _ => 0) none 0 = zqHd s 0 := by
  have hc : c10 = 10 := rfl
  unfold zqHd
  rw [Nat.zero_min, hc]
  exact zq_start0 _ _ s _ _
theorem zq_loop0 (s : ByteArray) (hs : s.size ≤ 4096) : ComesF Tryz.prog (.loop (nthLoop (bodyOf Tryz.f71) zqPa)) (zqB s) (zqH (wrdN s c10) (wrdF s c10) 0 (fun _ => 0) (fun _ => 0) none 0) (PqEnd s) := by
  rw [zq_start]
  exact zq_loop hs
theorem pq_call2 (s : ByteArray) (V : A) (H : Hp) (he : psE s ≠ 0 → V = errV (psAt s) (psE s) ∧ H = hpT [] [] []) (h0 : psE s = 0 → V = qaV (rmP s) (nlP s) ∧ H = hpT [] [] (qaNw (rmP s) (f1P s) (f2P s) (nlP s))) :
    CallAt Tryz.prog 71 [.one (.lit (.string s))] (hpT [] [] []) V H := by
  refine call_base (recT_ok tbQa_ok) (c := bodyOf Tryz.f71) (fn := Tryz.f71) Tryz.func71 (by kernel_rfl) (by kernel_rfl) (false, false) 1 zqSl [2, 3, 4] (sB := zqB s) (by kernel_rfl) (t := zqO wrdN wrdF vQ gQ tankE s) (by delta zqO; rfl) (all_into (znO_into _ _ _ _ _ s) (znO_fits _ _ _ _ _ s) (SkLeads.all ?_))
  have hEmp : ∀ {x : Bool}, decide ((s.size : Int) > 4096) = false → (s.toList == sNil.toList) = x → e0S s = errIf x 25 := fun {x} h1 h2 => by
    unfold e0S
    rw [h1, h2]
    cases x <;> rfl
  refine sk_either (fun h => sk_leaf (cutF_dn ?_)) fun h => sk_either (fun h2 => sk_leaf (cutF_dn ?_)) fun h2 => ?_
  · have e : e0S s = 26 := by unfold e0S; rw [h]; rfl
    have e1 : psE s = 26 := by unfold psE; rw [e]; rfl
    have e2 : psAt s = 0 := by unfold psAt; rw [e]; rfl
    obtain ⟨rfl, rfl⟩ := he (by rw [e1]; decide)
    rw [e1, e2]
    exact zn_left 0 26
  · have e : e0S s = 25 := hEmp h h2
    have e1 : psE s = 25 := by unfold psE; rw [e]; rfl
    have e2 : psAt s = 0 := by unfold psAt; rw [e]; rfl
    obtain ⟨rfl, rfl⟩ := he (by rw [e1]; decide)
    rw [e1, e2]
    exact zn_left 0 25
  · have e : e0S s = 0 := hEmp h h2
    have h : (e0S s != 0) = false := by rw [e]; rfl
    obtain ⟨hs, hp⟩ := e0_facts h
    refine sk_need ?_ (sk_leaf ⟨PqEnd s, true, [], [2, 3, 4], zq_loop0 s hs, fun q hq => Leads.all ?_⟩)
    · simp only [Bool.and_eq_true, decide_eq_true_eq, Nat.ble_eq]
      omega
    rcases hq with ⟨rfl, hn⟩ | ⟨k, room, g1, g2, lay, hb, rfl⟩
    · obtain ⟨hl, hc⟩ := wN_pos hn hp
      have hcs : cntA s 10 ≤ s.size := by rw [← mAt_end]; exact mAt_le s 10 _
      have e1 : psE s = tankE (nlP s) (rmP s) (f1P s) (f2P s) := by unfold psE; rw [h, hn]
      have e2 := psAt_tank h hn
      have hnl : nlP s + 1 = cntA s 10 := by unfold nlP; omega
      have hw : IntKind.i64.wrap ((wrdN s 10 : Int) - 1) = (cntA s 10 : Int) := by
        rw [IntKind.wrap_i64, wrdN_is]
        omega
      unfold zqHd
      rw [show min (cntA s 10 + 1) (cntA s 10) = cntA s 10 by omega]
      have hr : rmK s (cntA s 10) = rmP s := by rw [← hnl]; rfl
      have hlay : layK (cntA s 10) = layK (nlP s + 1) := by rw [hnl]
      rw [hr, hlay]
      rw [← hw] at e2
      revert he h0 e1 e2
      generalize nlP s = n
      generalize rmP s = room
      generalize f1P s = g1
      generalize f2P s = g2
      generalize wrdF s 10 = F
      generalize wrdN s 10 = N
      intro he h0 e1 e2
      cases n with
      | zero =>
        refine leads_in (show _ = zqX wrdN wrdF vQ gQ tankE s (.exit 0, zqH N F room g1 g2 none ((cntA s 10 + 1 : Nat) : Int)) by delta zqX; rfl) (zn1_into _ _ _ _ _ s N F room g1 g2 _) (zn1_fits _ _ _ _ _ s N F room g1 g2 _) (sk_either (fun h2 => sk_leaf (cutF_dn ?_)) fun h2 => sk_leaf (cutF_dn ?_))
        · have h3 : (tankE 0 room g1 g2 != 0) = true := h2
          have e2 := e2 h3
          obtain ⟨rfl, rfl⟩ := he (by rw [e1]; simpa using h3)
          rw [e1, e2]
          exact zn_left _ _
        · have h3 : (tankE 0 room g1 g2 != 0) = false := h2
          obtain ⟨rfl, rfl⟩ := h0 (by rw [e1]; simpa using h3)
          exact zn_left0 room
      | succ m =>
        refine leads_in (show _ = zqX wrdN wrdF vQ gQ tankE s (.exit 0, zqH N F room g1 g2 (some m) ((cntA s 10 + 1 : Nat) : Int)) by delta zqX; rfl) (zn2_into _ _ _ _ _ s N F room g1 g2 m _) (zn2_fits _ _ _ _ _ s N F room g1 g2 m _) (sk_need (okN_ok _) (sk_either (fun h2 => sk_leaf (cutF_dn ?_)) fun h2 => sk_leaf (cutF_dn ?_)))
        · have h3 : (tankE (m + 1) room g1 g2 != 0) = true := h2
          have e2 := e2 h3
          obtain ⟨rfl, rfl⟩ := he (by rw [e1]; simpa using h3)
          rw [e1, e2]
          exact zn_left _ _
        · have h3 : (tankE (m + 1) room g1 g2 != 0) = false := h2
          obtain ⟨rfl, rfl⟩ := h0 (by rw [e1]; simpa using h3)
          exact zn_left1 room g1 g2 m
    · have e1 : psE s = 25 := by unfold psE; rw [h, hb]
      have e2 : psAt s = (k : Int) := by unfold psAt; rw [h, hb]
      obtain ⟨rfl, rfl⟩ := he (by rw [e1]; decide)
      rw [e1, e2]
      exact leads_in (show _ = zqX wrdN wrdF vQ gQ tankE s (.ret, zqS (k : Int) 25 (wrdN s 10) (k : Int) (wrdF s 10) room (zC 3 lay) (zT g1 g2 lay)) by delta zqX; rfl) (S := .leaf (.inl (.ret, znN 0 nilC (k : Int) 25 []))) (by rw [zqX_bad]; rfl) (by rw [zqX_bad]; rfl) (sk_leaf (cutF_dn (zn_left _ _)))
end Go.Ev
