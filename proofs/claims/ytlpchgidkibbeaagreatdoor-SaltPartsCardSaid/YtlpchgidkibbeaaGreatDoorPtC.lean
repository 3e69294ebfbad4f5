/- SaltParts: what stands between the law's loops, told by sketches. Conditions: none. -/
import Derived.Test.YtlpchgidkibbeaaGreatDoorPtB
namespace Go.Ev
open Go Go.Proofs
set_option maxRecDepth 100000

def ix (R : Nat) (x : Int) (S : Sk (X × St)) : Sk (X × St) := .need (decide (0 ≤ x) && decide (x < (R : Int))) (.need (Nat.blt (0 + x.toNat) R) S)
def ffO : Nat → SkO → SkO
  | 0, S => S
  | r + 1, S => .ff (ffO r S)
section
variable (n q : Nat) (u : Int) (z w1 w2 : Nat → Int)
def ptF (b : Bool) : St := ptN n q z w1 w2 [(6, boo b)] []
def lfF (b : Bool) : SkO := .leaf (.inl (.ret, ptF n q z w1 w2 b))
noncomputable def ptOS : SkO := .node (decide ((n : Int) > 24)) (.tt (lfF n q z w1 w2 true)) (.need (xQk w1 w2 q 0) (.ff (.leaf (.inr (ptP 0, ptH0 n q u z w1 w2 0 (hS z 0) (mS z 0) ((0 : Nat) : Int))))))
noncomputable def ptOB (v : Nat) : SkO := .node (decide ((n : Int) > 24)) (.tt (lfF n q z w1 w2 true)) (.need (xQk w1 w2 q ((v + 1 : Nat) : Int)) (.tt (lfF n q z w1 w2 true)))
theorem ptO_into (gs : Gs) : ptO n q u z w1 w2 .ok gs = into (ptO n q u z w1 w2 .ok gs) (ptOS n q u z w1 w2) := by kernel_rfl
theorem ptO_fits (gs : Gs) : fits (ptO n q u z w1 w2 .ok gs) (ptOS n q u z w1 w2) = true := by kernel_rfl
theorem ptOb_into (v : Nat) (gs : Gs) : ptO n q u z w1 w2 (.bad v) gs = into (ptO n q u z w1 w2 (.bad v) gs) (ptOB n q z w1 w2 v) := by kernel_rfl
theorem ptOb_fits (v : Nat) (gs : Gs) : fits (ptO n q u z w1 w2 (.bad v) gs) (ptOB n q z w1 w2 v) = true := by kernel_rfl
/-! ### the turns, the cycles and the rest -/
section
variable (gs : Gs) (k : Nat) (f g : Nat → Int)
noncomputable def s1S (K : Nat) (kd : KP) : SkO :=
  let M := (gs.gt (k + 1) f).1
  let t := (gs.gt (k + 1) f).2
  let p := gs.gp (k + 1) f
  .need (xAp (k + 1)) (.need (xHi f (k + 1) 0) (.ff (.need (xTu (k + 1)) (.need (xAp M) (.need (xHi t M 0) (.ff (.need (xTu M) (.need (xAp (k + 1)) (.need (xRp gs f (k + 1) K) (ffO 3 (.need (xS (gs.gt M t).1 M (gs.gt M t).2 t)
    (.ff (.node (decide ((M : Int) > ((k + 1 : Nat) : Int))) (.tt (lfF n q z w1 w2 false)) (.node (IntKind.i64.wrap ((p.1.1 : Int) + IntKind.i64.wrap (2 * (K : Int))) != (M : Int)) (lfF n q z w1 w2 false)
      (.leaf (.inr (ptP 1, ptH1 n q u z w1 w2 kd f g p.1.1 p.1.2 p.2.2.1 p.2.2.2 M t emptyM 0)))))))))))))))))
theorem s1n_into : ptS1 (k + 1) q u z w1 w2 f g (.ok 0) gs (k + 1) = into (ptS1 (k + 1) q u z w1 w2 f g (.ok 0) gs (k + 1)) (s1S (k + 1) q u z w1 w2 gs k f g 0 .n) := by kernel_rfl
theorem s1n_fits : fits (ptS1 (k + 1) q u z w1 w2 f g (.ok 0) gs (k + 1)) (s1S (k + 1) q u z w1 w2 gs k f g 0 .n) = true := by kernel_rfl
theorem s1c_into (p : Nat) : ptS1 (k + 1) q u z w1 w2 f g (.ok (p + 1)) gs (k + 1) = into (ptS1 (k + 1) q u z w1 w2 f g (.ok (p + 1)) gs (k + 1)) (s1S (k + 1) q u z w1 w2 gs k f g (p + 1) (.c p)) := by kernel_rfl
theorem s1c_fits (p : Nat) : fits (ptS1 (k + 1) q u z w1 w2 f g (.ok (p + 1)) gs (k + 1)) (s1S (k + 1) q u z w1 w2 gs k f g (p + 1) (.c p)) = true := by kernel_rfl
noncomputable def s1Z (R : Nat) (r c1 c2 : Nat → Int) (M : Nat) (t : Nat → Int) : SkO := ffO 6 (.leaf (.inr (ptP 1, ptH1 n q u z w1 w2 .z f g R r c1 c2 M t emptyM 0)))
theorem s1z_into (R : Nat) (r c1 c2 : Nat → Int) (M : Nat) (t : Nat → Int) : ptS1z n q u z w1 w2 f g gs = into (ptS1z n q u z w1 w2 f g gs) (s1Z n q u z w1 w2 f g R r c1 c2 M t) := by kernel_rfl
theorem s1z_fits (R : Nat) (r c1 c2 : Nat → Int) (M : Nat) (t : Nat → Int) : fits (ptS1z n q u z w1 w2 f g gs) (s1Z n q u z w1 w2 f g R r c1 c2 M t) = true := by kernel_rfl
end
section
variable (kd : KP) (f g : Nat → Int) (R : Nat) (r c1 c2 : Nat → Int) (gs : Gs)
theorem s5_into (s : MS) : ptS5 n q u z w1 w2 kd f g R r c1 c2 gs s = into (ptS5 n q u z w1 w2 kd f g R r c1 c2 gs s) (.leaf (.inr (ptP 5, ptH5 n q u z w1 w2 kd f g R r c1 c2 0))) := by
  cases kd with
  | z => kernel_rfl
  | n => kernel_rfl
  | c p => kernel_rfl
theorem s5_fits (s : MS) : fits (ptS5 n q u z w1 w2 kd f g R r c1 c2 gs s) (.leaf (.inr (ptP 5, ptH5 n q u z w1 w2 kd f g R r c1 c2 0))) = true := by
  cases kd with
  | z => kernel_rfl
  | n => kernel_rfl
  | c p => kernel_rfl
/-! ### no four turns with a cycle -/
def rA (x : Int) : Int := r (0 + x.toNat)
noncomputable def sk5 (i : Int) : Sk (X × St) :=
  let i1 := IntKind.i64.wrap (i + 1)
  let i2 := IntKind.i64.wrap (i + 2)
  let i3 := IntKind.i64.wrap (i + 3)
  .node (decide (i3 < (R : Int))) (ix R i1 (ix R i2 (ix R i (ix R i1 (.node (decide (farW (rA r i1) (rA r i2) ≤ farW (rA r i) (rA r i1)))
    (ix R i1 (ix R i2 (ix R i2 (ix R i3 (.node (decide (farW (rA r i1) (rA r i2) ≤ farW (rA r i2) (rA r i3))) (.leaf (.ret, ptX5 n q u z w1 w2 kd f g R r c1 c2)) (.leaf (.normal, ptH5 n q u z w1 w2 kd f g R r c1 c2 i1)))))))
    (.ff (.leaf (.normal, ptH5 n q u z w1 w2 kd f g R r c1 c2 i1)))))))) (.leaf (.exit 10, ptX5 n q u z w1 w2 kd f g R r c1 c2))
theorem t5n_into (i : Int) : ptT5 n q u z w1 w2 .n f g R r c1 c2 gs i = into (ptT5 n q u z w1 w2 .n f g R r c1 c2 gs i) (sk5 n q u z w1 w2 .n f g R r c1 c2 i) := by kernel_rfl
theorem t5n_fits (i : Int) : fits (ptT5 n q u z w1 w2 .n f g R r c1 c2 gs i) (sk5 n q u z w1 w2 .n f g R r c1 c2 i) = true := by kernel_rfl
theorem t5c_into (p : Nat) (i : Int) : ptT5 n q u z w1 w2 (.c p) f g R r c1 c2 gs i = into (ptT5 n q u z w1 w2 (.c p) f g R r c1 c2 gs i) (sk5 n q u z w1 w2 (.c p) f g R r c1 c2 i) := by kernel_rfl
theorem t5c_fits (p : Nat) (i : Int) : fits (ptT5 n q u z w1 w2 (.c p) f g R r c1 c2 gs i) (sk5 n q u z w1 w2 (.c p) f g R r c1 c2 i) = true := by kernel_rfl
theorem t5z_into : ptT5 n q u z w1 w2 .z f g R r c1 c2 gs 0 = into (ptT5 n q u z w1 w2 .z f g R r c1 c2 gs 0) (.ff (.leaf (.exit 10, ptX5 n q u z w1 w2 .z f g R r c1 c2))) := by kernel_rfl
theorem t5z_fits : fits (ptT5 n q u z w1 w2 .z f g R r c1 c2 gs 0) (.ff (.leaf (.exit 10, ptX5 n q u z w1 w2 .z f g R r c1 c2))) = true := by kernel_rfl
/-! ### the history in two parts, and with the opposite sign -/
def cutI : Int := (IntKind.i64.wrap u).tmod (IntKind.i64.wrap ((n : Int) + 1))
def cutN : Nat := (cutI n u).toNat
def q2C : Bool := decide ((0 : Int) ≤ 0) && decide (0 ≤ cutI n u) && decide (cutI n u ≤ (n : Int))
def q5C : Bool := decide (0 ≤ cutI n u) && decide (cutI n u ≤ (n : Int)) && decide ((n : Int) ≤ (n : Int))
def apO (o l N : Nat) : Bool := Nat.ble (o + l) N && Nat.ble ((l + 0) * 8) 140737488355328 && Nat.ble (l + 0) 9223372036854775807
def apJ (R1 L N : Nat) : Bool := Nat.ble (R1 + 0) (R1 + 0) && Nat.ble (0 + L + (N - L)) N && Nat.ble ((R1 + 0 + (N - L)) * 8) 140737488355328 && Nat.ble (R1 + 0 + (N - L)) 9223372036854775807
def apC (a b : Nat) : Bool := Nat.ble a a && Nat.ble (0 + b) b && Nat.ble ((a + b) * 16) 140737488355328 && Nat.ble (a + b) 9223372036854775807
def apD (b : Nat) : Bool := Nat.ble (0 + b) b && Nat.ble (b * 16) 140737488355328 && Nat.ble b 9223372036854775807
def restF (L : Nat) : Nat → Int := fun i => f (i + (0 + L))
def joinN (gs : Gs) : Nat := (gs.gp (cutN n u) f).1.1 + (n - cutN n u)
def joinF (gs : Gs) : Nat → Int := catF (gs.gp (cutN n u) f).1.1 (gs.gp (cutN n u) f).1.2 (restF f (cutN n u))
noncomputable def hd6 (k1 : Nat) (S : SkO) : SkO := .need (!(IntKind.i64.wrap ((n : Int) + 1) == 0)) (.need (q2C n u) (.need (apO 0 (cutN n u) n) (.need (xRp gs f (cutN n u) k1) (.ff (.node (decide (((gs.gp (cutN n u) f).1.1 : Int) > cutI n u)) (lfF n q z w1 w2 false)
  (.need (q5C n u) (.need (xAp (gs.gp (cutN n u) f).1.1) (.need (apJ (gs.gp (cutN n u) f).1.1 (cutN n u) n) S))))))))
noncomputable def hd6z (S : SkO) : SkO := .need (!(IntKind.i64.wrap ((n : Int) + 1) == 0)) (.need (q2C n u) (.need (apO 0 (cutN n u) n) (.need (true && Nat.beq (cutN n u) 0) (.ff (.node (decide (((0 : Nat) : Int) > cutI n u)) (lfF n q z w1 w2 false)
  (.need (q5C n u) (.need (apO (0 + cutN n u) (n - cutN n u) n) S)))))))
def md6 (J : Nat) (jF : Nat → Int) (k2 : Nat) (S : SkO) : SkO := .need (xRp gs jF J k2) (.ff (.need (xS (gs.gp J jF).1.1 R (gs.gp J jF).1.2 r) S))
noncomputable def tlc (p : Nat) : SkO := .ff (.need (xRp gs g n (p + 1)) (.ff (.node (((p + 1 : Nat) : Int) != ((p + 1 : Nat) : Int)) (.tt (lfF n q z w1 w2 false)) (.node (((gs.gp n g).1.1 : Int) != (R : Int)) (lfF n q z w1 w2 false)
  (.leaf (.inr (ptP 6, ptH6 n q z w1 w2 (.c p) R r c1 c2 (gs.gp n g).2.2.1 (gs.gp n g).2.2.2 0)))))))
noncomputable def tln (o1 o2 : Nat → Int) : SkO := .ff (.need (xRp gs g n 0) (.ff (.ff (.node (((gs.gp n g).1.1 : Int) != (R : Int)) (lfF n q z w1 w2 false)
  (.leaf (.inr (ptP 6, ptH6 n q z w1 w2 .n R r c1 c2 o1 o2 0)))))))
noncomputable def s6A (p k1 k2 : Nat) : SkO := hd6 n q u z w1 w2 f gs (k1 + 1) (md6 R r gs (joinN n u f gs) (joinF n u f gs) (k2 + 1) (.ff (.need (xCs (k1 + 1)) (.ff (.need (xCs (k2 + 1)) (.ff (.need (apC (k1 + 1) (k2 + 1)) (.need (xCs (p + 1))
  (.ff (.need (xSy (k1 + 1 + (k2 + 1)) (p + 1) (catF (k1 + 1) (gs.gp (cutN n u) f).2.2.1 (gs.gp (joinN n u f gs) (joinF n u f gs)).2.2.1) (catF (k1 + 1) (gs.gp (cutN n u) f).2.2.2 (gs.gp (joinN n u f gs) (joinF n u f gs)).2.2.2) c1 c2) (tlc n q z w1 w2 g R r c1 c2 gs p)))))))))))
noncomputable def s6B (p k1 : Nat) : SkO := hd6 n q u z w1 w2 f gs (k1 + 1) (md6 R r gs (joinN n u f gs) (joinF n u f gs) 0 (.ff (.need (xCs (k1 + 1)) (.ff (.tt (.need (xCs (p + 1))
  (.ff (.need (xSy (k1 + 1) (p + 1) (gs.gp (cutN n u) f).2.2.1 (gs.gp (cutN n u) f).2.2.2 c1 c2) (tlc n q z w1 w2 g R r c1 c2 gs p)))))))))
noncomputable def s6C (p k2 : Nat) : SkO := hd6 n q u z w1 w2 f gs 0 (md6 R r gs (joinN n u f gs) (joinF n u f gs) (k2 + 1) (.ff (.tt (.need (xCs (k2 + 1)) (.ff (.need (apD (k2 + 1)) (.ff (.need (xCs (p + 1))
  (.ff (.need (xSy (k2 + 1) (p + 1) (gs.gp (joinN n u f gs) (joinF n u f gs)).2.2.1 (gs.gp (joinN n u f gs) (joinF n u f gs)).2.2.2 c1 c2) (tlc n q z w1 w2 g R r c1 c2 gs p)))))))))))
noncomputable def s6E (p k2 : Nat) : SkO := hd6z n q u z w1 w2 (md6 R r gs (n - cutN n u) (restF f (cutN n u)) (k2 + 1) (.ff (.tt (.need (xCs (k2 + 1)) (.ff (.need (apD (k2 + 1)) (.ff (.need (xCs (p + 1))
  (.ff (.need (xSy (k2 + 1) (p + 1) (gs.gp (n - cutN n u) (restF f (cutN n u))).2.2.1 (gs.gp (n - cutN n u) (restF f (cutN n u))).2.2.2 c1 c2) (tlc n q z w1 w2 g R r c1 c2 gs p)))))))))))
noncomputable def s6F (o1 o2 : Nat → Int) : SkO := hd6 n q u z w1 w2 f gs 0 (md6 R r gs (joinN n u f gs) (joinF n u f gs) 0 (.ff (.tt (.tt (.tt (tln n q z w1 w2 g R r c1 c2 gs o1 o2))))))
noncomputable def s6G (o1 o2 : Nat → Int) : SkO := hd6z n q u z w1 w2 (md6 R r gs (n - cutN n u) (restF f (cutN n u)) 0 (.ff (.tt (.tt (.tt (tln n q z w1 w2 g R r c1 c2 gs o1 o2))))))
def sel3 (x y : Nat) (a b c : Option Nat) : Nat → Option Nat := fun i => match Nat.beq i x with | true => a | false => match Nat.beq i y with | true => b | false => c
def thenD {α : Type} : Tree α → Tree α
  | .node _ t _ => t
  | t => t
def elseD {α : Type} : Tree α → Tree α
  | .node _ _ t => t
  | t => t
theorem s6_split (kd : KP) (sel : Nat → Option Nat) (hz : kd ≠ .z) : ptS6 n q u z w1 w2 kd f g R r c1 c2 gs sel = .node (decide ((n : Int) > 0)) (thenD (ptS6 n q u z w1 w2 kd f g R r c1 c2 gs sel)) (elseD (ptS6 n q u z w1 w2 kd f g R r c1 c2 gs sel)) := by
  cases kd with
  | z => exact absurd rfl hz
  | n => kernel_rfl
  | c p => kernel_rfl
noncomputable def t6 (kd : KP) (sel : Nat → Option Nat) : Tree ((X × St) ⊕ (List Bool × St)) := thenD (ptS6 n q u z w1 w2 kd f g R r c1 c2 gs sel)
def selA (p k1 k2 : Nat) := sel3 10 15 (some (k1 + 1)) (some (k2 + 1)) (some (p + 1))
def selB (p k1 : Nat) := sel3 10 15 (some (k1 + 1)) (some 0) (some (p + 1))
def selC (p k2 : Nat) := sel3 10 14 (some 0) (some (k2 + 1)) (some (p + 1))
def selE (p k2 : Nat) := sel3 10 12 none (some (k2 + 1)) (some (p + 1))
def selF := sel3 9 13 (some 0) (some 0) (some 0)
def selG := sel3 9 11 none (some 0) (some 0)
theorem s6A_into (p k1 k2 : Nat) : t6 n q u z w1 w2 f g R r c1 c2 gs (.c p) (selA p k1 k2) = into (t6 n q u z w1 w2 f g R r c1 c2 gs (.c p) (selA p k1 k2)) (s6A n q u z w1 w2 f g R r c1 c2 gs p k1 k2) := by kernel_rfl
theorem s6A_fits (p k1 k2 : Nat) : fits (t6 n q u z w1 w2 f g R r c1 c2 gs (.c p) (selA p k1 k2)) (s6A n q u z w1 w2 f g R r c1 c2 gs p k1 k2) = true := by kernel_rfl
theorem s6B_into (p k1 : Nat) : t6 n q u z w1 w2 f g R r c1 c2 gs (.c p) (selB p k1) = into (t6 n q u z w1 w2 f g R r c1 c2 gs (.c p) (selB p k1)) (s6B n q u z w1 w2 f g R r c1 c2 gs p k1) := by kernel_rfl
theorem s6B_fits (p k1 : Nat) : fits (t6 n q u z w1 w2 f g R r c1 c2 gs (.c p) (selB p k1)) (s6B n q u z w1 w2 f g R r c1 c2 gs p k1) = true := by kernel_rfl
theorem s6C_into (p k2 : Nat) : t6 n q u z w1 w2 f g R r c1 c2 gs (.c p) (selC p k2) = into (t6 n q u z w1 w2 f g R r c1 c2 gs (.c p) (selC p k2)) (s6C n q u z w1 w2 f g R r c1 c2 gs p k2) := by kernel_rfl
theorem s6C_fits (p k2 : Nat) : fits (t6 n q u z w1 w2 f g R r c1 c2 gs (.c p) (selC p k2)) (s6C n q u z w1 w2 f g R r c1 c2 gs p k2) = true := by kernel_rfl
theorem s6E_into (p k2 : Nat) : t6 n q u z w1 w2 f g R r c1 c2 gs (.c p) (selE p k2) = into (t6 n q u z w1 w2 f g R r c1 c2 gs (.c p) (selE p k2)) (s6E n q u z w1 w2 f g R r c1 c2 gs p k2) := by kernel_rfl
theorem s6E_fits (p k2 : Nat) : fits (t6 n q u z w1 w2 f g R r c1 c2 gs (.c p) (selE p k2)) (s6E n q u z w1 w2 f g R r c1 c2 gs p k2) = true := by kernel_rfl
theorem s6F_into (o1 o2 : Nat → Int) : t6 n q u z w1 w2 f g R r c1 c2 gs .n selF = into (t6 n q u z w1 w2 f g R r c1 c2 gs .n selF) (s6F n q u z w1 w2 f g R r c1 c2 gs o1 o2) := by kernel_rfl
theorem s6F_fits (o1 o2 : Nat → Int) : fits (t6 n q u z w1 w2 f g R r c1 c2 gs .n selF) (s6F n q u z w1 w2 f g R r c1 c2 gs o1 o2) = true := by kernel_rfl
theorem s6G_into (o1 o2 : Nat → Int) : t6 n q u z w1 w2 f g R r c1 c2 gs .n selG = into (t6 n q u z w1 w2 f g R r c1 c2 gs .n selG) (s6G n q u z w1 w2 f g R r c1 c2 gs o1 o2) := by kernel_rfl
theorem s6G_fits (o1 o2 : Nat → Int) : fits (t6 n q u z w1 w2 f g R r c1 c2 gs .n selG) (s6G n q u z w1 w2 f g R r c1 c2 gs o1 o2) = true := by kernel_rfl
noncomputable def s6Z (o1 o2 : Nat → Int) : SkO := ffO 5 (.tt (.tt (.tt (ffO 4 (.leaf (.inr (ptP 6, ptH6 n q z w1 w2 .z R r c1 c2 o1 o2 0)))))))
theorem s6Z_into (o1 o2 : Nat → Int) : ptS6z n q u z w1 w2 f g R r c1 c2 gs = into (ptS6z n q u z w1 w2 f g R r c1 c2 gs) (s6Z n q z w1 w2 R r c1 c2 o1 o2) := by kernel_rfl
theorem s6Z_fits (o1 o2 : Nat → Int) : fits (ptS6z n q u z w1 w2 f g R r c1 c2 gs) (s6Z n q z w1 w2 R r c1 c2 o1 o2) = true := by kernel_rfl
/-! ### each cycle with the opposite sign -/
noncomputable def sk6 (p : Nat) (o1 o2 : Nat → Int) (i : Int) : Sk (X × St) := .node (decide (i < ((p + 1 : Nat) : Int))) (.need (decide (0 ≤ i) && decide (i < ((p + 1 : Nat) : Int))) (.need (Nat.blt (0 + i.toNat) (p + 1)) (.need (Nat.blt (0 + i.toNat) (p + 1)) (ix (p + 1) i
    (.node (o1 (0 + i.toNat) != IntKind.i64.wrap (0 - c1 (0 + i.toNat))) (.tt (.leaf (.ret, ptX6 n q z w1 w2 (.c p) R r c1 c2 o1 o2))) (ix (p + 1) i (.node (o2 (0 + i.toNat) != IntKind.i64.wrap (0 - c2 (0 + i.toNat))) (.leaf (.ret, ptX6 n q z w1 w2 (.c p) R r c1 c2 o1 o2)) (.leaf (.normal, ptH6 n q z w1 w2 (.c p) R r c1 c2 o1 o2 (IntKind.i64.wrap (i + 1)))))))))))
  (.leaf (.exit 12, ptX6 n q z w1 w2 (.c p) R r c1 c2 o1 o2))
theorem t6c_into (p : Nat) (o1 o2 : Nat → Int) (i : Int) : ptT6 n q u z w1 w2 (.c p) R r c1 c2 gs o1 o2 i = into (ptT6 n q u z w1 w2 (.c p) R r c1 c2 gs o1 o2 i) (sk6 n q z w1 w2 R r c1 c2 p o1 o2 i) := by kernel_rfl
theorem t6c_fits (p : Nat) (o1 o2 : Nat → Int) (i : Int) : fits (ptT6 n q u z w1 w2 (.c p) R r c1 c2 gs o1 o2 i) (sk6 n q z w1 w2 R r c1 c2 p o1 o2 i) = true := by kernel_rfl
theorem t6x_into (kd : KP) (hk : ∀ p, kd ≠ .c p) (o1 o2 : Nat → Int) : ptT6 n q u z w1 w2 kd R r c1 c2 gs o1 o2 0 = into (ptT6 n q u z w1 w2 kd R r c1 c2 gs o1 o2 0) (.ff (.leaf (.exit 12, ptX6 n q z w1 w2 kd R r c1 c2 o1 o2))) := by
  cases kd with
  | z => kernel_rfl
  | n => kernel_rfl
  | c p => exact absurd rfl (hk p)
theorem t6x_fits (kd : KP) (hk : ∀ p, kd ≠ .c p) (o1 o2 : Nat → Int) : fits (ptT6 n q u z w1 w2 kd R r c1 c2 gs o1 o2 0) (.ff (.leaf (.exit 12, ptX6 n q z w1 w2 kd R r c1 c2 o1 o2))) = true := by
  cases kd with
  | z => kernel_rfl
  | n => kernel_rfl
  | c p => exact absurd rfl (hk p)
/-! ### damage -/
noncomputable def end7 (all part half : Int) (kf : Nat → Int) : SkO := ffO 4 (.node (all != IntKind.i64.wrap (part + half)) (.tt (lfF n q z w1 w2 false)) (.node ((q : Int) != (q : Int)) (lfF n q z w1 w2 false) (.leaf (.inr (ptP 7, ptH7 n q z w1 w2 part 0 kf 0)))))
noncomputable def s7c (p : Nat) : SkO := .need (xCs (p + 1)) (.ff (.need (xCy (p + 1) true) (.need (xAp R) (.need (xCy q true) (.need (xDa r c1 c2 w1 w2 (p + 1) R q 0 0 0) (.need (xCs (p + 1)) (.ff (.need (xCy (p + 1) true) (.need (xCy q true) (.need (xDa r c1 c2 w1 w2 (p + 1) 0 q 0 0 0)
  (.need (xAp R) (.need (xCy q true) (.need (xDa r w1 w2 w1 w2 0 R q 0 0 0) (.need (xCs (p + 1)) (.ff (.need (xCy (p + 1) true) (.need (xCy q true) (.need (xCn c1 c2 w1 w2 (p + 1) q 0 0)
  (end7 n q z w1 w2 (gs.gd (p + 1) R q c1 c2 r w1 w2) (gs.gd (p + 1) 0 q c1 c2 r w1 w2) (gs.gd 0 R q w1 w2 r w1 w2) (gs.gc c1 c2 w1 q (p + 1)))))))))))))))))))))
noncomputable def s7n : SkO := .tt (.nn (.need (xAp R) (.need (xCy q true) (.need (xDa r w1 w2 w1 w2 0 R q 0 0 0) (.tt (.nn (.need (xCy q true) (.need (xDa r w1 w2 w1 w2 0 0 q 0 0 0) (.need (xAp R) (.need (xCy q true) (.need (xDa r w1 w2 w1 w2 0 R q 0 0 0)
  (.tt (.nn (.need (xCy q true) (.need (xCn w1 w2 w1 w2 0 q 0 0) (end7 n q z w1 w2 (gs.gd 0 R q w1 w2 r w1 w2) (gs.gd 0 0 q w1 w2 r w1 w2) (gs.gd 0 R q w1 w2 r w1 w2) (gs.gc w1 w2 w1 q 0)))))))))))))))))
def zr : Nat → Int := fun _ => 0
noncomputable def s7z : SkO := .tt (.nn (.need (xCy q true) (.need (xDa zr w1 w2 w1 w2 0 0 q 0 0 0) (.tt (.nn (.need (xCy q true) (.need (xDa zr w1 w2 w1 w2 0 0 q 0 0 0) (.need (xCy q true) (.need (xDa zr w1 w2 w1 w2 0 0 q 0 0 0)
  (.tt (.nn (.need (xCy q true) (.need (xCn w1 w2 w1 w2 0 q 0 0) (end7 n q z w1 w2 (gs.gd 0 0 q w1 w2 zr w1 w2) (gs.gd 0 0 q w1 w2 zr w1 w2) (gs.gd 0 0 q w1 w2 zr w1 w2) (gs.gc w1 w2 w1 q 0)))))))))))))))
theorem s7c_into (p : Nat) (o1 o2 : Nat → Int) : ptS7 n q u z w1 w2 (.c p) R r c1 c2 (.ok 0) .ok gs o1 o2 = into (ptS7 n q u z w1 w2 (.c p) R r c1 c2 (.ok 0) .ok gs o1 o2) (s7c n q z w1 w2 R r c1 c2 gs p) := by kernel_rfl
theorem s7c_fits (p : Nat) (o1 o2 : Nat → Int) : fits (ptS7 n q u z w1 w2 (.c p) R r c1 c2 (.ok 0) .ok gs o1 o2) (s7c n q z w1 w2 R r c1 c2 gs p) = true := by kernel_rfl
theorem s7n_into (o1 o2 : Nat → Int) : ptS7 n q u z w1 w2 .n R r c1 c2 (.ok 0) .z gs o1 o2 = into (ptS7 n q u z w1 w2 .n R r c1 c2 (.ok 0) .z gs o1 o2) (s7n n q z w1 w2 R r gs) := by kernel_rfl
theorem s7n_fits (o1 o2 : Nat → Int) : fits (ptS7 n q u z w1 w2 .n R r c1 c2 (.ok 0) .z gs o1 o2) (s7n n q z w1 w2 R r gs) = true := by kernel_rfl
theorem s7z_into (o1 o2 : Nat → Int) : ptS7 n q u z w1 w2 .z R r c1 c2 .z .z gs o1 o2 = into (ptS7 n q u z w1 w2 .z R r c1 c2 .z .z gs o1 o2) (s7z n q z w1 w2 gs) := by kernel_rfl
theorem s7z_fits (o1 o2 : Nat → Int) : fits (ptS7 n q u z w1 w2 .z R r c1 c2 .z .z gs o1 o2) (s7z n q z w1 w2 gs) = true := by kernel_rfl
noncomputable def sk7 (part sum : Int) (k : Nat → Int) (i : Int) : Sk (X × St) := .node (decide (i < (q : Int))) (ix q i (ix q i (.leaf (.normal, ptH7 n q z w1 w2 part (IntKind.i64.wrap (sum + IntKind.i64.wrap (IntKind.i64.wrap (2 * k (0 + i.toNat)) * w2 (0 + i.toNat)))) k (IntKind.i64.wrap (i + 1))))))
  (.leaf (.exit 14, ptX7 n q z w1 w2 part sum))
theorem t7_into (part sum : Int) (k : Nat → Int) (i : Int) : ptT7 n q u z w1 w2 gs part sum k i = into (ptT7 n q u z w1 w2 gs part sum k i) (sk7 n q z w1 w2 part sum k i) := by kernel_rfl
theorem t7_fits (part sum : Int) (k : Nat → Int) (i : Int) : fits (ptT7 n q u z w1 w2 gs part sum k i) (sk7 n q z w1 w2 part sum k i) = true := by kernel_rfl
theorem s8_into (part sum : Int) : ptS8 n q u z w1 w2 gs part sum = into (ptS8 n q u z w1 w2 gs part sum) (.node (sum == part) (lfF n q z w1 w2 true) (lfF n q z w1 w2 false)) := by kernel_rfl
theorem s8_fits (part sum : Int) : fits (ptS8 n q u z w1 w2 gs part sum) (.node (sum == part) (lfF n q z w1 w2 true) (lfF n q z w1 w2 false)) = true := by kernel_rfl
end
end
end Go.Ev
