/- Contracts of the functions that reduce vectors, and of the meeting of a way and a cone. Conditions: parts within 63 bits, as the entries say. (Printed by gen_vec2.py.) -/
import Derived.Test.YtfdfpfojiilcgaaGreatDoorVec
namespace Go.Ev
open Go Go.Proofs

theorem gcd1_ne (a b : Int) : (!(gcd1 a b == 0)) = true := by
  unfold gcd1
  split
  · rfl
  · rename_i h
    have h : ¬ Int.gcd a b = 0 := by simpa using h
    simp only [Bool.not_eq_true', beq_eq_false_iff_ne]
    omega
theorem in63_0 : in63 0 = true := by decide
theorem in63_iff {a : Int} : in63 a = true ↔ -9223372036854775808 < a ∧ a < 9223372036854775808 := by simp [in63]
theorem gcd_in {a b : Int} (ha : in63 a = true) (hb : in63 b = true) : Int.gcd a b < 9223372036854775808 := by
  rw [in63_iff] at ha hb
  by_cases h : a = 0
  · subst h; simp only [Int.gcd_zero_left]; omega
  · have := Int.gcd_le_natAbs_left (a := a) b h
    omega
theorem gcd1_in {a b : Int} (ha : in63 a = true) (hb : in63 b = true) : in63 (gcd1 a b) = true := by
  have := gcd_in ha hb
  unfold gcd1
  split
  · decide
  · rw [in63_iff]; omega
theorem gcdc_in {a b : Int} (ha : in63 a = true) (hb : in63 b = true) : in63 (Int.gcd a b) = true := by
  have := gcd_in ha hb
  rw [in63_iff]; omega
theorem gcd_blt {a b : Int} (ha : in63 a = true) (hb : in63 b = true) : Nat.blt (Int.gcd a b) 9223372036854775808 = true := by
  rw [Nat.blt_eq]; exact gcd_in ha hb
theorem in3_iff {x y z : Int} (h : in3 x y z = true) : in63 x = true ∧ in63 y = true ∧ in63 z = true := by
  simpa [in3, Bool.and_eq_true] using h

/-! ### spillage/spillageref02.Reduced -/
def redQV : List Int → List Bool → A
  | [x, y, z], [] => vec (qred x y z x) (qred x y z y) (qred x y z z)
  | _, _ => int 0
def redQK : List Int → List Bool → Bool
  | [x, y, z], [] => in3 x y z
  | _, _ => false
theorem redQ_run (x y z : Int) (hok : (in3 x y z) = true) : (evFun Tryz.prog (tabOf tb_btw) modes 100 91 (encA [.v 3] [x, y, z] []) hp0).run = some (vec (qred x y z x) (qred x y z y) (qred x y z z), hp0) := by
  obtain ⟨hx, hy, hz⟩ := in3_iff hok
  have h : (evFun Tryz.prog (tabOf tb_btw) modes 100 91 (encA [.v 3] [x, y, z] []) hp0).run = (Tree.need (in63 z && in63 0) (.node (x != 0) (.need (in63 x && in63 y) (.need (in63 (gcd1 x y) && in63 z) (.need (!(gcd1 (gcd1 x y) z == 0)) (.need (!(gcd1 (gcd1 x y) z == 0)) (.need (!(gcd1 (gcd1 x y) z == 0)) (.leaf (vec (w64 (x.tdiv (gcd1 (gcd1 x y) z))) (w64 (y.tdiv (gcd1 (gcd1 x y) z))) (w64 (z.tdiv (gcd1 (gcd1 x y) z))), hp0))))))) (.node (y != 0) (.need (in63 x && in63 y) (.need (in63 (gcd1 x y) && in63 z) (.need (!(gcd1 (gcd1 x y) z == 0)) (.need (!(gcd1 (gcd1 x y) z == 0)) (.need (!(gcd1 (gcd1 x y) z == 0)) (.leaf (vec (w64 (x.tdiv (gcd1 (gcd1 x y) z))) (w64 (y.tdiv (gcd1 (gcd1 x y) z))) (w64 (z.tdiv (gcd1 (gcd1 x y) z))), hp0))))))) (.need (!(gcd1 z 0 == 0)) (.need (!(gcd1 z 0 == 0)) (.need (!(gcd1 z 0 == 0)) (.leaf (vec (w64 (x.tdiv (gcd1 z 0))) (w64 (y.tdiv (gcd1 z 0))) (w64 (z.tdiv (gcd1 z 0))), hp0)))))))).run := by kernel_rfl
  rw [h]
  unfold qred qd
  simp only [Tree.run, hx, hy, hz, in63_0, gcd1_in hx hy, gcd1_ne, Bool.and_self]
  cases (x != 0) <;> cases (y != 0) <;> rfl
theorem redQ_ok : SpecOk Tryz.prog 91 (specI [.v 3] (redQK) redQV) := specI_ok (fun l m => by unfold redQV; split <;> rfl) fun l m hl hm hok => match l, m, hl, hm, hok with
  | [x, y, z], [], _, _, hok => call_ev tb_btw_ok (redQ_run x y z hok)
def tb_redQ : List (FuncId × Spec) := (91, specI [.v 3] (redQK) redQV) :: tb_btw
theorem tb_redQ_ok : TabOk Tryz.prog (tabOf tb_redQ) := tab_cons tb_btw_ok redQ_ok

/-! ### spillage/spillageref02.Times -/
def timesQV : List Int → List Bool → A
  | [x, y, z, m], [] => vec (w64 (x * m)) (w64 (y * m)) (w64 (z * m))
  | _, _ => int 0
theorem timesQ_run (x y z m : Int) : (evFun Tryz.prog (tabOf tb_redQ) modes 100 27 (encA [.v 3, .i] [x, y, z, m] []) hp0).run = some (vec (w64 (x * m)) (w64 (y * m)) (w64 (z * m)), hp0) := by kernel_rfl
theorem timesQ_ok : SpecOk Tryz.prog 27 (specI [.v 3, .i] (fun _ _ => true) timesQV) := specI_ok (fun l m => by unfold timesQV; split <;> rfl) fun l m hl hm _ => match l, m, hl, hm with
  | [x, y, z, m], [], _, _ => call_ev tb_redQ_ok (timesQ_run x y z m)
def tb_timesQ : List (FuncId × Spec) := (27, specI [.v 3, .i] (fun _ _ => true) timesQV) :: tb_redQ
theorem tb_timesQ_ok : TabOk Tryz.prog (tabOf tb_timesQ) := tab_cons tb_redQ_ok timesQ_ok

/-! ### spillage/spillageref02.Plus -/
def plusQV : List Int → List Bool → A
  | [ax, ay, az, bx, by', bz], [] => vec (w64 (ax + bx)) (w64 (ay + by')) (w64 (az + bz))
  | _, _ => int 0
theorem plusQ_run (ax ay az bx by' bz : Int) : (evFun Tryz.prog (tabOf tb_timesQ) modes 100 35 (encA [.v 3, .v 3] [ax, ay, az, bx, by', bz] []) hp0).run = some (vec (w64 (ax + bx)) (w64 (ay + by')) (w64 (az + bz)), hp0) := by kernel_rfl
theorem plusQ_ok : SpecOk Tryz.prog 35 (specI [.v 3, .v 3] (fun _ _ => true) plusQV) := specI_ok (fun l m => by unfold plusQV; split <;> rfl) fun l m hl hm _ => match l, m, hl, hm with
  | [ax, ay, az, bx, by', bz], [], _, _ => call_ev tb_timesQ_ok (plusQ_run ax ay az bx by' bz)
def tb_plusQ : List (FuncId × Spec) := (35, specI [.v 3, .v 3] (fun _ _ => true) plusQV) :: tb_timesQ
theorem tb_plusQ_ok : TabOk Tryz.prog (tabOf tb_plusQ) := tab_cons tb_timesQ_ok plusQ_ok

/-! ### spillage/spillageref02.Same -/
def sameQV : List Int → List Bool → A
  | [ax, ay, az, bx, by', bz], [] => boo (qsame ax ay az bx by' bz)
  | _, _ => int 0
def sameQK : List Int → List Bool → Bool
  | [ax, ay, az, bx, by', bz], [] => in3 ax ay az && in3 bx by' bz
  | _, _ => false
theorem sameQ_run (ax ay az bx by' bz : Int) (hok : (in3 ax ay az && in3 bx by' bz) = true) : (evFun Tryz.prog (tabOf tb_plusQ) modes 100 72 (encA [.v 3, .v 3] [ax, ay, az, bx, by', bz] []) hp0).run = some (boo (qsame ax ay az bx by' bz), hp0) := by
  have h : (evFun Tryz.prog (tabOf tb_plusQ) modes 100 72 (encA [.v 3, .v 3] [ax, ay, az, bx, by', bz] []) hp0).run = (Tree.need (in3 ax ay az) (.need (in3 bx by' bz) (.leaf (boo (qsame ax ay az bx by' bz), hp0)))).run := by kernel_rfl
  rw [Bool.and_eq_true] at hok
  rw [h]; simp only [Tree.run, hok.1, hok.2]
theorem sameQ_ok : SpecOk Tryz.prog 72 (specI [.v 3, .v 3] (sameQK) sameQV) := specI_ok (fun l m => by unfold sameQV; split <;> rfl) fun l m hl hm hok => match l, m, hl, hm, hok with
  | [ax, ay, az, bx, by', bz], [], _, _, hok => call_ev tb_plusQ_ok (sameQ_run ax ay az bx by' bz hok)
def tb_sameQ : List (FuncId × Spec) := (72, specI [.v 3, .v 3] (sameQK) sameQV) :: tb_plusQ
theorem tb_sameQ_ok : TabOk Tryz.prog (tabOf tb_sameQ) := tab_cons tb_plusQ_ok sameQ_ok

/-! ### spillage/spillageref02.Opposite -/
def oppQV : List Int → List Bool → A
  | [ax, ay, az, bx, by', bz], [] => boo (qopp ax ay az bx by' bz)
  | _, _ => int 0
def oppQK : List Int → List Bool → Bool
  | [ax, ay, az, bx, by', bz], [] => in3 ax ay az && in3 bx by' bz
  | _, _ => false
theorem oppQ_run (ax ay az bx by' bz : Int) (hok : (in3 ax ay az && in3 bx by' bz) = true) : (evFun Tryz.prog (tabOf tb_sameQ) modes 100 32 (encA [.v 3, .v 3] [ax, ay, az, bx, by', bz] []) hp0).run = some (boo (qopp ax ay az bx by' bz), hp0) := by
  have h : (evFun Tryz.prog (tabOf tb_sameQ) modes 100 32 (encA [.v 3, .v 3] [ax, ay, az, bx, by', bz] []) hp0).run = (Tree.need (in3 ax ay az) (.need (in3 bx by' bz) (.leaf (boo (qopp ax ay az bx by' bz), hp0)))).run := by kernel_rfl
  rw [Bool.and_eq_true] at hok
  rw [h]; simp only [Tree.run, hok.1, hok.2]
theorem oppQ_ok : SpecOk Tryz.prog 32 (specI [.v 3, .v 3] (oppQK) oppQV) := specI_ok (fun l m => by unfold oppQV; split <;> rfl) fun l m hl hm hok => match l, m, hl, hm, hok with
  | [ax, ay, az, bx, by', bz], [], _, _, hok => call_ev tb_sameQ_ok (oppQ_run ax ay az bx by' bz hok)
def tb_oppQ : List (FuncId × Spec) := (32, specI [.v 3, .v 3] (oppQK) oppQV) :: tb_sameQ
theorem tb_oppQ_ok : TabOk Tryz.prog (tabOf tb_oppQ) := tab_cons tb_sameQ_ok oppQ_ok

/-! ### spillage/spillageref02.CheckTurns -/
def turnsQV : List Int → List Bool → A
  | [x, y, z, num, den, ax, ay, az, bx, by', bz], [] => int (qturnErr x y z ax ay az bx by' bz)
  | _, _ => int 0
def turnsQK : List Int → List Bool → Bool
  | [x, y, z, num, den, ax, ay, az, bx, by', bz], [] => in3 ax ay az && in3 bx by' bz
  | _, _ => false
theorem turnsQ_run (x y z num den ax ay az bx by' bz : Int) (hok : (in3 ax ay az && in3 bx by' bz) = true) : (evFun Tryz.prog (tabOf tb_oppQ) modes 100 17 (encA [.v 5, .v 3, .v 3] [x, y, z, num, den, ax, ay, az, bx, by', bz] []) hp0).run = some (int (qturnErr x y z ax ay az bx by' bz), hp0) := by
  have h : (evFun Tryz.prog (tabOf tb_oppQ) modes 100 17 (encA [.v 5, .v 3, .v 3] [x, y, z, num, den, ax, ay, az, bx, by', bz] []) hp0).run = (Tree.need (in3 ax ay az && in3 bx by' bz) (.leaf (int (qturnErr x y z ax ay az bx by' bz), hp0))).run := by kernel_rfl
  rw [h]; simp only [Tree.run, hok]
theorem turnsQ_ok : SpecOk Tryz.prog 17 (specI [.v 5, .v 3, .v 3] (turnsQK) turnsQV) := specI_ok (fun l m => by unfold turnsQV; split <;> rfl) fun l m hl hm hok => match l, m, hl, hm, hok with
  | [x, y, z, num, den, ax, ay, az, bx, by', bz], [], _, _, hok => call_ev tb_oppQ_ok (turnsQ_run x y z num den ax ay az bx by' bz hok)
def tb_turnsQ : List (FuncId × Spec) := (17, specI [.v 5, .v 3, .v 3] (turnsQK) turnsQV) :: tb_oppQ
theorem tb_turnsQ_ok : TabOk Tryz.prog (tabOf tb_turnsQ) := tab_cons tb_oppQ_ok turnsQ_ok

/-! ### spillage/spillageref02.Meets -/
def meetQV : List Int → List Bool → A
  | [x, y, z, num, den, ax, ay, az, bx, by', bz], [] => boo (qmeet x y z num den ax ay az bx by' bz)
  | _, _ => int 0
def meetQK : List Int → List Bool → Bool
  | [x, y, z, num, den, ax, ay, az, bx, by', bz], [] => in3 ax ay az && in3 bx by' bz
  | _, _ => false
theorem meetQ_run (x y z num den ax ay az bx by' bz : Int) (hok : (in3 ax ay az && in3 bx by' bz) = true) : (evFun Tryz.prog (tabOf tb_turnsQ) modes 100 18 (encA [.v 5, .v 3, .v 3] [x, y, z, num, den, ax, ay, az, bx, by', bz] []) hp0).run = some (boo (qmeet x y z num den ax ay az bx by' bz), hp0) := by
  have h : (evFun Tryz.prog (tabOf tb_turnsQ) modes 100 18 (encA [.v 5, .v 3, .v 3] [x, y, z, num, den, ax, ay, az, bx, by', bz] []) hp0).run = (Tree.node (insW x y z num den ax ay az) (.leaf (boo true, hp0)) (.node (insW x y z num den bx by' bz) (.leaf (boo true, hp0)) (.need (in3 ax ay az && in3 bx by' bz) (.node (qsame ax ay az bx by' bz) (.leaf (boo false, hp0))
      (.node (decide (0 < btwX x y z ax ay az bx by' bz)) (.node (decide (0 < btwY x y z ax ay az bx by' bz)) (.leaf (boo (decide (w64 (w64 (num * btwA ax ay az bx by' bz) * dotW x y z x y z) ≤ w64 (btwS x y z ax ay az bx by' bz * den))), hp0)) (.leaf (boo false, hp0))) (.leaf (boo false, hp0))))))).run := by kernel_rfl
  rw [h]; unfold qmeet
  simp only [Tree.run, hok]
  cases insW x y z num den ax ay az <;> cases insW x y z num den bx by' bz <;> cases qsame ax ay az bx by' bz <;> cases decide (0 < btwX x y z ax ay az bx by' bz) <;> cases decide (0 < btwY x y z ax ay az bx by' bz) <;> rfl
theorem meetQ_ok : SpecOk Tryz.prog 18 (specI [.v 5, .v 3, .v 3] (meetQK) meetQV) := specI_ok (fun l m => by unfold meetQV; split <;> rfl) fun l m hl hm hok => match l, m, hl, hm, hok with
  | [x, y, z, num, den, ax, ay, az, bx, by', bz], [], _, _, hok => call_ev tb_turnsQ_ok (meetQ_run x y z num den ax ay az bx by' bz hok)
def tb_meetQ : List (FuncId × Spec) := (18, specI [.v 5, .v 3, .v 3] (meetQK) meetQV) :: tb_turnsQ
theorem tb_meetQ_ok : TabOk Tryz.prog (tabOf tb_meetQ) := tab_cons tb_turnsQ_ok meetQ_ok
end Go.Ev
