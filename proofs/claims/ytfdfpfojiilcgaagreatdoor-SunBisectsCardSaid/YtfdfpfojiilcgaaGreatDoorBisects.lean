/- SunBisects returns true at every input. Conditions: the two variables that awake() reads hold what they are laid with. -/
import Derived.Test.YtfdfpfojiilcgaaGreatDoorLaw4
import Derived.Test.YtfdfpfojiilcgaaGreatDoorBas3
namespace Go.Ev
open Go Go.Proofs

def bisArgs (a b c d p q r s : Int) : List A := [.agg ([a, b, c, d].map fun z => .lit (.int .i8 z)), .agg ([p, q, r, s].map fun z => .lit (.int .i8 z))]
def bisSlots : List Nat := [2, 3, 4, 5, 6, 37]
def bisS (size : Nat) (e1 e2 : TypeId) (a b c d p q r s : Int) (k : Int) (l : List Int) (s0 s1 : Int) : St := {
  size := size
  env := envL [(2, .one (.ptr 2 0 1 0)), (3, .one (.ptr 3 0 1 0)), (4, boo false), (5, .one (.ptr 4 0 1 0)), (6, .one (.ptr 5 0 1 0)), (37, int k)]
  hp := { hpL [⟨true, e1, .flat ([1, 0, 0, 0, 0, 1].map ci)⟩, ⟨true, e2, .flat (Lib.pow10Tab.map fun n => .lit (.int .u64 n))⟩, ⟨false, 55, .flat ([a, b, c, d].map fun z => .lit (.int .i8 z))⟩, ⟨false, 55, .flat ([p, q, r, s].map fun z => .lit (.int .i8 z))⟩,
    ⟨false, 57, .flat (l.map ci)⟩, ⟨false, 58, .flat [ci s0, ci s1]⟩] [(0, 0), (2, 1)] with low := 2 }
  wide := false
  keep := true }
def bs1 (a : Int) : Int := w64 (0 + w64 (a * a))
def bs2 (a b : Int) : Int := w64 (bs1 a + w64 (b * b))
def bs3 (a b c : Int) : Int := w64 (bs2 a b + w64 (c * c))
def bs4 (a b c d : Int) : Int := w64 (bs3 a b c + w64 (d * d))
def bisAt (size : Nat) (e1 e2 : TypeId) (a b c d p q r s : Int) : Nat → St
  | 0 => bisS size e1 e2 a b c d p q r s 0 [0, 0, 0, 0, 0, 0, 0, 0] 0 0
  | 1 => bisS size e1 e2 a b c d p q r s 1 [bi a, 0, 0, 0, bi p, 0, 0, 0] (bs1 (bi a)) (bs1 (bi p))
  | 2 => bisS size e1 e2 a b c d p q r s 2 [bi a, bi b, 0, 0, bi p, bi q, 0, 0] (bs2 (bi a) (bi b)) (bs2 (bi p) (bi q))
  | 3 => bisS size e1 e2 a b c d p q r s 3 [bi a, bi b, bi c, 0, bi p, bi q, bi r, 0] (bs3 (bi a) (bi b) (bi c)) (bs3 (bi p) (bi q) (bi r))
  | _ => bisS size e1 e2 a b c d p q r s 4 [bi a, bi b, bi c, bi d, bi p, bi q, bi r, bi s] (bs4 (bi a) (bi b) (bi c) (bi d)) (bs4 (bi p) (bi q) (bi r) (bi s))
section
variable (e1 e2 : TypeId) (a b c d p q r s : Int)
theorem bis_pre (φ : (Bool × A × Hp) ⊕ (List Bool × St) → Prop) : (begT Tryz.prog (tabOf tb_Norm) Tryz.f5 (bisArgs a b c d p q r s) (hpG e1 e2) (false, true) bisSlots).All φ =
    φ (.inr (pathF Tryz.f5, bisAt Tryz.f5.ntmps e1 e2 a b c d p q r s 0)) := by kernel_rfl
theorem bis_r0 : (memF Tryz.prog (tabOf tb_Norm) Tryz.f5 bisSlots (bisAt Tryz.f5.ntmps e1 e2 a b c d p q r s 0)).slim = thrice (.normal, bisAt Tryz.f5.ntmps e1 e2 a b c d p q r s 1) := by kernel_rfl
theorem bis_r1 : (memF Tryz.prog (tabOf tb_Norm) Tryz.f5 bisSlots (bisAt Tryz.f5.ntmps e1 e2 a b c d p q r s 1)).slim = thrice (.normal, bisAt Tryz.f5.ntmps e1 e2 a b c d p q r s 2) := by kernel_rfl
theorem bis_r2 : (memF Tryz.prog (tabOf tb_Norm) Tryz.f5 bisSlots (bisAt Tryz.f5.ntmps e1 e2 a b c d p q r s 2)).slim = thrice (.normal, bisAt Tryz.f5.ntmps e1 e2 a b c d p q r s 3) := by kernel_rfl
theorem bis_r3 : (memF Tryz.prog (tabOf tb_Norm) Tryz.f5 bisSlots (bisAt Tryz.f5.ntmps e1 e2 a b c d p q r s 3)).slim = thrice (.normal, bisAt Tryz.f5.ntmps e1 e2 a b c d p q r s 4) := by kernel_rfl
theorem bis_r4 : (memF Tryz.prog (tabOf tb_Norm) Tryz.f5 bisSlots (bisAt Tryz.f5.ntmps e1 e2 a b c d p q r s 4)).slim = .leaf (.exit 0, bisAt Tryz.f5.ntmps e1 e2 a b c d p q r s 4) := by kernel_rfl
theorem bis_end : (endT Tryz.prog (tabOf tb_Norm) Tryz.f5 (hpG e1 e2) (.exit 0, bisAt Tryz.f5.ntmps e1 e2 a b c d p q r s 4)).goes isTrue =
    (biT (bi a) (bi b) (bi c) (bi d) (bi p) (bi q) (bi r) (bi s)).goes id := by kernel_rfl
theorem bis_sum : SumAt Tryz.prog (loopF Tryz.f5) (bisAt Tryz.f5.ntmps e1 e2 a b c d p q r s 0) (.exit 0, bisAt Tryz.f5.ntmps e1 e2 a b c d p q r s 4) := by
  have n0 := bis_r0 e1 e2 a b c d p q r s
  have n1 := bis_r1 e1 e2 a b c d p q r s
  have n2 := bis_r2 e1 e2 a b c d p q r s
  have n3 := bis_r3 e1 e2 a b c d p q r s
  have n4 := bis_r4 e1 e2 a b c d p q r s
  have key := sum_memF tb_Norm_ok (fn := Tryz.f5) (slots := bisSlots) (bisAt Tryz.f5.ntmps e1 e2 a b c d p q r s) (fun k => 4 - k) (fun k => k ≤ 4) (fun _ => (.exit 0, bisAt Tryz.f5.ntmps e1 e2 a b c d p q r s 4))
  generalize bisAt Tryz.f5.ntmps e1 e2 a b c d p q r s = hd at n0 n1 n2 n3 n4 key ⊢
  refine key (fun k hk => ?_) 0 (by decide)
  match k, hk with
  | 0, _ => rw [n0]; exact thrice_all ⟨1, rfl, by decide, by decide, rfl⟩
  | 1, _ => rw [n1]; exact thrice_all ⟨2, rfl, by decide, by decide, rfl⟩
  | 2, _ => rw [n2]; exact thrice_all ⟨3, rfl, by decide, by decide, rfl⟩
  | 3, _ => rw [n3]; exact thrice_all ⟨4, rfl, by decide, by decide, rfl⟩
  | 4, _ => rw [n4]; exact rfl
end
theorem bisects_call (e1 e2 : TypeId) (a b c d p q r s : Int) : CallAt Tryz.prog 5 (bisArgs a b c d p q r s) (hpG e1 e2) (boo true) (hpG e1 e2) :=
  call_first tb_Norm_ok Tryz.func5 (by kernel_rfl) (false, true) bisSlots (by kernel_rfl) (.exit 0, bisAt Tryz.f5.ntmps e1 e2 a b c d p q r s 4) (bis_pre e1 e2 a b c d p q r s) (bis_sum e1 e2 a b c d p q r s) (by kernel_rfl) (by rw [bis_end]; exact bis_law a b c d p q r s)
end Go.Ev
