/- SunWays, up to its loops and behind them. Conditions: the two variables that awake() reads hold what they are laid with. -/
import Derived.Test.YtfdfpfojiilcgaaGreatDoorWays1
import Derived.Test.YtfdfpfojiilcgaaGreatDoorTwice
namespace Go.Ev
open Go Go.Proofs

/-- an outcome that hands back true, or a loop -/
def mark : (Bool × A × Hp) ⊕ (List Bool × St) → Tree (Unit ⊕ (List Bool × St))
  | .inl (true, .one (.lit (.bool b)), _) => .node b (.leaf (.inl ())) (.fail 0)
  | .inr y => .leaf (.inr y)
  | _ => .fail 0
def Tree.slim0 {α : Type} : Tree α → Tree α
  | .leaf a => .leaf a
  | .node b t e => match b with | true => t.slim0 | false => e.slim0
  | .need b t => match b with | true => t.slim0 | false => .fail 0
  | .amb l r => .amb l.slim0 r.slim0
  | .fail _ => .fail 0
theorem Tree.slim0_all {α : Type} {φ : α → Prop} : ∀ {t : Tree α}, t.slim0.All φ → t.All φ
  | .leaf _, h => h
  | .node true t _, h => Tree.slim0_all (t := t) h
  | .node false _ e, h => Tree.slim0_all (t := e) h
  | .need true t, h => ⟨rfl, Tree.slim0_all (t := t) h⟩
  | .need false _, h => h.elim
  | .amb _ _, h => ⟨Tree.slim0_all h.1, Tree.slim0_all h.2⟩
  | .fail _, h => h.elim
section
variable (e1 e2 : TypeId) (x y z num den ax ay az bx b2 bz m n : Int)
def fr1 : Int := only0 (rayErr ax ay az) (sd1 ax ay az)
def fr2 : Int := only0 (rayErr ax ay az) (sd2 ax ay az)
def fr3 : Int := only0 (rayErr ax ay az) (sd3 ax ay az)
def fr4 : Int := only0 (rayErr ax ay az) (frW ax ay az (tp1 ax ay az))
def fr5 : Int := only0 (rayErr ax ay az) (frW ax ay az (tp2 ax ay az))
def fr6 : Int := only0 (rayErr ax ay az) (frW ax ay az (tp3 ax ay az))
def halfN (num : Int) : Int := w64 (num.tdiv 2)
def wBeg (t : Tree (Unit ⊕ (List Bool × St))) : Tree (Unit ⊕ (List Bool × St)) :=
  .node (qconeErr x y z num den != 0) (.leaf (.inl ())) (.node (!(tinW x y z)) (.leaf (.inl ())) (.node (!(tinW ax ay az)) (.leaf (.inl ())) (.node (!(tinW bx b2 bz)) (.leaf (.inl ())) (.need (in3 ax ay az && in3 bx b2 bz) (.node (qopp ax ay az bx b2 bz) (.leaf (.inl ()))
  (.node (rayErr ax ay az != 0) (.fail 0) (.node (qdirErr (fr1 ax ay az) (fr2 ax ay az) (fr3 ax ay az) != 0) (.fail 0) (.node (qdirErr (fr4 ax ay az) (fr5 ax ay az) (fr6 ax ay az) != 0) (.fail 0)
  (.node (dotW (fr1 ax ay az) (fr2 ax ay az) (fr3 ax ay az) (fr4 ax ay az) (fr5 ax ay az) (fr6 ax ay az) != 0) (.fail 0) (.node (dotW (fr1 ax ay az) (fr2 ax ay az) (fr3 ax ay az) ax ay az != 0) (.fail 0) (.node (dotW (fr4 ax ay az) (fr5 ax ay az) (fr6 ax ay az) ax ay az != 0) (.fail 0)
  (.node (coErr x y z num den ax ay az bx b2 bz != 0) (.fail 0) (.node (coErr x y z num den bx b2 bz ax ay az != 0) (.fail 0) (.node (coErr x y z (halfN num) den ax ay az bx b2 bz != 0) (.fail 0)
  (.node (!(coMeets x y z num den bx b2 bz ax ay az == coMeets x y z num den ax ay az bx b2 bz)) (.fail 0) (.node (coMeets x y z num den ax ay az bx b2 bz) (.node (!(coMeets x y z (halfN num) den ax ay az bx b2 bz)) (.fail 0) t) t))))))))))))))))
theorem ways_beg (size : Nat) (hs : size = Tryz.f6.ntmps) : ((begT Tryz.prog (tabOf tb_frame) Tryz.f6 (wArgs [x, y, z, num, den] [ax, ay, az, bx, b2, bz] [m, n]) (hpG e1 e2) (false, true) slotsO).bind mark).slim0 =
    (wBeg x y z num den ax ay az bx b2 bz (.leaf (.inr (pathF Tryz.f6,
      wo 2 e1 e2 x y z num den ax ay az bx b2 bz m n (fr1 ax ay az) (fr2 ax ay az) (fr3 ax ay az) (fr4 ax ay az) (fr5 ax ay az) (fr6 ax ay az) (halfN num) (coMeets x y z num den ax ay az bx b2 bz) size 0)))).slim0 := by
  subst hs
  kernel_rfl
end
def many (t : Tree Bool) : Tree Bool := .amb (.amb (.amb (.amb (.amb (.amb t (.amb t t)) (.amb (.amb t t) (.amb (.amb t t) t))) (.amb (.amb t t) t)) (.amb (.amb t t) t)) (.amb (.amb t t) t)) (.amb (.amb t t) t)
theorem many_ok {t : Tree Bool} (h : t.goes id = true) : (many t).goes id = true := by simp only [many, Tree.goes, h]
section
variable (x y z num den ax ay az bx b2 bz : Int)
def wLast (g1 g2 g3 : Int) : Tree Bool := .node (decide (256 < maxW g1 g2 g3)) (.leaf true) (yes (yes (yes (yes (.leaf true) (!(coMeets x y z num den g1 g2 g3 bx b2 bz))) (!(coMeets x y z num den ax ay az g1 g2 g3))) (coErr x y z num den g1 g2 g3 bx b2 bz == 0)) (coErr x y z num den ax ay az g1 g2 g3 == 0))
def wMid (w1 w2 w3 : Int) : Tree Bool := no (wLast x y z num den ax ay az bx b2 bz (rdW w1 w2 w3 w1) (rdW w1 w2 w3 w2) (rdW w1 w2 w3 w3)) (dirErr w1 w2 w3 != 0)
def by13 (m : Int) : Int := (w64 m).tmod 13
def wEnd (M : Bool) (k j : Int) : Tree Bool := .node (w64 (k + j) == 0) (.leaf true) (.node M (.leaf true) (many (wMid x y z num den ax ay az bx b2 bz (wv k j ax bx) (wv k j ay b2) (wv k j az bz))))
theorem ways_end (e1 e2 : TypeId) (m n f1 f2 f3 f4 f5 f6 ln : Int) (M : Bool) (size : Nat) (hs : size = Tryz.f6.ntmps) :
    (endT Tryz.prog (tabOf tb_frame) Tryz.f6 (hpG e1 e2) (.exit 0, wo 2 e1 e2 x y z num den ax ay az bx b2 bz m n f1 f2 f3 f4 f5 f6 ln M size 13)).goes isTrue = (wEnd x y z num den ax ay az bx b2 bz M (by13 m) (by13 n)).goes id := by
  subst hs
  kernel_rfl
end
end Go.Ev
