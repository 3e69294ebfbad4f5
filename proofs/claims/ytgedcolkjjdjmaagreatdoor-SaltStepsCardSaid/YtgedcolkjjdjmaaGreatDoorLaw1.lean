/- SaltSteps: the tree of its run. Conditions: the two variables that awake() reads. -/
import Derived.Test.YtgedcolkjjdjmaaGreatDoorLaw0
namespace Go.Ev
open Go Go.Proofs

section
variable (c l f r h k heat light flow : Int) (s act : ByteArray)
def lwOne : Int := firstZ [qrulesErr c l f r h k, qrecvErr s heat]
def lwTwo : Int := firstZ [lwOne c l f r h k heat s, qstepErr c light flow act]
/-- the comparisons -/
def lwEnd (tq hq three : Int) (ns : ByteArray) (out tk ls two : Int) : Tree Bool :=
  .node (rulesErr c l f r h k == qrulesErr c l f r h k) (.node (recvErr s heat == qrecvErr s heat)
    (.node ((match tE c l f r h k heat s != 0 with | true => 0 | false => degW c heat) == tq) (.node (tE c l f r h k heat s == lwOne c l f r h k heat s)
      (.node (((sif (pE c l f r h k heat light flow s act) (actNs s act)).toList == ns.toList) && (((zif (pE c l f r h k heat light flow s act) (outW c l k heat light flow)) == out) && true))
        (.node (((zif (pE c l f r h k heat light flow s act) (takenW c k heat flow)) == tk) && (((zif (pE c l f r h k heat light flow s act) (lostW l (heat1W c k heat light flow))) == ls) && true))
          (.node (pE c l f r h k heat light flow s act == two) (.node ((match hE c l f r h k heat s != 0 with | true => 0 | false => w64 ((spareW c f heat).tdiv l)) == hq) (.node (hE c l f r h k heat s == three) (.leaf true) (.leaf false)) (.leaf false)) (.leaf false)) (.leaf false)) (.leaf false)) (.leaf false)) (.leaf false)) (.leaf false)) (.leaf false)
def lwStep (tq hq three : Int) : Tree Bool := .node (lwTwo c l f r h k heat light flow s act == 0)
  (.need (!(c == 0)) (lwEnd c l f r h k heat light flow s act tq hq three (sif (qErr c l f r h k heat light flow s act) (afNs s act)) (zif (qErr c l f r h k heat light flow s act) (outT l (qH c k heat light flow s act))) (zif (qErr c l f r h k heat light flow s act) (qT c k heat flow s act)) (zif (qErr c l f r h k heat light flow s act) (lostW l (qH c k heat light flow s act))) (qErr c l f r h k heat light flow s act)))
  (lwEnd c l f r h k heat light flow s act tq hq three emptyB 0 0 0 (lwTwo c l f r h k heat light flow s act))
def lwT : Tree Bool := .node (decide ((s.size : Int) > 40)) (.leaf true) (.node (decide ((act.size : Int) > 40)) (.leaf true)
  (.node (lwOne c l f r h k heat s == 0) (.need (!(c == 0)) (.need (!(c == 0)) (lwStep c l f r h k heat light flow s act (degW c heat) (zif (qhE c f heat s (l == 0)) (w64 ((spareW c f heat).tdiv l))) (qhE c f heat s (l == 0)))))
    (lwStep c l f r h k heat light flow s act 0 0 (lwOne c l f r h k heat s))))
end
theorem law_tree (c l f r h k heat light flow : Int) (s act : ByteArray) : (preM Tryz.prog (tabOf tbA) Tryz.f3 (encA [.v 6, .sv 1, .sv 2] [c, l, f, r, h, k, heat, light, flow] [] [s, act]) hpS (false, false)).goes isTrue =
    (lwT c l f r h k heat light flow s act).goes id := by kernel_rfl
end Go.Ev
