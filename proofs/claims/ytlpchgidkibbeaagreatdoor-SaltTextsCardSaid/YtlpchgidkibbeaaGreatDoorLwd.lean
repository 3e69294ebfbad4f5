/- Errors of arguments, as the laws put them together. Conditions: none. -/
import Derived.Test.YtlpchgidkibbeaaGreatDoorStp2
namespace Go.Ev
open Go Go.Proofs

section
variable (c l f r h k heat light flow : Int) (s act : ByteArray)
def lwOne : Int := firstZ [qrulesErr c l f r h k, qrecvErr s heat]
def lwTwo : Int := firstZ [lwOne c l f r h k heat s, qstepErr c light flow act]
end
end Go.Ev
