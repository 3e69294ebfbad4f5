/- Names for what the laws on reflected rays compute. Conditions: none. -/
import Derived.Test.YtfdfpfojiilcgaaGreatDoorVec4
namespace Go.Ev
open Go

def no (t : Tree Bool) (b : Bool) : Tree Bool := .node b (.leaf false) t
def yes (t : Tree Bool) (b : Bool) : Tree Bool := .node b t (.leaf false)
section
variable (ax ay az bx b2 bz : Int)
def rfW (a b : Int) : Int := only0 (raysErr ax ay az bx b2 bz) (flR ax ay az bx b2 bz a b)
def rfE : Int := two0 (raysErr ax ay az bx b2 bz) (flErr ax ay az bx b2 bz)
def csS : Int := only0 (raysErr ax ay az bx b2 bz) (signW (dotW ax ay az bx b2 bz))
def csR (a : Int) : Int := only0 (raysErr ax ay az bx b2 bz) (rtW (coN ax ay az bx b2 bz) (coD ax ay az bx b2 bz) a)
def e2 (a b c d : Int) : Bool := (a == c) && ((b == d) && true)
end
end Go.Ev
