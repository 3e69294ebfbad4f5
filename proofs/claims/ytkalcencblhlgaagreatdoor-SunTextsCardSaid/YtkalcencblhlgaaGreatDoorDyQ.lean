/- Spans of ticks, one tick after the other, plain. Conditions: as each says. -/
import Derived.Test.YtkalcencblhlgaaGreatDoorDyP
namespace Go.Ev
open Go
structure Spans where
 m : Nat
 F : Nat → Int
 T : Nat → Int
end Go.Ev
