/- Entries: the sun at a tick, At, Risen, a sky's copy. Conditions: as the entries say. -/
import Derived.Test.YtkalcencblhlgaaGreatDoorCsk
import Derived.Test.YtkalcencblhlgaaGreatDoorDyP
namespace Go.Ev
open Go Go.Proofs
set_option maxRecDepth 100000
abbrev FV := Nat → (Nat → Int) → (Nat → Int) → (Nat → Int) → (Nat → Int) → Int → Int
abbrev FE := ByteArray → Nat → (Nat → Int) → (Nat → Int) → (Nat → Int) → (Nat → Int) → Int
section
variable (E : FE) (vx vy vz : FV)
end
section
variable (E : FE) (vx vy vz : FV) (nm : ByteArray) (n : Nat) (g0 g1 g2 g3 : Nat → Int) (t : Int)
end
end Go.Ev
