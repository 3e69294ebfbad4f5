/- Suns between told ones, plain: where a tick lies, the cosines with both told suns, quotients in lowest terms. Conditions: as each says. -/
import Derived.Test.YtkalcencblhlgaaGreatDoorVec4
namespace Go.Ev
open Go
structure SkyOk (n : Nat) (g0 g1 g2 g3 : Nat → Int) : Prop where
 two : 2 ≤ n
 few : n ≤ 64
 tick : ∀ i, i < n → 0 ≤ g0 i ∧ g0 i ≤ 10000000
 inc : ∀ i, i + 1 < n → g0 i < g0 (i + 1) ∧ g0 (i + 1) ≤ g0 i + 200
 ray : ∀ i, i < n → Ray (g1 i) (g2 i) (g3 i)
 len : ∀ i, i < n → g1 i * g1 i + g2 i * g2 i + g3 i * g3 i = g1 0 * g1 0 + g2 0 * g2 0 + g3 0 * g3 0
section
variable {n : Nat} {g0 g1 g2 g3 : Nat → Int} (hs : SkyOk n g0 g1 g2 g3)
include hs
end
end Go.Ev
namespace Go.Ev
open Go
structure Spans where
 m : Nat
 F : Nat → Int
 T : Nat → Int
end Go.Ev
