/- Plain laws: what the program's checks, steps and holds come to is what the reference's do. Conditions: none, or the checks. -/
import Derived.Test.YtlpchgidkibbeaaGreatDoorLwd
namespace Go.Ev
open Go

/-! ### Acts -/
end Go.Ev
