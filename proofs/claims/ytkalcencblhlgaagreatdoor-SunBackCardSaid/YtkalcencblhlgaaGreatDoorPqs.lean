/- A sky's text, parsed by the reference. Conditions: none. (Turned from salt's.) -/
import Derived.Test.YtkalcencblhlgaaGreatDoorPsr
namespace Go.Ev
open Go Go.RowKit Go.Proofs
set_option maxRecDepth 100000
section
variable (vI : ByteArray → Int) (gI : ByteArray → Bool) (n : Nat) (F : Nat → ByteArray) (nm : ByteArray) (f0 f1 f2 f3 : Nat → Int) (lay : Option Nat) (i : Int) (N : Nat) (w : Nat → ByteArray)
end
section
variable (nS : ByteArray → UInt8 → Nat) (fS : ByteArray → UInt8 → Nat → ByteArray) (vI : ByteArray → Int) (gI : ByteArray → Bool) (E : FE) (s : ByteArray) (n : Nat) (F : Nat → ByteArray) (nm : ByteArray) (f0 f1 f2 f3 : Nat → Int)
end
structure GoodQ (s : ByteArray) (i : Nat) : Prop where
 le : i ≤ cntA s 10 + 1
 ok : ∀ j, j < i → j < cntA s 10 → lnOk s j = true
 last : i = cntA s 10 + 1 → ¬ beg s 10 0 (cntA s 10) < s.size
section
variable {s : ByteArray}
section
variable {i : Nat} (hg : GoodQ s i) (hi : i < cntA s 10) (hs : s.size ≤ 4096)
end
end
section
variable (nS : ByteArray → UInt8 → Nat) (fS : ByteArray → UInt8 → Nat → ByteArray) (vI : ByteArray → Int) (gI : ByteArray → Bool) (E : FE) (s : ByteArray)
end
end Go.Ev
