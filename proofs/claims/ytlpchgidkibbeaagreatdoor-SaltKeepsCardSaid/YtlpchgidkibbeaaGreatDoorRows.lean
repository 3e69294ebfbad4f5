/-
  NARROWER THAN 'FOR EVERY INPUT', by the rows' own cells (each row's printed sentence says how): SaltSure: laid · SaltStrain: laid · SaltTanks: laid · SaltMoves: laid · SaltParts: laid · SaltRuns: laid · SaltHolds: laid · SaltTexts: laid · SaltKeeps: laid.
  DERIVED. THE GIVEN ROWS OF THIS SEAT. 9 by the template 'for every input the law returns true; each argument reads behind the call as it read before'; 0 by the template 'total and deterministic' (their statements: YtlpchgidkibbeaaGreatDoorTotals.lean).
  GIVEN WITH THE SEED: the statements are not yours to turn. If you find one false, say at which input.
  Laid BY PROGRAM, IN A SANDBOX (cutbox-rows.mjs): the forced cells as the released guide's own fill.sh prints them over the translation 4fd04b1bb8386070… (all of the seat's roots in one cut). By AI agents, Wed Nov 11 2026. No macro, syntax, notation, axiom, sorry.
-/
import Derived.Test.YtlpchgidkibbeaaGreatDoorChecked
import GoSem.PinnedTables
import GoSem.Claim
import GoSem.ClaimJoined
import GoSem.ClaimMapViews
import Derived.JoinedTies
import Derived.KernelRfl
namespace Go.Proofs.YtlpchgidkibbeaaGreatDoor
/- THE CELL 'sum', in the pinned program and in every row, IS THE sha256 OF THE DUMP (.gsa) THAT YtlpchgidkibbeaaGreatDoorProg.lean LOADS. Nothing in Lean hashes anything: it is a label: what it is worth is what the hold of that sum in a sandbox is worth. -/
noncomputable def Tryz.pinned : Pinned := { name := "ytlpchgidkibbeaagreatdoor", sum := "4fd04b1bb8386070386e1059f3d9bf560d95b0811de2ac54267f951041440c6b", checked := Tryz.checked }
namespace Rows
def none {H : Type} : Left H := { results := [], args := [] }

/- WHAT THE LISTED PACKAGE-LEVEL VARIABLES READ AS WHEN THE CALL BEGINS. Each datum BY PROGRAM (the guide's laid-datum.mjs) off the statement by which the dump's own 'gosem.cut.vars' lays the variable. In a bare row this is a premise. The card (YtlpchgidkibbeaaGreatDoorCards.lean) ties it to the program's text. -/
def laid_math_bits_deBruijn32tab {H : Type} : DataW H := .agg [.lit (.int .u8 0), .lit (.int .u8 1), .lit (.int .u8 28), .lit (.int .u8 2), .lit (.int .u8 29), .lit (.int .u8 14), .lit (.int .u8 24), .lit (.int .u8 3), .lit (.int .u8 30), .lit (.int .u8 22), .lit (.int .u8 20), .lit (.int .u8 15), .lit (.int .u8 25), .lit (.int .u8 17), .lit (.int .u8 4), .lit (.int .u8 8), .lit (.int .u8 31), .lit (.int .u8 27), .lit (.int .u8 13), .lit (.int .u8 23), .lit (.int .u8 21), .lit (.int .u8 19), .lit (.int .u8 16), .lit (.int .u8 7), .lit (.int .u8 26), .lit (.int .u8 12), .lit (.int .u8 18), .lit (.int .u8 6), .lit (.int .u8 11), .lit (.int .u8 5), .lit (.int .u8 10), .lit (.int .u8 9)]
def laid_math_bits_deBruijn64tab {H : Type} : DataW H := .agg [.lit (.int .u8 0), .lit (.int .u8 1), .lit (.int .u8 56), .lit (.int .u8 2), .lit (.int .u8 57), .lit (.int .u8 49), .lit (.int .u8 28), .lit (.int .u8 3), .lit (.int .u8 61), .lit (.int .u8 58), .lit (.int .u8 42), .lit (.int .u8 50), .lit (.int .u8 38), .lit (.int .u8 29), .lit (.int .u8 17), .lit (.int .u8 4), .lit (.int .u8 62), .lit (.int .u8 47), .lit (.int .u8 59), .lit (.int .u8 36), .lit (.int .u8 45), .lit (.int .u8 43), .lit (.int .u8 51), .lit (.int .u8 22), .lit (.int .u8 53), .lit (.int .u8 39), .lit (.int .u8 33), .lit (.int .u8 30), .lit (.int .u8 24), .lit (.int .u8 18), .lit (.int .u8 12), .lit (.int .u8 5), .lit (.int .u8 63), .lit (.int .u8 55), .lit (.int .u8 48), .lit (.int .u8 27), .lit (.int .u8 60), .lit (.int .u8 41), .lit (.int .u8 37), .lit (.int .u8 16), .lit (.int .u8 46), .lit (.int .u8 35), .lit (.int .u8 44), .lit (.int .u8 21), .lit (.int .u8 52), .lit (.int .u8 32), .lit (.int .u8 23), .lit (.int .u8 11), .lit (.int .u8 54), .lit (.int .u8 26), .lit (.int .u8 40), .lit (.int .u8 15), .lit (.int .u8 34), .lit (.int .u8 20), .lit (.int .u8 31), .lit (.int .u8 10), .lit (.int .u8 25), .lit (.int .u8 14), .lit (.int .u8 19), .lit (.int .u8 9), .lit (.int .u8 13), .lit (.int .u8 8), .lit (.int .u8 7), .lit (.int .u8 6)]
def laid_internal_strconv_uint64pow10 {H : Type} : DataW H := .agg [.lit (.int .u64 1), .lit (.int .u64 10), .lit (.int .u64 100), .lit (.int .u64 1000), .lit (.int .u64 10000), .lit (.int .u64 100000), .lit (.int .u64 1000000), .lit (.int .u64 10000000), .lit (.int .u64 100000000), .lit (.int .u64 1000000000), .lit (.int .u64 10000000000), .lit (.int .u64 100000000000), .lit (.int .u64 1000000000000), .lit (.int .u64 10000000000000), .lit (.int .u64 100000000000000), .lit (.int .u64 1000000000000000), .lit (.int .u64 10000000000000000), .lit (.int .u64 100000000000000000), .lit (.int .u64 1000000000000000000), .lit (.int .u64 10000000000000000000)]
def laid_spillage_salt_acts {H : Type} : DataW H := .iface "func table" (.agg [.agg [.lit (.string [119, 97, 105, 116]), .iface "func" (.lit (.string [115, 112, 105, 108, 108, 97, 103, 101, 47, 115, 97, 108, 116, 46, 115, 116, 97, 121])), .iface "func" (.lit (.string [115, 112, 105, 108, 108, 97, 103, 101, 47, 115, 97, 108, 116, 46, 97, 108, 119, 97, 121, 115]))], .agg [.lit (.string [102, 105, 108, 108]), .iface "func" (.lit (.string [115, 112, 105, 108, 108, 97, 103, 101, 47, 115, 97, 108, 116, 46, 102, 105, 108, 108])), .iface "func" (.lit (.string [115, 112, 105, 108, 108, 97, 103, 101, 47, 115, 97, 108, 116, 46, 114, 101, 97, 100, 121]))], .agg [.lit (.string [100, 114, 97, 105, 110]), .iface "func" (.lit (.string [115, 112, 105, 108, 108, 97, 103, 101, 47, 115, 97, 108, 116, 46, 100, 114, 97, 105, 110])), .iface "func" (.lit (.string [115, 112, 105, 108, 108, 97, 103, 101, 47, 115, 97, 108, 116, 46, 97, 108, 119, 97, 121, 115]))], .agg [.lit (.string [115, 116, 97, 114, 116]), .iface "func" (.lit (.string [115, 112, 105, 108, 108, 97, 103, 101, 47, 115, 97, 108, 116, 46, 115, 116, 97, 114, 116])), .iface "func" (.lit (.string [115, 112, 105, 108, 108, 97, 103, 101, 47, 115, 97, 108, 116, 46, 97, 108, 119, 97, 121, 115]))], .agg [.lit (.string [115, 116, 111, 112]), .iface "func" (.lit (.string [115, 112, 105, 108, 108, 97, 103, 101, 47, 115, 97, 108, 116, 46, 115, 116, 111, 112])), .iface "func" (.lit (.string [115, 112, 105, 108, 108, 97, 103, 101, 47, 115, 97, 108, 116, 46, 97, 108, 119, 97, 121, 115]))]])
def laid_unicode_utf8_acceptRanges {H : Type} : DataW H := .agg [.agg [.lit (.int .u8 128), .lit (.int .u8 191)], .agg [.lit (.int .u8 160), .lit (.int .u8 191)], .agg [.lit (.int .u8 128), .lit (.int .u8 159)], .agg [.lit (.int .u8 144), .lit (.int .u8 191)], .agg [.lit (.int .u8 128), .lit (.int .u8 143)], .agg [.lit (.int .u8 0), .lit (.int .u8 0)], .agg [.lit (.int .u8 0), .lit (.int .u8 0)], .agg [.lit (.int .u8 0), .lit (.int .u8 0)], .agg [.lit (.int .u8 0), .lit (.int .u8 0)], .agg [.lit (.int .u8 0), .lit (.int .u8 0)], .agg [.lit (.int .u8 0), .lit (.int .u8 0)], .agg [.lit (.int .u8 0), .lit (.int .u8 0)], .agg [.lit (.int .u8 0), .lit (.int .u8 0)], .agg [.lit (.int .u8 0), .lit (.int .u8 0)], .agg [.lit (.int .u8 0), .lit (.int .u8 0)], .agg [.lit (.int .u8 0), .lit (.int .u8 0)]]
/-- One of Go's own tables, pinned by name: the form's constant. -/
def laid_unicode_utf8_first : DataW Unit := Go.Pinned.utf8First

/-- 'spillagelaw08.SaltSure': WHATEVER THE INPUT: true; the input reads as it did. -/
def saltSureSpec : ChangeSpec := { name := "saltSure", fn := fun _ => fun
  | [d1, d2, d3] => { results := [.lit (.bool true)], args := [d1, d2, d3] }
  | _ => none }
def saltSureRow : OpenClaim := { program := "ytlpchgidkibbeaagreatdoor", sum := "4fd04b1bb8386070386e1059f3d9bf560d95b0811de2ac54267f951041440c6b", func := "spillage/spillagelaw08.SaltSure", spec := "saltSure", inPlace := ["slices.overlaps[spillage/salt.Layer]", "internal/abi.NoEscape", "internal/bytealg.MakeNoZero"], unfollowed := true, recurses := true, named := ["spillage/salt.acts", "internal/strconv.uint64pow10", "math/bits.deBruijn32tab", "math/bits.deBruijn64tab"], apart := false, laid := [("math/bits.deBruijn32tab", laid_math_bits_deBruijn32tab), ("math/bits.deBruijn64tab", laid_math_bits_deBruijn64tab), ("internal/strconv.uint64pow10", laid_internal_strconv_uint64pow10), ("spillage/salt.acts", laid_spillage_salt_acts)] }
def SaltSureSaid : Prop := saltSureRow.holds Tryz.pinned (OpenSpec.ofChange saltSureSpec)

/-- ITS FALSE NEIGHBOUR: 'it returns false'. Refute it at one input. -/
def saltSureWrong : ChangeSpec := { name := "saltSure", fn := fun _ => fun
  | [d1, d2, d3] => { results := [.lit (.bool false)], args := [d1, d2, d3] }
  | _ => none }
def SaltSureWrongFalsely : Prop := saltSureRow.holds Tryz.pinned (OpenSpec.ofChange saltSureWrong)

/-- 'spillagelaw08.SaltStrain': WHATEVER THE INPUT: true; the input reads as it did. -/
def saltStrainSpec : ChangeSpec := { name := "saltStrain", fn := fun _ => fun
  | [d1, d2, d3] => { results := [.lit (.bool true)], args := [d1, d2, d3] }
  | _ => none }
def saltStrainRow : OpenClaim := { program := "ytlpchgidkibbeaagreatdoor", sum := "4fd04b1bb8386070386e1059f3d9bf560d95b0811de2ac54267f951041440c6b", func := "spillage/spillagelaw08.SaltStrain", spec := "saltStrain", inPlace := ["slices.overlaps[spillage/salt.Layer]", "internal/abi.NoEscape", "internal/bytealg.MakeNoZero"], unfollowed := true, recurses := true, named := ["spillage/salt.acts", "internal/strconv.uint64pow10", "math/bits.deBruijn32tab", "math/bits.deBruijn64tab"], apart := false, laid := [("math/bits.deBruijn32tab", laid_math_bits_deBruijn32tab), ("math/bits.deBruijn64tab", laid_math_bits_deBruijn64tab), ("internal/strconv.uint64pow10", laid_internal_strconv_uint64pow10), ("spillage/salt.acts", laid_spillage_salt_acts)] }
def SaltStrainSaid : Prop := saltStrainRow.holds Tryz.pinned (OpenSpec.ofChange saltStrainSpec)

/-- ITS FALSE NEIGHBOUR: 'it returns false'. Refute it at one input. -/
def saltStrainWrong : ChangeSpec := { name := "saltStrain", fn := fun _ => fun
  | [d1, d2, d3] => { results := [.lit (.bool false)], args := [d1, d2, d3] }
  | _ => none }
def SaltStrainWrongFalsely : Prop := saltStrainRow.holds Tryz.pinned (OpenSpec.ofChange saltStrainWrong)

/-- 'spillagelaw08.SaltTanks': WHATEVER THE INPUT: true; the input reads as it did. -/
def saltTanksSpec : ChangeSpec := { name := "saltTanks", fn := fun _ => fun
  | [d1, d2, d3] => { results := [.lit (.bool true)], args := [d1, d2, d3] }
  | _ => none }
def saltTanksRow : OpenClaim := { program := "ytlpchgidkibbeaagreatdoor", sum := "4fd04b1bb8386070386e1059f3d9bf560d95b0811de2ac54267f951041440c6b", func := "spillage/spillagelaw08.SaltTanks", spec := "saltTanks", inPlace := ["slices.overlaps[spillage/salt.Layer]", "internal/abi.NoEscape", "internal/bytealg.MakeNoZero"], unfollowed := true, recurses := true, named := ["spillage/salt.acts", "internal/strconv.uint64pow10", "math/bits.deBruijn32tab", "math/bits.deBruijn64tab"], apart := false, laid := [("math/bits.deBruijn32tab", laid_math_bits_deBruijn32tab), ("math/bits.deBruijn64tab", laid_math_bits_deBruijn64tab), ("internal/strconv.uint64pow10", laid_internal_strconv_uint64pow10), ("spillage/salt.acts", laid_spillage_salt_acts)] }
def SaltTanksSaid : Prop := saltTanksRow.holds Tryz.pinned (OpenSpec.ofChange saltTanksSpec)

/-- ITS FALSE NEIGHBOUR: 'it returns false'. Refute it at one input. -/
def saltTanksWrong : ChangeSpec := { name := "saltTanks", fn := fun _ => fun
  | [d1, d2, d3] => { results := [.lit (.bool false)], args := [d1, d2, d3] }
  | _ => none }
def SaltTanksWrongFalsely : Prop := saltTanksRow.holds Tryz.pinned (OpenSpec.ofChange saltTanksWrong)

/-- 'spillagelaw08.SaltMoves': WHATEVER THE INPUT: true; the input reads as it did. -/
def saltMovesSpec : ChangeSpec := { name := "saltMoves", fn := fun _ => fun
  | [d1, d2, d3] => { results := [.lit (.bool true)], args := [d1, d2, d3] }
  | _ => none }
def saltMovesRow : OpenClaim := { program := "ytlpchgidkibbeaagreatdoor", sum := "4fd04b1bb8386070386e1059f3d9bf560d95b0811de2ac54267f951041440c6b", func := "spillage/spillagelaw08.SaltMoves", spec := "saltMoves", inPlace := ["slices.overlaps[spillage/salt.Layer]", "internal/abi.NoEscape", "internal/bytealg.MakeNoZero"], unfollowed := true, recurses := true, named := ["spillage/salt.acts", "internal/strconv.uint64pow10", "math/bits.deBruijn32tab", "math/bits.deBruijn64tab"], apart := false, laid := [("math/bits.deBruijn32tab", laid_math_bits_deBruijn32tab), ("math/bits.deBruijn64tab", laid_math_bits_deBruijn64tab), ("internal/strconv.uint64pow10", laid_internal_strconv_uint64pow10), ("spillage/salt.acts", laid_spillage_salt_acts)] }
def SaltMovesSaid : Prop := saltMovesRow.holds Tryz.pinned (OpenSpec.ofChange saltMovesSpec)

/-- ITS FALSE NEIGHBOUR: 'it returns false'. Refute it at one input. -/
def saltMovesWrong : ChangeSpec := { name := "saltMoves", fn := fun _ => fun
  | [d1, d2, d3] => { results := [.lit (.bool false)], args := [d1, d2, d3] }
  | _ => none }
def SaltMovesWrongFalsely : Prop := saltMovesRow.holds Tryz.pinned (OpenSpec.ofChange saltMovesWrong)

/-- 'spillagelaw08.SaltParts': WHATEVER THE INPUT: true; the input reads as it did. -/
def saltPartsSpec : ChangeSpec := { name := "saltParts", fn := fun _ => fun
  | [d1, d2, d3] => { results := [.lit (.bool true)], args := [d1, d2, d3] }
  | _ => none }
def saltPartsRow : OpenClaim := { program := "ytlpchgidkibbeaagreatdoor", sum := "4fd04b1bb8386070386e1059f3d9bf560d95b0811de2ac54267f951041440c6b", func := "spillage/spillagelaw08.SaltParts", spec := "saltParts", inPlace := ["slices.overlaps[spillage/salt.Layer]", "internal/abi.NoEscape", "internal/bytealg.MakeNoZero"], unfollowed := true, recurses := true, named := ["spillage/salt.acts", "internal/strconv.uint64pow10", "math/bits.deBruijn32tab", "math/bits.deBruijn64tab"], apart := false, laid := [("math/bits.deBruijn32tab", laid_math_bits_deBruijn32tab), ("math/bits.deBruijn64tab", laid_math_bits_deBruijn64tab), ("internal/strconv.uint64pow10", laid_internal_strconv_uint64pow10), ("spillage/salt.acts", laid_spillage_salt_acts)] }
def SaltPartsSaid : Prop := saltPartsRow.holds Tryz.pinned (OpenSpec.ofChange saltPartsSpec)

/-- ITS FALSE NEIGHBOUR: 'it returns false'. Refute it at one input. -/
def saltPartsWrong : ChangeSpec := { name := "saltParts", fn := fun _ => fun
  | [d1, d2, d3] => { results := [.lit (.bool false)], args := [d1, d2, d3] }
  | _ => none }
def SaltPartsWrongFalsely : Prop := saltPartsRow.holds Tryz.pinned (OpenSpec.ofChange saltPartsWrong)

/-- 'spillagelaw08.SaltRuns': WHATEVER THE INPUT: true; the input reads as it did. -/
def saltRunsSpec : ChangeSpec := { name := "saltRuns", fn := fun _ => fun
  | [d1, d2, d3] => { results := [.lit (.bool true)], args := [d1, d2, d3] }
  | _ => none }
def saltRunsRow : OpenClaim := { program := "ytlpchgidkibbeaagreatdoor", sum := "4fd04b1bb8386070386e1059f3d9bf560d95b0811de2ac54267f951041440c6b", func := "spillage/spillagelaw08.SaltRuns", spec := "saltRuns", inPlace := ["slices.overlaps[spillage/salt.Layer]", "internal/abi.NoEscape", "internal/bytealg.MakeNoZero"], unfollowed := true, recurses := true, named := ["spillage/salt.acts", "internal/strconv.uint64pow10", "math/bits.deBruijn32tab", "math/bits.deBruijn64tab"], apart := false, laid := [("math/bits.deBruijn32tab", laid_math_bits_deBruijn32tab), ("math/bits.deBruijn64tab", laid_math_bits_deBruijn64tab), ("internal/strconv.uint64pow10", laid_internal_strconv_uint64pow10), ("spillage/salt.acts", laid_spillage_salt_acts)] }
def SaltRunsSaid : Prop := saltRunsRow.holds Tryz.pinned (OpenSpec.ofChange saltRunsSpec)

/-- ITS FALSE NEIGHBOUR: 'it returns false'. Refute it at one input. -/
def saltRunsWrong : ChangeSpec := { name := "saltRuns", fn := fun _ => fun
  | [d1, d2, d3] => { results := [.lit (.bool false)], args := [d1, d2, d3] }
  | _ => none }
def SaltRunsWrongFalsely : Prop := saltRunsRow.holds Tryz.pinned (OpenSpec.ofChange saltRunsWrong)

/-- 'spillagelaw08.SaltHolds': WHATEVER THE INPUT: true; the input reads as it did. -/
def saltHoldsSpec : ChangeSpec := { name := "saltHolds", fn := fun _ => fun
  | [d1, d2, d3] => { results := [.lit (.bool true)], args := [d1, d2, d3] }
  | _ => none }
def saltHoldsRow : OpenClaim := { program := "ytlpchgidkibbeaagreatdoor", sum := "4fd04b1bb8386070386e1059f3d9bf560d95b0811de2ac54267f951041440c6b", func := "spillage/spillagelaw08.SaltHolds", spec := "saltHolds", inPlace := ["slices.overlaps[spillage/salt.Layer]", "internal/abi.NoEscape", "internal/bytealg.MakeNoZero"], unfollowed := true, recurses := true, named := ["spillage/salt.acts", "internal/strconv.uint64pow10", "math/bits.deBruijn32tab", "math/bits.deBruijn64tab"], apart := false, laid := [("math/bits.deBruijn32tab", laid_math_bits_deBruijn32tab), ("math/bits.deBruijn64tab", laid_math_bits_deBruijn64tab), ("internal/strconv.uint64pow10", laid_internal_strconv_uint64pow10), ("spillage/salt.acts", laid_spillage_salt_acts)] }
def SaltHoldsSaid : Prop := saltHoldsRow.holds Tryz.pinned (OpenSpec.ofChange saltHoldsSpec)

/-- ITS FALSE NEIGHBOUR: 'it returns false'. Refute it at one input. -/
def saltHoldsWrong : ChangeSpec := { name := "saltHolds", fn := fun _ => fun
  | [d1, d2, d3] => { results := [.lit (.bool false)], args := [d1, d2, d3] }
  | _ => none }
def SaltHoldsWrongFalsely : Prop := saltHoldsRow.holds Tryz.pinned (OpenSpec.ofChange saltHoldsWrong)

/-- 'spillagelaw08.SaltTexts': WHATEVER THE INPUT: true; the input reads as it did. -/
def saltTextsSpec : ChangeSpec := { name := "saltTexts", fn := fun _ => fun
  | [d1, d2] => { results := [.lit (.bool true)], args := [d1, d2] }
  | _ => none }
def saltTextsRow : OpenClaim := { program := "ytlpchgidkibbeaagreatdoor", sum := "4fd04b1bb8386070386e1059f3d9bf560d95b0811de2ac54267f951041440c6b", func := "spillage/spillagelaw08.SaltTexts", spec := "saltTexts", inPlace := ["slices.overlaps[spillage/salt.Layer]", "internal/abi.NoEscape", "internal/bytealg.MakeNoZero", "internal/bytealg.IndexByteString", "internal/bytealg.CountString", "internal/bytealg.IndexString"], unfollowed := true, recurses := true, named := ["spillage/salt.acts", "internal/strconv.uint64pow10", "math/bits.deBruijn32tab", "math/bits.deBruijn64tab", "unicode/utf8.first", "unicode/utf8.acceptRanges", "internal/bytealg.MaxLen"], apart := false, laid := [("math/bits.deBruijn32tab", laid_math_bits_deBruijn32tab), ("math/bits.deBruijn64tab", laid_math_bits_deBruijn64tab), ("internal/strconv.uint64pow10", laid_internal_strconv_uint64pow10), ("unicode/utf8.acceptRanges", laid_unicode_utf8_acceptRanges), ("spillage/salt.acts", laid_spillage_salt_acts), ("unicode/utf8.first", laid_unicode_utf8_first)] }
def SaltTextsSaid : Prop := saltTextsRow.holds Tryz.pinned (OpenSpec.ofChange saltTextsSpec)

/-- ITS FALSE NEIGHBOUR: 'it returns false'. Refute it at one input. -/
def saltTextsWrong : ChangeSpec := { name := "saltTexts", fn := fun _ => fun
  | [d1, d2] => { results := [.lit (.bool false)], args := [d1, d2] }
  | _ => none }
def SaltTextsWrongFalsely : Prop := saltTextsRow.holds Tryz.pinned (OpenSpec.ofChange saltTextsWrong)

/-- 'spillagelaw08.SaltKeeps': WHATEVER THE INPUT: true; the input reads as it did. -/
def saltKeepsSpec : ChangeSpec := { name := "saltKeeps", fn := fun _ => fun
  | [d1, d2, d3] => { results := [.lit (.bool true)], args := [d1, d2, d3] }
  | _ => none }
def saltKeepsRow : OpenClaim := { program := "ytlpchgidkibbeaagreatdoor", sum := "4fd04b1bb8386070386e1059f3d9bf560d95b0811de2ac54267f951041440c6b", func := "spillage/spillagelaw08.SaltKeeps", spec := "saltKeeps", inPlace := ["slices.overlaps[spillage/salt.Layer]", "internal/abi.NoEscape", "internal/bytealg.MakeNoZero", "internal/bytealg.IndexByteString", "internal/bytealg.CountString", "internal/bytealg.IndexString"], unfollowed := true, recurses := true, named := ["spillage/salt.acts", "internal/strconv.uint64pow10", "math/bits.deBruijn32tab", "math/bits.deBruijn64tab", "unicode/utf8.first", "unicode/utf8.acceptRanges", "internal/bytealg.MaxLen"], apart := false, laid := [("math/bits.deBruijn32tab", laid_math_bits_deBruijn32tab), ("math/bits.deBruijn64tab", laid_math_bits_deBruijn64tab), ("internal/strconv.uint64pow10", laid_internal_strconv_uint64pow10), ("unicode/utf8.acceptRanges", laid_unicode_utf8_acceptRanges), ("spillage/salt.acts", laid_spillage_salt_acts), ("unicode/utf8.first", laid_unicode_utf8_first)] }
def SaltKeepsSaid : Prop := saltKeepsRow.holds Tryz.pinned (OpenSpec.ofChange saltKeepsSpec)

/-- ITS FALSE NEIGHBOUR: 'it returns false'. Refute it at one input. -/
def saltKeepsWrong : ChangeSpec := { name := "saltKeeps", fn := fun _ => fun
  | [d1, d2, d3] => { results := [.lit (.bool false)], args := [d1, d2, d3] }
  | _ => none }
def SaltKeepsWrongFalsely : Prop := saltKeepsRow.holds Tryz.pinned (OpenSpec.ofChange saltKeepsWrong)

/- THE SECOND FORM. 'bulk': how many values and letters a reading holds, each counted each time it is reached (what is shared counts as often as it is met; a slice's spare places count too). A statement '..UptoSaid' is the law's where the arguments, and the package variables that the reading takes, are together of bulk at most 1048576: NARROWER than '..Said'. Prove '..Said' where nothing that the law and all that it calls make is longer than what came in: it says more and counts as full. Else prove '..UptoSaid'. A law counts once. -/
mutual
def uptoBulk {H : Type} : DataW H → Nat
  | .lit (.string bytes) => bytes.length + 1
  | .lit _ => 1
  | .nil => 1
  | .ptr d => uptoBulk d + 1
  | .slice elems spare => uptoBulkAll elems + uptoBulkAll spare + 1
  | .agg parts => uptoBulkAll parts + 1
  | .iface _ d => uptoBulk d + 1
  | .map entries => uptoBulkEntries entries + 1
  | .held _ => 1
def uptoBulkAll {H : Type} : List (DataW H) → Nat
  | [] => 0
  | d :: r => uptoBulk d + uptoBulkAll r
def uptoBulkEntries {H : Type} : List (Lit × DataW H) → Nat
  | [] => 0
  | x :: r => uptoBulkEntry x + uptoBulkEntries r
def uptoBulkEntry {H : Type} : Lit × DataW H → Nat
  | (.string bytes, d) => bytes.length + uptoBulk d + 1
  | (_, d) => uptoBulk d + 1
 end
def uptoSmall : (H : Type) → List (DataW H) → Bool := fun _ ds => decide (uptoBulkAll ds ≤ 1048576)
def OpenSpec.upto (s : _root_.Go.ChangeSpec) : _root_.Go.OpenSpec := { _root_.Go.OpenSpec.ofChange s with cond := some uptoSmall }

/-- 'spillagelaw08.SaltSure', WHERE WHAT IT READS IS OF BULK AT MOST 1048576: true; the input reads as it did. -/
def saltSureUptoRow : OpenClaim := { program := "ytlpchgidkibbeaagreatdoor", sum := "4fd04b1bb8386070386e1059f3d9bf560d95b0811de2ac54267f951041440c6b", func := "spillage/spillagelaw08.SaltSure", spec := "saltSure", inPlace := ["slices.overlaps[spillage/salt.Layer]", "internal/abi.NoEscape", "internal/bytealg.MakeNoZero"], unfollowed := true, recurses := true, named := ["spillage/salt.acts", "internal/strconv.uint64pow10", "math/bits.deBruijn32tab", "math/bits.deBruijn64tab"], apart := false, laid := [("math/bits.deBruijn32tab", laid_math_bits_deBruijn32tab), ("math/bits.deBruijn64tab", laid_math_bits_deBruijn64tab), ("internal/strconv.uint64pow10", laid_internal_strconv_uint64pow10), ("spillage/salt.acts", laid_spillage_salt_acts)], narrowed := true }
def SaltSureUptoSaid : Prop := saltSureUptoRow.holds Tryz.pinned (OpenSpec.upto saltSureSpec)

/-- 'spillagelaw08.SaltStrain', WHERE WHAT IT READS IS OF BULK AT MOST 1048576: true; the input reads as it did. -/
def saltStrainUptoRow : OpenClaim := { program := "ytlpchgidkibbeaagreatdoor", sum := "4fd04b1bb8386070386e1059f3d9bf560d95b0811de2ac54267f951041440c6b", func := "spillage/spillagelaw08.SaltStrain", spec := "saltStrain", inPlace := ["slices.overlaps[spillage/salt.Layer]", "internal/abi.NoEscape", "internal/bytealg.MakeNoZero"], unfollowed := true, recurses := true, named := ["spillage/salt.acts", "internal/strconv.uint64pow10", "math/bits.deBruijn32tab", "math/bits.deBruijn64tab"], apart := false, laid := [("math/bits.deBruijn32tab", laid_math_bits_deBruijn32tab), ("math/bits.deBruijn64tab", laid_math_bits_deBruijn64tab), ("internal/strconv.uint64pow10", laid_internal_strconv_uint64pow10), ("spillage/salt.acts", laid_spillage_salt_acts)], narrowed := true }
def SaltStrainUptoSaid : Prop := saltStrainUptoRow.holds Tryz.pinned (OpenSpec.upto saltStrainSpec)

/-- 'spillagelaw08.SaltTanks', WHERE WHAT IT READS IS OF BULK AT MOST 1048576: true; the input reads as it did. -/
def saltTanksUptoRow : OpenClaim := { program := "ytlpchgidkibbeaagreatdoor", sum := "4fd04b1bb8386070386e1059f3d9bf560d95b0811de2ac54267f951041440c6b", func := "spillage/spillagelaw08.SaltTanks", spec := "saltTanks", inPlace := ["slices.overlaps[spillage/salt.Layer]", "internal/abi.NoEscape", "internal/bytealg.MakeNoZero"], unfollowed := true, recurses := true, named := ["spillage/salt.acts", "internal/strconv.uint64pow10", "math/bits.deBruijn32tab", "math/bits.deBruijn64tab"], apart := false, laid := [("math/bits.deBruijn32tab", laid_math_bits_deBruijn32tab), ("math/bits.deBruijn64tab", laid_math_bits_deBruijn64tab), ("internal/strconv.uint64pow10", laid_internal_strconv_uint64pow10), ("spillage/salt.acts", laid_spillage_salt_acts)], narrowed := true }
def SaltTanksUptoSaid : Prop := saltTanksUptoRow.holds Tryz.pinned (OpenSpec.upto saltTanksSpec)

/-- 'spillagelaw08.SaltMoves', WHERE WHAT IT READS IS OF BULK AT MOST 1048576: true; the input reads as it did. -/
def saltMovesUptoRow : OpenClaim := { program := "ytlpchgidkibbeaagreatdoor", sum := "4fd04b1bb8386070386e1059f3d9bf560d95b0811de2ac54267f951041440c6b", func := "spillage/spillagelaw08.SaltMoves", spec := "saltMoves", inPlace := ["slices.overlaps[spillage/salt.Layer]", "internal/abi.NoEscape", "internal/bytealg.MakeNoZero"], unfollowed := true, recurses := true, named := ["spillage/salt.acts", "internal/strconv.uint64pow10", "math/bits.deBruijn32tab", "math/bits.deBruijn64tab"], apart := false, laid := [("math/bits.deBruijn32tab", laid_math_bits_deBruijn32tab), ("math/bits.deBruijn64tab", laid_math_bits_deBruijn64tab), ("internal/strconv.uint64pow10", laid_internal_strconv_uint64pow10), ("spillage/salt.acts", laid_spillage_salt_acts)], narrowed := true }
def SaltMovesUptoSaid : Prop := saltMovesUptoRow.holds Tryz.pinned (OpenSpec.upto saltMovesSpec)

/-- 'spillagelaw08.SaltParts', WHERE WHAT IT READS IS OF BULK AT MOST 1048576: true; the input reads as it did. -/
def saltPartsUptoRow : OpenClaim := { program := "ytlpchgidkibbeaagreatdoor", sum := "4fd04b1bb8386070386e1059f3d9bf560d95b0811de2ac54267f951041440c6b", func := "spillage/spillagelaw08.SaltParts", spec := "saltParts", inPlace := ["slices.overlaps[spillage/salt.Layer]", "internal/abi.NoEscape", "internal/bytealg.MakeNoZero"], unfollowed := true, recurses := true, named := ["spillage/salt.acts", "internal/strconv.uint64pow10", "math/bits.deBruijn32tab", "math/bits.deBruijn64tab"], apart := false, laid := [("math/bits.deBruijn32tab", laid_math_bits_deBruijn32tab), ("math/bits.deBruijn64tab", laid_math_bits_deBruijn64tab), ("internal/strconv.uint64pow10", laid_internal_strconv_uint64pow10), ("spillage/salt.acts", laid_spillage_salt_acts)], narrowed := true }
def SaltPartsUptoSaid : Prop := saltPartsUptoRow.holds Tryz.pinned (OpenSpec.upto saltPartsSpec)

/-- 'spillagelaw08.SaltRuns', WHERE WHAT IT READS IS OF BULK AT MOST 1048576: true; the input reads as it did. -/
def saltRunsUptoRow : OpenClaim := { program := "ytlpchgidkibbeaagreatdoor", sum := "4fd04b1bb8386070386e1059f3d9bf560d95b0811de2ac54267f951041440c6b", func := "spillage/spillagelaw08.SaltRuns", spec := "saltRuns", inPlace := ["slices.overlaps[spillage/salt.Layer]", "internal/abi.NoEscape", "internal/bytealg.MakeNoZero"], unfollowed := true, recurses := true, named := ["spillage/salt.acts", "internal/strconv.uint64pow10", "math/bits.deBruijn32tab", "math/bits.deBruijn64tab"], apart := false, laid := [("math/bits.deBruijn32tab", laid_math_bits_deBruijn32tab), ("math/bits.deBruijn64tab", laid_math_bits_deBruijn64tab), ("internal/strconv.uint64pow10", laid_internal_strconv_uint64pow10), ("spillage/salt.acts", laid_spillage_salt_acts)], narrowed := true }
def SaltRunsUptoSaid : Prop := saltRunsUptoRow.holds Tryz.pinned (OpenSpec.upto saltRunsSpec)

/-- 'spillagelaw08.SaltHolds', WHERE WHAT IT READS IS OF BULK AT MOST 1048576: true; the input reads as it did. -/
def saltHoldsUptoRow : OpenClaim := { program := "ytlpchgidkibbeaagreatdoor", sum := "4fd04b1bb8386070386e1059f3d9bf560d95b0811de2ac54267f951041440c6b", func := "spillage/spillagelaw08.SaltHolds", spec := "saltHolds", inPlace := ["slices.overlaps[spillage/salt.Layer]", "internal/abi.NoEscape", "internal/bytealg.MakeNoZero"], unfollowed := true, recurses := true, named := ["spillage/salt.acts", "internal/strconv.uint64pow10", "math/bits.deBruijn32tab", "math/bits.deBruijn64tab"], apart := false, laid := [("math/bits.deBruijn32tab", laid_math_bits_deBruijn32tab), ("math/bits.deBruijn64tab", laid_math_bits_deBruijn64tab), ("internal/strconv.uint64pow10", laid_internal_strconv_uint64pow10), ("spillage/salt.acts", laid_spillage_salt_acts)], narrowed := true }
def SaltHoldsUptoSaid : Prop := saltHoldsUptoRow.holds Tryz.pinned (OpenSpec.upto saltHoldsSpec)

/-- 'spillagelaw08.SaltTexts', WHERE WHAT IT READS IS OF BULK AT MOST 1048576: true; the input reads as it did. -/
def saltTextsUptoRow : OpenClaim := { program := "ytlpchgidkibbeaagreatdoor", sum := "4fd04b1bb8386070386e1059f3d9bf560d95b0811de2ac54267f951041440c6b", func := "spillage/spillagelaw08.SaltTexts", spec := "saltTexts", inPlace := ["slices.overlaps[spillage/salt.Layer]", "internal/abi.NoEscape", "internal/bytealg.MakeNoZero", "internal/bytealg.IndexByteString", "internal/bytealg.CountString", "internal/bytealg.IndexString"], unfollowed := true, recurses := true, named := ["spillage/salt.acts", "internal/strconv.uint64pow10", "math/bits.deBruijn32tab", "math/bits.deBruijn64tab", "unicode/utf8.first", "unicode/utf8.acceptRanges", "internal/bytealg.MaxLen"], apart := false, laid := [("math/bits.deBruijn32tab", laid_math_bits_deBruijn32tab), ("math/bits.deBruijn64tab", laid_math_bits_deBruijn64tab), ("internal/strconv.uint64pow10", laid_internal_strconv_uint64pow10), ("unicode/utf8.acceptRanges", laid_unicode_utf8_acceptRanges), ("spillage/salt.acts", laid_spillage_salt_acts), ("unicode/utf8.first", laid_unicode_utf8_first)], narrowed := true }
def SaltTextsUptoSaid : Prop := saltTextsUptoRow.holds Tryz.pinned (OpenSpec.upto saltTextsSpec)

/-- 'spillagelaw08.SaltKeeps', WHERE WHAT IT READS IS OF BULK AT MOST 1048576: true; the input reads as it did. -/
def saltKeepsUptoRow : OpenClaim := { program := "ytlpchgidkibbeaagreatdoor", sum := "4fd04b1bb8386070386e1059f3d9bf560d95b0811de2ac54267f951041440c6b", func := "spillage/spillagelaw08.SaltKeeps", spec := "saltKeeps", inPlace := ["slices.overlaps[spillage/salt.Layer]", "internal/abi.NoEscape", "internal/bytealg.MakeNoZero", "internal/bytealg.IndexByteString", "internal/bytealg.CountString", "internal/bytealg.IndexString"], unfollowed := true, recurses := true, named := ["spillage/salt.acts", "internal/strconv.uint64pow10", "math/bits.deBruijn32tab", "math/bits.deBruijn64tab", "unicode/utf8.first", "unicode/utf8.acceptRanges", "internal/bytealg.MaxLen"], apart := false, laid := [("math/bits.deBruijn32tab", laid_math_bits_deBruijn32tab), ("math/bits.deBruijn64tab", laid_math_bits_deBruijn64tab), ("internal/strconv.uint64pow10", laid_internal_strconv_uint64pow10), ("unicode/utf8.acceptRanges", laid_unicode_utf8_acceptRanges), ("spillage/salt.acts", laid_spillage_salt_acts), ("unicode/utf8.first", laid_unicode_utf8_first)], narrowed := true }
def SaltKeepsUptoSaid : Prop := saltKeepsUptoRow.holds Tryz.pinned (OpenSpec.upto saltKeepsSpec)

end Rows
end Go.Proofs.YtlpchgidkibbeaaGreatDoor
