/-
  DERIVED. GIVEN WITH THE SEED: THE CARDS: each row of YtkalcencblhlgaaGreatDoorRows.lean that lists a variable, with what it lists TIED to the program's text (the seventh form; the later family's looks); each row that meets fmt, with fmt's text TOLD by the authors' own Lean function (tested against real Go, not proved from fmt's source: count such statements apart). THE CARD IS WHAT COUNTS. Prove the row's statement (the work); the ties are given (YtkalcencblhlgaaGreatDoorTie.lean); close each card by the builder's one call (the guide's Derived/Test/ToyasCard.lean, 'card_holds'). Laid BY PROGRAM, IN A SANDBOX (cutbox-door.mjs). By AI agents, Wed Nov 11 2026. No macro, syntax, notation, axiom, sorry.
-/
import Derived.Test.YtkalcencblhlgaaGreatDoorRows
import GoSem.ClaimSeven
namespace Go.Proofs.YtkalcencblhlgaaGreatDoor
namespace Rows

/-- THE TIED CARD OF 'spillagelaw02.SunDays'. -/
def sunDaysCard : Claim7 := { stood := { row := sunDaysRow, standIns := [], harness := (true, "270a980da8cd2bb5699b16897d48f3470cb5bb4b0ef9c7b644b272c3371236cd"), looks := false }, kinds := [], alts := [], laidByText := true, laidKinds := [.data, .data, .data, .data], laidTests := true, laidLooks := .later }
def SunDaysCardSaid : Prop := Claim7.holds Tryz.pinned (.plain (OpenSpec.ofChange sunDaysSpec)) sunDaysCard

/-- THE TIED CARD OF 'spillagelaw02.SunTexts'. -/
def sunTextsCard : Claim7 := { stood := { row := sunTextsRow, standIns := [], harness := (true, "270a980da8cd2bb5699b16897d48f3470cb5bb4b0ef9c7b644b272c3371236cd"), looks := false }, kinds := [], alts := [], laidByText := true, laidKinds := [.data, .data, .data, .data, .data, .pinned], laidTests := true, laidLooks := .later }
def SunTextsCardSaid : Prop := Claim7.holds Tryz.pinned (.plain (OpenSpec.ofChange sunTextsSpec)) sunTextsCard

/-- THE TIED CARD OF 'spillagelaw02.SunBack'. -/
def sunBackCard : Claim7 := { stood := { row := sunBackRow, standIns := [], harness := (true, "270a980da8cd2bb5699b16897d48f3470cb5bb4b0ef9c7b644b272c3371236cd"), looks := false }, kinds := [], alts := [], laidByText := true, laidKinds := [.data, .data, .data, .data, .data, .pinned], laidTests := true, laidLooks := .later }
def SunBackCardSaid : Prop := Claim7.holds Tryz.pinned (.plain (OpenSpec.ofChange sunBackSpec)) sunBackCard

/-- THE SECOND FORM's CARD OF 'spillagelaw02.SunDays'. -/
def sunDaysUptoCard : Claim7 := { stood := { row := sunDaysUptoRow, standIns := [], harness := (true, "270a980da8cd2bb5699b16897d48f3470cb5bb4b0ef9c7b644b272c3371236cd"), looks := false }, kinds := [], alts := [], laidByText := true, laidKinds := [.data, .data, .data, .data], laidTests := true, laidLooks := .later }
def SunDaysUptoCardSaid : Prop := Claim7.holds Tryz.pinned (.plain (OpenSpec.upto sunDaysSpec)) sunDaysUptoCard

/-- THE SECOND FORM's CARD OF 'spillagelaw02.SunTexts'. -/
def sunTextsUptoCard : Claim7 := { stood := { row := sunTextsUptoRow, standIns := [], harness := (true, "270a980da8cd2bb5699b16897d48f3470cb5bb4b0ef9c7b644b272c3371236cd"), looks := false }, kinds := [], alts := [], laidByText := true, laidKinds := [.data, .data, .data, .data, .data, .pinned], laidTests := true, laidLooks := .later }
def SunTextsUptoCardSaid : Prop := Claim7.holds Tryz.pinned (.plain (OpenSpec.upto sunTextsSpec)) sunTextsUptoCard

/-- THE SECOND FORM's CARD OF 'spillagelaw02.SunBack'. -/
def sunBackUptoCard : Claim7 := { stood := { row := sunBackUptoRow, standIns := [], harness := (true, "270a980da8cd2bb5699b16897d48f3470cb5bb4b0ef9c7b644b272c3371236cd"), looks := false }, kinds := [], alts := [], laidByText := true, laidKinds := [.data, .data, .data, .data, .data, .pinned], laidTests := true, laidLooks := .later }
def SunBackUptoCardSaid : Prop := Claim7.holds Tryz.pinned (.plain (OpenSpec.upto sunBackSpec)) sunBackUptoCard
end Rows
end Go.Proofs.YtkalcencblhlgaaGreatDoor
