/-
  DERIVED. GIVEN WITH THE SEED: THE CARDS: each row of YtgedcolkjjdjmaaGreatDoorRows.lean that lists a variable, with what it lists TIED to the program's text (the seventh form; the later family's looks); each row that meets fmt, with fmt's text TOLD by the authors' own Lean function (tested against real Go, not proved from fmt's source: count such statements apart). THE CARD IS WHAT COUNTS. Prove the row's statement (the work); the ties are given (YtgedcolkjjdjmaaGreatDoorTie.lean); close each card by the builder's one call (the guide's Derived/Test/ToyasCard.lean, 'card_holds'). Laid BY PROGRAM, IN A SANDBOX (cutbox-door.mjs). By AI agents, Wed Nov 11 2026. No macro, syntax, notation, axiom, sorry.
-/
import Derived.Test.YtgedcolkjjdjmaaGreatDoorRows
import GoSem.ClaimSeven
namespace Go.Proofs.YtgedcolkjjdjmaaGreatDoor
namespace Rows

/-- THE TIED CARD OF 'spillagelaw08.SaltSteps'. -/
def saltStepsCard : Claim7 := { stood := { row := saltStepsRow, standIns := [], harness := (true, "737be2f1bef26c8fb7184da1930db2d4b8640bec7ca66c8e8b9294dd31acd185"), looks := false }, kinds := [], alts := [], laidByText := true, laidKinds := [.data, .data, .data, .funcsDeep], laidTests := true, laidLooks := .later }
def SaltStepsCardSaid : Prop := Claim7.holds Tryz.pinned (.plain (OpenSpec.ofChange saltStepsSpec)) saltStepsCard

/-- THE SECOND FORM's CARD OF 'spillagelaw08.SaltSteps'. -/
def saltStepsUptoCard : Claim7 := { stood := { row := saltStepsUptoRow, standIns := [], harness := (true, "737be2f1bef26c8fb7184da1930db2d4b8640bec7ca66c8e8b9294dd31acd185"), looks := false }, kinds := [], alts := [], laidByText := true, laidKinds := [.data, .data, .data, .funcsDeep], laidTests := true, laidLooks := .later }
def SaltStepsUptoCardSaid : Prop := Claim7.holds Tryz.pinned (.plain (OpenSpec.upto saltStepsSpec)) saltStepsUptoCard
end Rows
end Go.Proofs.YtgedcolkjjdjmaaGreatDoor
