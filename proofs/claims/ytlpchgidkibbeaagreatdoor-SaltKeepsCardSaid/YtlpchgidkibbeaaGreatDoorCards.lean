/-
  DERIVED. GIVEN WITH THE SEED: THE CARDS: each row of YtlpchgidkibbeaaGreatDoorRows.lean that lists a variable, with what it lists TIED to the program's text (the seventh form; the later family's looks); each row that meets fmt, with fmt's text TOLD by the authors' own Lean function (tested against real Go, not proved from fmt's source: count such statements apart). THE CARD IS WHAT COUNTS. Prove the row's statement (the work); the ties are given (YtlpchgidkibbeaaGreatDoorTie.lean); close each card by the builder's one call (the guide's Derived/Test/ToyasCard.lean, 'card_holds'). Laid BY PROGRAM, IN A SANDBOX (cutbox-door.mjs). By AI agents, Wed Nov 11 2026. No macro, syntax, notation, axiom, sorry.
-/
import Derived.Test.YtlpchgidkibbeaaGreatDoorRows
import GoSem.ClaimSeven
namespace Go.Proofs.YtlpchgidkibbeaaGreatDoor
namespace Rows

/-- THE TIED CARD OF 'spillagelaw08.SaltSure'. -/
def saltSureCard : Claim7 := { stood := { row := saltSureRow, standIns := [], harness := (true, "197792013b658a0d82f706d4f0e8d402b53190c89b5f8363fea59a134bd4fcea"), looks := false }, kinds := [], alts := [], laidByText := true, laidKinds := [.data, .data, .data, .funcsDeep], laidTests := true, laidLooks := .later }
def SaltSureCardSaid : Prop := Claim7.holds Tryz.pinned (.plain (OpenSpec.ofChange saltSureSpec)) saltSureCard

/-- THE TIED CARD OF 'spillagelaw08.SaltStrain'. -/
def saltStrainCard : Claim7 := { stood := { row := saltStrainRow, standIns := [], harness := (true, "197792013b658a0d82f706d4f0e8d402b53190c89b5f8363fea59a134bd4fcea"), looks := false }, kinds := [], alts := [], laidByText := true, laidKinds := [.data, .data, .data, .funcsDeep], laidTests := true, laidLooks := .later }
def SaltStrainCardSaid : Prop := Claim7.holds Tryz.pinned (.plain (OpenSpec.ofChange saltStrainSpec)) saltStrainCard

/-- THE TIED CARD OF 'spillagelaw08.SaltTanks'. -/
def saltTanksCard : Claim7 := { stood := { row := saltTanksRow, standIns := [], harness := (true, "197792013b658a0d82f706d4f0e8d402b53190c89b5f8363fea59a134bd4fcea"), looks := false }, kinds := [], alts := [], laidByText := true, laidKinds := [.data, .data, .data, .funcsDeep], laidTests := true, laidLooks := .later }
def SaltTanksCardSaid : Prop := Claim7.holds Tryz.pinned (.plain (OpenSpec.ofChange saltTanksSpec)) saltTanksCard

/-- THE TIED CARD OF 'spillagelaw08.SaltMoves'. -/
def saltMovesCard : Claim7 := { stood := { row := saltMovesRow, standIns := [], harness := (true, "197792013b658a0d82f706d4f0e8d402b53190c89b5f8363fea59a134bd4fcea"), looks := false }, kinds := [], alts := [], laidByText := true, laidKinds := [.data, .data, .data, .funcsDeep], laidTests := true, laidLooks := .later }
def SaltMovesCardSaid : Prop := Claim7.holds Tryz.pinned (.plain (OpenSpec.ofChange saltMovesSpec)) saltMovesCard

/-- THE TIED CARD OF 'spillagelaw08.SaltParts'. -/
def saltPartsCard : Claim7 := { stood := { row := saltPartsRow, standIns := [], harness := (true, "197792013b658a0d82f706d4f0e8d402b53190c89b5f8363fea59a134bd4fcea"), looks := false }, kinds := [], alts := [], laidByText := true, laidKinds := [.data, .data, .data, .funcsDeep], laidTests := true, laidLooks := .later }
def SaltPartsCardSaid : Prop := Claim7.holds Tryz.pinned (.plain (OpenSpec.ofChange saltPartsSpec)) saltPartsCard

/-- THE TIED CARD OF 'spillagelaw08.SaltRuns'. -/
def saltRunsCard : Claim7 := { stood := { row := saltRunsRow, standIns := [], harness := (true, "197792013b658a0d82f706d4f0e8d402b53190c89b5f8363fea59a134bd4fcea"), looks := false }, kinds := [], alts := [], laidByText := true, laidKinds := [.data, .data, .data, .funcsDeep], laidTests := true, laidLooks := .later }
def SaltRunsCardSaid : Prop := Claim7.holds Tryz.pinned (.plain (OpenSpec.ofChange saltRunsSpec)) saltRunsCard

/-- THE TIED CARD OF 'spillagelaw08.SaltHolds'. -/
def saltHoldsCard : Claim7 := { stood := { row := saltHoldsRow, standIns := [], harness := (true, "197792013b658a0d82f706d4f0e8d402b53190c89b5f8363fea59a134bd4fcea"), looks := false }, kinds := [], alts := [], laidByText := true, laidKinds := [.data, .data, .data, .funcsDeep], laidTests := true, laidLooks := .later }
def SaltHoldsCardSaid : Prop := Claim7.holds Tryz.pinned (.plain (OpenSpec.ofChange saltHoldsSpec)) saltHoldsCard

/-- THE TIED CARD OF 'spillagelaw08.SaltTexts'. -/
def saltTextsCard : Claim7 := { stood := { row := saltTextsRow, standIns := [], harness := (true, "197792013b658a0d82f706d4f0e8d402b53190c89b5f8363fea59a134bd4fcea"), looks := false }, kinds := [], alts := [], laidByText := true, laidKinds := [.data, .data, .data, .data, .funcsDeep, .pinned], laidTests := true, laidLooks := .later }
def SaltTextsCardSaid : Prop := Claim7.holds Tryz.pinned (.plain (OpenSpec.ofChange saltTextsSpec)) saltTextsCard

/-- THE TIED CARD OF 'spillagelaw08.SaltKeeps'. -/
def saltKeepsCard : Claim7 := { stood := { row := saltKeepsRow, standIns := [], harness := (true, "197792013b658a0d82f706d4f0e8d402b53190c89b5f8363fea59a134bd4fcea"), looks := false }, kinds := [], alts := [], laidByText := true, laidKinds := [.data, .data, .data, .data, .funcsDeep, .pinned], laidTests := true, laidLooks := .later }
def SaltKeepsCardSaid : Prop := Claim7.holds Tryz.pinned (.plain (OpenSpec.ofChange saltKeepsSpec)) saltKeepsCard

/-- THE SECOND FORM's CARD OF 'spillagelaw08.SaltSure'. -/
def saltSureUptoCard : Claim7 := { stood := { row := saltSureUptoRow, standIns := [], harness := (true, "197792013b658a0d82f706d4f0e8d402b53190c89b5f8363fea59a134bd4fcea"), looks := false }, kinds := [], alts := [], laidByText := true, laidKinds := [.data, .data, .data, .funcsDeep], laidTests := true, laidLooks := .later }
def SaltSureUptoCardSaid : Prop := Claim7.holds Tryz.pinned (.plain (OpenSpec.upto saltSureSpec)) saltSureUptoCard

/-- THE SECOND FORM's CARD OF 'spillagelaw08.SaltStrain'. -/
def saltStrainUptoCard : Claim7 := { stood := { row := saltStrainUptoRow, standIns := [], harness := (true, "197792013b658a0d82f706d4f0e8d402b53190c89b5f8363fea59a134bd4fcea"), looks := false }, kinds := [], alts := [], laidByText := true, laidKinds := [.data, .data, .data, .funcsDeep], laidTests := true, laidLooks := .later }
def SaltStrainUptoCardSaid : Prop := Claim7.holds Tryz.pinned (.plain (OpenSpec.upto saltStrainSpec)) saltStrainUptoCard

/-- THE SECOND FORM's CARD OF 'spillagelaw08.SaltTanks'. -/
def saltTanksUptoCard : Claim7 := { stood := { row := saltTanksUptoRow, standIns := [], harness := (true, "197792013b658a0d82f706d4f0e8d402b53190c89b5f8363fea59a134bd4fcea"), looks := false }, kinds := [], alts := [], laidByText := true, laidKinds := [.data, .data, .data, .funcsDeep], laidTests := true, laidLooks := .later }
def SaltTanksUptoCardSaid : Prop := Claim7.holds Tryz.pinned (.plain (OpenSpec.upto saltTanksSpec)) saltTanksUptoCard

/-- THE SECOND FORM's CARD OF 'spillagelaw08.SaltMoves'. -/
def saltMovesUptoCard : Claim7 := { stood := { row := saltMovesUptoRow, standIns := [], harness := (true, "197792013b658a0d82f706d4f0e8d402b53190c89b5f8363fea59a134bd4fcea"), looks := false }, kinds := [], alts := [], laidByText := true, laidKinds := [.data, .data, .data, .funcsDeep], laidTests := true, laidLooks := .later }
def SaltMovesUptoCardSaid : Prop := Claim7.holds Tryz.pinned (.plain (OpenSpec.upto saltMovesSpec)) saltMovesUptoCard

/-- THE SECOND FORM's CARD OF 'spillagelaw08.SaltParts'. -/
def saltPartsUptoCard : Claim7 := { stood := { row := saltPartsUptoRow, standIns := [], harness := (true, "197792013b658a0d82f706d4f0e8d402b53190c89b5f8363fea59a134bd4fcea"), looks := false }, kinds := [], alts := [], laidByText := true, laidKinds := [.data, .data, .data, .funcsDeep], laidTests := true, laidLooks := .later }
def SaltPartsUptoCardSaid : Prop := Claim7.holds Tryz.pinned (.plain (OpenSpec.upto saltPartsSpec)) saltPartsUptoCard

/-- THE SECOND FORM's CARD OF 'spillagelaw08.SaltRuns'. -/
def saltRunsUptoCard : Claim7 := { stood := { row := saltRunsUptoRow, standIns := [], harness := (true, "197792013b658a0d82f706d4f0e8d402b53190c89b5f8363fea59a134bd4fcea"), looks := false }, kinds := [], alts := [], laidByText := true, laidKinds := [.data, .data, .data, .funcsDeep], laidTests := true, laidLooks := .later }
def SaltRunsUptoCardSaid : Prop := Claim7.holds Tryz.pinned (.plain (OpenSpec.upto saltRunsSpec)) saltRunsUptoCard

/-- THE SECOND FORM's CARD OF 'spillagelaw08.SaltHolds'. -/
def saltHoldsUptoCard : Claim7 := { stood := { row := saltHoldsUptoRow, standIns := [], harness := (true, "197792013b658a0d82f706d4f0e8d402b53190c89b5f8363fea59a134bd4fcea"), looks := false }, kinds := [], alts := [], laidByText := true, laidKinds := [.data, .data, .data, .funcsDeep], laidTests := true, laidLooks := .later }
def SaltHoldsUptoCardSaid : Prop := Claim7.holds Tryz.pinned (.plain (OpenSpec.upto saltHoldsSpec)) saltHoldsUptoCard

/-- THE SECOND FORM's CARD OF 'spillagelaw08.SaltTexts'. -/
def saltTextsUptoCard : Claim7 := { stood := { row := saltTextsUptoRow, standIns := [], harness := (true, "197792013b658a0d82f706d4f0e8d402b53190c89b5f8363fea59a134bd4fcea"), looks := false }, kinds := [], alts := [], laidByText := true, laidKinds := [.data, .data, .data, .data, .funcsDeep, .pinned], laidTests := true, laidLooks := .later }
def SaltTextsUptoCardSaid : Prop := Claim7.holds Tryz.pinned (.plain (OpenSpec.upto saltTextsSpec)) saltTextsUptoCard

/-- THE SECOND FORM's CARD OF 'spillagelaw08.SaltKeeps'. -/
def saltKeepsUptoCard : Claim7 := { stood := { row := saltKeepsUptoRow, standIns := [], harness := (true, "197792013b658a0d82f706d4f0e8d402b53190c89b5f8363fea59a134bd4fcea"), looks := false }, kinds := [], alts := [], laidByText := true, laidKinds := [.data, .data, .data, .data, .funcsDeep, .pinned], laidTests := true, laidLooks := .later }
def SaltKeepsUptoCardSaid : Prop := Claim7.holds Tryz.pinned (.plain (OpenSpec.upto saltKeepsSpec)) saltKeepsUptoCard
end Rows
end Go.Proofs.YtlpchgidkibbeaaGreatDoor
