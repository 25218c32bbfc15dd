/-
  DERIVED. GIVEN WITH THE SEED: THE CARDS: each row of YtbicfaiabpcgfaaGreatDoorRows.lean that lists a variable, with what it lists TIED to the program's text (the seventh form; the later family's looks); each row that meets fmt, with fmt's text TOLD by the authors' own Lean function (tested against real Go, not proved from fmt's source: count such statements apart). THE CARD IS WHAT COUNTS. Prove the row's statement (the work); the ties are given (YtbicfaiabpcgfaaGreatDoorTie.lean); close each card by the builder's one call (the guide's Derived/Test/ToyasCard.lean, 'card_holds'). Laid BY PROGRAM, IN A SANDBOX (cutbox-door.mjs). By AI agents, Wed Nov 11 2026. No macro, syntax, notation, axiom, sorry.
-/
import Derived.Test.YtbicfaiabpcgfaaGreatDoorRows
import GoSem.ClaimSeven
namespace Go.Proofs.YtbicfaiabpcgfaaGreatDoor
namespace Rows

/-- THE TIED CARD OF 'exciselaw10.CodeInfos'. -/
def codeInfosCard : Claim7 := { stood := { row := codeInfosRow, standIns := [], harness := (true, "e9183c882e6614f99b19e86beb49c913789748f72c56b612315ec5ed405a8397"), looks := true }, kinds := [], alts := [], laidByText := true, laidKinds := [.data, .data, .data, .data, .pinned], laidTests := true, laidLooks := .later }
def CodeInfosCardSaid : Prop := Claim7.holds Tryz.pinned (.plain (OpenSpec.ofChange codeInfosSpec)) codeInfosCard

/-- THE TIED CARD OF 'exciselaw10.CodeOps'. -/
def codeOpsCard : Claim7 := { stood := { row := codeOpsRow, standIns := [], harness := (true, "e9183c882e6614f99b19e86beb49c913789748f72c56b612315ec5ed405a8397"), looks := true }, kinds := [], alts := [], laidByText := true, laidKinds := [.data, .data, .data, .data, .pinned], laidTests := true, laidLooks := .later }
def CodeOpsCardSaid : Prop := Claim7.holds Tryz.pinned (.plain (OpenSpec.ofChange codeOpsSpec)) codeOpsCard

/-- THE TIED CARD OF 'exciselaw10.CodeTexts'. -/
def codeTextsCard : Claim7 := { stood := { row := codeTextsRow, standIns := [], harness := (true, "e9183c882e6614f99b19e86beb49c913789748f72c56b612315ec5ed405a8397"), looks := true }, kinds := [], alts := [], laidByText := true, laidKinds := [.data, .data, .data, .data, .pinned], laidTests := true, laidLooks := .later }
def CodeTextsCardSaid : Prop := Claim7.holds Tryz.pinned (.plain (OpenSpec.ofChange codeTextsSpec)) codeTextsCard

/-- THE TIED CARD OF 'exciselaw10.CodeReads'. -/
def codeReadsCard : Claim7 := { stood := { row := codeReadsRow, standIns := [], harness := (true, "e9183c882e6614f99b19e86beb49c913789748f72c56b612315ec5ed405a8397"), looks := true }, kinds := [], alts := [], laidByText := true, laidKinds := [.data, .data, .data, .data, .pinned], laidTests := true, laidLooks := .later }
def CodeReadsCardSaid : Prop := Claim7.holds Tryz.pinned (.plain (OpenSpec.ofChange codeReadsSpec)) codeReadsCard

/-- THE TIED CARD OF 'exciselaw10.CodeHolds'. -/
def codeHoldsCard : Claim7 := { stood := { row := codeHoldsRow, standIns := [], harness := (true, "e9183c882e6614f99b19e86beb49c913789748f72c56b612315ec5ed405a8397"), looks := true }, kinds := [], alts := [], laidByText := true, laidKinds := [.data, .data, .data, .data, .pinned], laidTests := true, laidLooks := .later }
def CodeHoldsCardSaid : Prop := Claim7.holds Tryz.pinned (.plain (OpenSpec.ofChange codeHoldsSpec)) codeHoldsCard

/-- THE SECOND FORM's CARD OF 'exciselaw10.CodeInfos'. -/
def codeInfosUptoCard : Claim7 := { stood := { row := codeInfosUptoRow, standIns := [], harness := (true, "e9183c882e6614f99b19e86beb49c913789748f72c56b612315ec5ed405a8397"), looks := true }, kinds := [], alts := [], laidByText := true, laidKinds := [.data, .data, .data, .data, .pinned], laidTests := true, laidLooks := .later }
def CodeInfosUptoCardSaid : Prop := Claim7.holds Tryz.pinned (.plain (OpenSpec.upto codeInfosSpec)) codeInfosUptoCard

/-- THE SECOND FORM's CARD OF 'exciselaw10.CodeOps'. -/
def codeOpsUptoCard : Claim7 := { stood := { row := codeOpsUptoRow, standIns := [], harness := (true, "e9183c882e6614f99b19e86beb49c913789748f72c56b612315ec5ed405a8397"), looks := true }, kinds := [], alts := [], laidByText := true, laidKinds := [.data, .data, .data, .data, .pinned], laidTests := true, laidLooks := .later }
def CodeOpsUptoCardSaid : Prop := Claim7.holds Tryz.pinned (.plain (OpenSpec.upto codeOpsSpec)) codeOpsUptoCard

/-- THE SECOND FORM's CARD OF 'exciselaw10.CodeTexts'. -/
def codeTextsUptoCard : Claim7 := { stood := { row := codeTextsUptoRow, standIns := [], harness := (true, "e9183c882e6614f99b19e86beb49c913789748f72c56b612315ec5ed405a8397"), looks := true }, kinds := [], alts := [], laidByText := true, laidKinds := [.data, .data, .data, .data, .pinned], laidTests := true, laidLooks := .later }
def CodeTextsUptoCardSaid : Prop := Claim7.holds Tryz.pinned (.plain (OpenSpec.upto codeTextsSpec)) codeTextsUptoCard

/-- THE SECOND FORM's CARD OF 'exciselaw10.CodeReads'. -/
def codeReadsUptoCard : Claim7 := { stood := { row := codeReadsUptoRow, standIns := [], harness := (true, "e9183c882e6614f99b19e86beb49c913789748f72c56b612315ec5ed405a8397"), looks := true }, kinds := [], alts := [], laidByText := true, laidKinds := [.data, .data, .data, .data, .pinned], laidTests := true, laidLooks := .later }
def CodeReadsUptoCardSaid : Prop := Claim7.holds Tryz.pinned (.plain (OpenSpec.upto codeReadsSpec)) codeReadsUptoCard

/-- THE SECOND FORM's CARD OF 'exciselaw10.CodeHolds'. -/
def codeHoldsUptoCard : Claim7 := { stood := { row := codeHoldsUptoRow, standIns := [], harness := (true, "e9183c882e6614f99b19e86beb49c913789748f72c56b612315ec5ed405a8397"), looks := true }, kinds := [], alts := [], laidByText := true, laidKinds := [.data, .data, .data, .data, .pinned], laidTests := true, laidLooks := .later }
def CodeHoldsUptoCardSaid : Prop := Claim7.holds Tryz.pinned (.plain (OpenSpec.upto codeHoldsSpec)) codeHoldsUptoCard
end Rows
end Go.Proofs.YtbicfaiabpcgfaaGreatDoor
