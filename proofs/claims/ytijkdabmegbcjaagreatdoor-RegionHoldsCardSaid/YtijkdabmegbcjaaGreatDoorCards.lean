/-
  DERIVED. GIVEN WITH THE SEED: THE CARDS: each row of YtijkdabmegbcjaaGreatDoorRows.lean that lists a variable, with what it lists TIED to the program's text (the seventh form; the later family's looks); each row that meets fmt, with fmt's text TOLD by the authors' own Lean function (tested against real Go, not proved from fmt's source: count such statements apart). THE CARD IS WHAT COUNTS. Prove the row's statement (the work); the ties are given (YtijkdabmegbcjaaGreatDoorTie.lean); close each card by the builder's one call (the guide's Derived/Test/ToyasCard.lean, 'card_holds'). Laid BY PROGRAM, IN A SANDBOX (cutbox-door.mjs). By AI agents, Wed Nov 11 2026. No macro, syntax, notation, axiom, sorry.
-/
import Derived.Test.YtijkdabmegbcjaaGreatDoorRows
import GoSem.ClaimSeven
namespace Go.Proofs.YtijkdabmegbcjaaGreatDoor
namespace Rows

/-- THE TIED CARD OF 'exciselaw11.FlowBlocks'. -/
def flowBlocksCard : Claim7 := { stood := { row := flowBlocksRow, standIns := [], harness := (true, "1ac972b5df754300bb1092ae352dc9c023f130b194053b4505232e66a0ee830b"), looks := true }, kinds := [], alts := [], laidByText := true, laidKinds := [.data, .data, .data], laidTests := true, laidLooks := .later }
def FlowBlocksCardSaid : Prop := Claim7.holds Tryz.pinned (.plain (OpenSpec.ofChange flowBlocksSpec)) flowBlocksCard

/-- THE TIED CARD OF 'exciselaw11.FlowPlaces'. -/
def flowPlacesCard : Claim7 := { stood := { row := flowPlacesRow, standIns := [], harness := (true, "1ac972b5df754300bb1092ae352dc9c023f130b194053b4505232e66a0ee830b"), looks := true }, kinds := [], alts := [], laidByText := true, laidKinds := [.data, .data, .data], laidTests := true, laidLooks := .later }
def FlowPlacesCardSaid : Prop := Claim7.holds Tryz.pinned (.plain (OpenSpec.ofChange flowPlacesSpec)) flowPlacesCard

/-- THE TIED CARD OF 'exciselaw11.FlowWalks'. -/
def flowWalksCard : Claim7 := { stood := { row := flowWalksRow, standIns := [], harness := (true, "1ac972b5df754300bb1092ae352dc9c023f130b194053b4505232e66a0ee830b"), looks := true }, kinds := [], alts := [], laidByText := true, laidKinds := [.data, .data, .data], laidTests := true, laidLooks := .later }
def FlowWalksCardSaid : Prop := Claim7.holds Tryz.pinned (.plain (OpenSpec.ofChange flowWalksSpec)) flowWalksCard

/-- THE TIED CARD OF 'exciselaw12.MeetBehinds'. -/
def meetBehindsCard : Claim7 := { stood := { row := meetBehindsRow, standIns := [], harness := (true, "1ac972b5df754300bb1092ae352dc9c023f130b194053b4505232e66a0ee830b"), looks := true }, kinds := [], alts := [], laidByText := true, laidKinds := [.data, .data, .data], laidTests := true, laidLooks := .later }
def MeetBehindsCardSaid : Prop := Claim7.holds Tryz.pinned (.plain (OpenSpec.ofChange meetBehindsSpec)) meetBehindsCard

/-- THE TIED CARD OF 'exciselaw12.MeetLines'. -/
def meetLinesCard : Claim7 := { stood := { row := meetLinesRow, standIns := [], harness := (true, "1ac972b5df754300bb1092ae352dc9c023f130b194053b4505232e66a0ee830b"), looks := true }, kinds := [], alts := [], laidByText := true, laidKinds := [.data, .data, .data], laidTests := true, laidLooks := .later }
def MeetLinesCardSaid : Prop := Claim7.holds Tryz.pinned (.plain (OpenSpec.ofChange meetLinesSpec)) meetLinesCard

/-- THE TIED CARD OF 'exciselaw12.MeetHolds'. -/
def meetHoldsCard : Claim7 := { stood := { row := meetHoldsRow, standIns := [], harness := (true, "1ac972b5df754300bb1092ae352dc9c023f130b194053b4505232e66a0ee830b"), looks := true }, kinds := [], alts := [], laidByText := true, laidKinds := [.data, .data, .data], laidTests := true, laidLooks := .later }
def MeetHoldsCardSaid : Prop := Claim7.holds Tryz.pinned (.plain (OpenSpec.ofChange meetHoldsSpec)) meetHoldsCard

/-- THE TIED CARD OF 'exciselaw12.MeetAll'. -/
def meetAllCard : Claim7 := { stood := { row := meetAllRow, standIns := [], harness := (true, "1ac972b5df754300bb1092ae352dc9c023f130b194053b4505232e66a0ee830b"), looks := true }, kinds := [], alts := [], laidByText := true, laidKinds := [.data, .data, .data], laidTests := true, laidLooks := .later }
def MeetAllCardSaid : Prop := Claim7.holds Tryz.pinned (.plain (OpenSpec.ofChange meetAllSpec)) meetAllCard

/-- THE TIED CARD OF 'exciselaw13.RegionFits'. -/
def regionFitsCard : Claim7 := { stood := { row := regionFitsRow, standIns := [], harness := (true, "1ac972b5df754300bb1092ae352dc9c023f130b194053b4505232e66a0ee830b"), looks := true }, kinds := [], alts := [], laidByText := true, laidKinds := [.data, .data, .data], laidTests := true, laidLooks := .later }
def RegionFitsCardSaid : Prop := Claim7.holds Tryz.pinned (.plain (OpenSpec.ofChange regionFitsSpec)) regionFitsCard

/-- THE TIED CARD OF 'exciselaw13.RegionHolds'. -/
def regionHoldsCard : Claim7 := { stood := { row := regionHoldsRow, standIns := [], harness := (true, "1ac972b5df754300bb1092ae352dc9c023f130b194053b4505232e66a0ee830b"), looks := true }, kinds := [], alts := [], laidByText := true, laidKinds := [.data, .data, .data], laidTests := true, laidLooks := .later }
def RegionHoldsCardSaid : Prop := Claim7.holds Tryz.pinned (.plain (OpenSpec.ofChange regionHoldsSpec)) regionHoldsCard

/-- THE SECOND FORM's CARD OF 'exciselaw11.FlowBlocks'. -/
def flowBlocksUptoCard : Claim7 := { stood := { row := flowBlocksUptoRow, standIns := [], harness := (true, "1ac972b5df754300bb1092ae352dc9c023f130b194053b4505232e66a0ee830b"), looks := true }, kinds := [], alts := [], laidByText := true, laidKinds := [.data, .data, .data], laidTests := true, laidLooks := .later }
def FlowBlocksUptoCardSaid : Prop := Claim7.holds Tryz.pinned (.plain (OpenSpec.upto flowBlocksSpec)) flowBlocksUptoCard

/-- THE SECOND FORM's CARD OF 'exciselaw11.FlowPlaces'. -/
def flowPlacesUptoCard : Claim7 := { stood := { row := flowPlacesUptoRow, standIns := [], harness := (true, "1ac972b5df754300bb1092ae352dc9c023f130b194053b4505232e66a0ee830b"), looks := true }, kinds := [], alts := [], laidByText := true, laidKinds := [.data, .data, .data], laidTests := true, laidLooks := .later }
def FlowPlacesUptoCardSaid : Prop := Claim7.holds Tryz.pinned (.plain (OpenSpec.upto flowPlacesSpec)) flowPlacesUptoCard

/-- THE SECOND FORM's CARD OF 'exciselaw11.FlowWalks'. -/
def flowWalksUptoCard : Claim7 := { stood := { row := flowWalksUptoRow, standIns := [], harness := (true, "1ac972b5df754300bb1092ae352dc9c023f130b194053b4505232e66a0ee830b"), looks := true }, kinds := [], alts := [], laidByText := true, laidKinds := [.data, .data, .data], laidTests := true, laidLooks := .later }
def FlowWalksUptoCardSaid : Prop := Claim7.holds Tryz.pinned (.plain (OpenSpec.upto flowWalksSpec)) flowWalksUptoCard

/-- THE SECOND FORM's CARD OF 'exciselaw12.MeetBehinds'. -/
def meetBehindsUptoCard : Claim7 := { stood := { row := meetBehindsUptoRow, standIns := [], harness := (true, "1ac972b5df754300bb1092ae352dc9c023f130b194053b4505232e66a0ee830b"), looks := true }, kinds := [], alts := [], laidByText := true, laidKinds := [.data, .data, .data], laidTests := true, laidLooks := .later }
def MeetBehindsUptoCardSaid : Prop := Claim7.holds Tryz.pinned (.plain (OpenSpec.upto meetBehindsSpec)) meetBehindsUptoCard

/-- THE SECOND FORM's CARD OF 'exciselaw12.MeetLines'. -/
def meetLinesUptoCard : Claim7 := { stood := { row := meetLinesUptoRow, standIns := [], harness := (true, "1ac972b5df754300bb1092ae352dc9c023f130b194053b4505232e66a0ee830b"), looks := true }, kinds := [], alts := [], laidByText := true, laidKinds := [.data, .data, .data], laidTests := true, laidLooks := .later }
def MeetLinesUptoCardSaid : Prop := Claim7.holds Tryz.pinned (.plain (OpenSpec.upto meetLinesSpec)) meetLinesUptoCard

/-- THE SECOND FORM's CARD OF 'exciselaw12.MeetHolds'. -/
def meetHoldsUptoCard : Claim7 := { stood := { row := meetHoldsUptoRow, standIns := [], harness := (true, "1ac972b5df754300bb1092ae352dc9c023f130b194053b4505232e66a0ee830b"), looks := true }, kinds := [], alts := [], laidByText := true, laidKinds := [.data, .data, .data], laidTests := true, laidLooks := .later }
def MeetHoldsUptoCardSaid : Prop := Claim7.holds Tryz.pinned (.plain (OpenSpec.upto meetHoldsSpec)) meetHoldsUptoCard

/-- THE SECOND FORM's CARD OF 'exciselaw12.MeetAll'. -/
def meetAllUptoCard : Claim7 := { stood := { row := meetAllUptoRow, standIns := [], harness := (true, "1ac972b5df754300bb1092ae352dc9c023f130b194053b4505232e66a0ee830b"), looks := true }, kinds := [], alts := [], laidByText := true, laidKinds := [.data, .data, .data], laidTests := true, laidLooks := .later }
def MeetAllUptoCardSaid : Prop := Claim7.holds Tryz.pinned (.plain (OpenSpec.upto meetAllSpec)) meetAllUptoCard

/-- THE SECOND FORM's CARD OF 'exciselaw13.RegionFits'. -/
def regionFitsUptoCard : Claim7 := { stood := { row := regionFitsUptoRow, standIns := [], harness := (true, "1ac972b5df754300bb1092ae352dc9c023f130b194053b4505232e66a0ee830b"), looks := true }, kinds := [], alts := [], laidByText := true, laidKinds := [.data, .data, .data], laidTests := true, laidLooks := .later }
def RegionFitsUptoCardSaid : Prop := Claim7.holds Tryz.pinned (.plain (OpenSpec.upto regionFitsSpec)) regionFitsUptoCard

/-- THE SECOND FORM's CARD OF 'exciselaw13.RegionHolds'. -/
def regionHoldsUptoCard : Claim7 := { stood := { row := regionHoldsUptoRow, standIns := [], harness := (true, "1ac972b5df754300bb1092ae352dc9c023f130b194053b4505232e66a0ee830b"), looks := true }, kinds := [], alts := [], laidByText := true, laidKinds := [.data, .data, .data], laidTests := true, laidLooks := .later }
def RegionHoldsUptoCardSaid : Prop := Claim7.holds Tryz.pinned (.plain (OpenSpec.upto regionHoldsSpec)) regionHoldsUptoCard
end Rows
end Go.Proofs.YtijkdabmegbcjaaGreatDoor
