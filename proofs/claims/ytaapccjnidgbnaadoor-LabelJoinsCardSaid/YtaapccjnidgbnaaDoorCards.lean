/-
  DERIVED. GIVEN WITH THE SEED: THE CARDS: each row of YtaapccjnidgbnaaDoorRows.lean that lists a variable, with what it lists TIED to the program's text (the seventh form; the later family's looks); each row that meets fmt, with fmt's text TOLD by the authors' own Lean function (tested against real Go, not proved from fmt's source: count such statements apart). THE CARD IS WHAT COUNTS. Prove the row's statement (the work); the ties are given (YtaapccjnidgbnaaDoorTie.lean); close each card by the builder's one call (the guide's Derived/Test/ToyasCard.lean, 'card_holds'). Laid BY PROGRAM, IN A SANDBOX (cutbox-door.mjs). By AI agents, Wed Nov 11 2026. No macro, syntax, notation, axiom, sorry.
-/
import Derived.Test.YtaapccjnidgbnaaDoorRows
import GoSem.ClaimSeven
namespace Go.Proofs.YtaapccjnidgbnaaDoor
namespace Rows

/-- THE TIED CARD OF 'exciselaw08.LabelTexts'. -/
def labelTextsCard : Claim7 := { stood := { row := labelTextsRow, standIns := [], harness := (true, "fdea7cf7c85d3ab2a53333177995a4992c5f2f582aae810404b83749bc5c3d8d"), looks := false }, kinds := [], alts := [], laidByText := true, laidKinds := [.data, .data, .data], laidTests := true, laidLooks := .later }
def LabelTextsCardSaid : Prop := Claim7.holds Tryd.pinned (.plain (OpenSpec.ofChange labelTextsSpec)) labelTextsCard

/-- THE TIED CARD OF 'exciselaw08.LabelMembers'. -/
def labelMembersCard : Claim7 := { stood := { row := labelMembersRow, standIns := [], harness := (true, "fdea7cf7c85d3ab2a53333177995a4992c5f2f582aae810404b83749bc5c3d8d"), looks := false }, kinds := [], alts := [], laidByText := true, laidKinds := [.data, .data, .data], laidTests := true, laidLooks := .later }
def LabelMembersCardSaid : Prop := Claim7.holds Tryd.pinned (.plain (OpenSpec.ofChange labelMembersSpec)) labelMembersCard

/-- THE TIED CARD OF 'exciselaw08.LabelHolds'. -/
def labelHoldsCard : Claim7 := { stood := { row := labelHoldsRow, standIns := [], harness := (true, "fdea7cf7c85d3ab2a53333177995a4992c5f2f582aae810404b83749bc5c3d8d"), looks := false }, kinds := [], alts := [], laidByText := true, laidKinds := [.data, .data, .data], laidTests := true, laidLooks := .later }
def LabelHoldsCardSaid : Prop := Claim7.holds Tryd.pinned (.plain (OpenSpec.ofChange labelHoldsSpec)) labelHoldsCard

/-- THE TIED CARD OF 'exciselaw08.LabelJoins'. -/
def labelJoinsCard : Claim7 := { stood := { row := labelJoinsRow, standIns := [], harness := (true, "fdea7cf7c85d3ab2a53333177995a4992c5f2f582aae810404b83749bc5c3d8d"), looks := false }, kinds := [], alts := [], laidByText := true, laidKinds := [.data, .data, .data], laidTests := true, laidLooks := .later }
def LabelJoinsCardSaid : Prop := Claim7.holds Tryd.pinned (.plain (OpenSpec.ofChange labelJoinsSpec)) labelJoinsCard

/-- THE SECOND FORM's CARD OF 'exciselaw08.LabelTexts'. -/
def labelTextsUptoCard : Claim7 := { stood := { row := labelTextsUptoRow, standIns := [], harness := (true, "fdea7cf7c85d3ab2a53333177995a4992c5f2f582aae810404b83749bc5c3d8d"), looks := false }, kinds := [], alts := [], laidByText := true, laidKinds := [.data, .data, .data], laidTests := true, laidLooks := .later }
def LabelTextsUptoCardSaid : Prop := Claim7.holds Tryd.pinned (.plain (OpenSpec.upto labelTextsSpec)) labelTextsUptoCard

/-- THE SECOND FORM's CARD OF 'exciselaw08.LabelMembers'. -/
def labelMembersUptoCard : Claim7 := { stood := { row := labelMembersUptoRow, standIns := [], harness := (true, "fdea7cf7c85d3ab2a53333177995a4992c5f2f582aae810404b83749bc5c3d8d"), looks := false }, kinds := [], alts := [], laidByText := true, laidKinds := [.data, .data, .data], laidTests := true, laidLooks := .later }
def LabelMembersUptoCardSaid : Prop := Claim7.holds Tryd.pinned (.plain (OpenSpec.upto labelMembersSpec)) labelMembersUptoCard

/-- THE SECOND FORM's CARD OF 'exciselaw08.LabelHolds'. -/
def labelHoldsUptoCard : Claim7 := { stood := { row := labelHoldsUptoRow, standIns := [], harness := (true, "fdea7cf7c85d3ab2a53333177995a4992c5f2f582aae810404b83749bc5c3d8d"), looks := false }, kinds := [], alts := [], laidByText := true, laidKinds := [.data, .data, .data], laidTests := true, laidLooks := .later }
def LabelHoldsUptoCardSaid : Prop := Claim7.holds Tryd.pinned (.plain (OpenSpec.upto labelHoldsSpec)) labelHoldsUptoCard

/-- THE SECOND FORM's CARD OF 'exciselaw08.LabelJoins'. -/
def labelJoinsUptoCard : Claim7 := { stood := { row := labelJoinsUptoRow, standIns := [], harness := (true, "fdea7cf7c85d3ab2a53333177995a4992c5f2f582aae810404b83749bc5c3d8d"), looks := false }, kinds := [], alts := [], laidByText := true, laidKinds := [.data, .data, .data], laidTests := true, laidLooks := .later }
def LabelJoinsUptoCardSaid : Prop := Claim7.holds Tryd.pinned (.plain (OpenSpec.upto labelJoinsSpec)) labelJoinsUptoCard
end Rows
end Go.Proofs.YtaapccjnidgbnaaDoor
