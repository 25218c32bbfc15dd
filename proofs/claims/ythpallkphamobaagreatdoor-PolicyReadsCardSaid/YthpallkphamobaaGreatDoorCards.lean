/-
  DERIVED. GIVEN WITH THE SEED: THE CARDS: each row of YthpallkphamobaaGreatDoorRows.lean that lists a variable, with what it lists TIED to the program's text (the seventh form; the later family's looks); each row that meets fmt, with fmt's text TOLD by the authors' own Lean function (tested against real Go, not proved from fmt's source: count such statements apart). THE CARD IS WHAT COUNTS. Prove the row's statement (the work); the ties are given (YthpallkphamobaaGreatDoorTie.lean); close each card by the builder's one call (the guide's Derived/Test/ToyasCard.lean, 'card_holds'). Laid BY PROGRAM, IN A SANDBOX (cutbox-door.mjs). By AI agents, Wed Nov 11 2026. No macro, syntax, notation, axiom, sorry.
-/
import Derived.Test.YthpallkphamobaaGreatDoorRows
import GoSem.ClaimSeven
namespace Go.Proofs.YthpallkphamobaaGreatDoor
namespace Rows

/-- THE TIED CARD OF 'exciselaw09.PolicyChecks'. -/
def policyChecksCard : Claim7 := { stood := { row := policyChecksRow, standIns := [], harness := (true, "4927631123cdc9e80ef9834a7db5029fbd522565a38d75a017e766113cb8965c"), looks := true }, kinds := [], alts := [], laidByText := true, laidKinds := [.data, .data, .data, .data, .sentinel, .sentinel, .pinned], laidTests := true, laidLooks := .later }
def PolicyChecksCardSaid : Prop := Claim7.holds Tryz.pinned (.plain (OpenSpec.ofChange policyChecksSpec)) policyChecksCard

/-- THE TIED CARD OF 'exciselaw09.PolicyNames'. -/
def policyNamesCard : Claim7 := { stood := { row := policyNamesRow, standIns := [], harness := (true, "4927631123cdc9e80ef9834a7db5029fbd522565a38d75a017e766113cb8965c"), looks := true }, kinds := [], alts := [], laidByText := true, laidKinds := [.data, .data, .data, .data, .sentinel, .sentinel, .pinned], laidTests := true, laidLooks := .later }
def PolicyNamesCardSaid : Prop := Claim7.holds Tryz.pinned (.plain (OpenSpec.ofChange policyNamesSpec)) policyNamesCard

/-- THE TIED CARD OF 'exciselaw09.PolicyReads'. -/
def policyReadsCard : Claim7 := { stood := { row := policyReadsRow, standIns := [], harness := (true, "4927631123cdc9e80ef9834a7db5029fbd522565a38d75a017e766113cb8965c"), looks := true }, kinds := [], alts := [], laidByText := true, laidKinds := [.data, .data, .data, .data, .sentinel, .sentinel, .pinned], laidTests := true, laidLooks := .later }
def PolicyReadsCardSaid : Prop := Claim7.holds Tryz.pinned (.plain (OpenSpec.ofChange policyReadsSpec)) policyReadsCard

/-- THE TIED CARD OF 'exciselaw09.PolicyMany'. -/
def policyManyCard : Claim7 := { stood := { row := policyManyRow, standIns := [], harness := (true, "4927631123cdc9e80ef9834a7db5029fbd522565a38d75a017e766113cb8965c"), looks := true }, kinds := [], alts := [], laidByText := true, laidKinds := [.data, .data, .data, .data, .sentinel, .sentinel, .pinned], laidTests := true, laidLooks := .later }
def PolicyManyCardSaid : Prop := Claim7.holds Tryz.pinned (.plain (OpenSpec.ofChange policyManySpec)) policyManyCard

/-- THE TIED CARD OF 'exciselaw09.PolicyTexts'. -/
def policyTextsCard : Claim7 := { stood := { row := policyTextsRow, standIns := [], harness := (true, "4927631123cdc9e80ef9834a7db5029fbd522565a38d75a017e766113cb8965c"), looks := true }, kinds := [], alts := [], laidByText := true, laidKinds := [.data, .data, .data, .data, .sentinel, .sentinel, .pinned], laidTests := true, laidLooks := .later }
def PolicyTextsCardSaid : Prop := Claim7.holds Tryz.pinned (.plain (OpenSpec.ofChange policyTextsSpec)) policyTextsCard

/-- THE TIED CARD OF 'exciselaw09.PolicyHolds'. -/
def policyHoldsCard : Claim7 := { stood := { row := policyHoldsRow, standIns := [], harness := (true, "4927631123cdc9e80ef9834a7db5029fbd522565a38d75a017e766113cb8965c"), looks := true }, kinds := [], alts := [], laidByText := true, laidKinds := [.data, .data, .data, .data, .sentinel, .sentinel, .pinned], laidTests := true, laidLooks := .later }
def PolicyHoldsCardSaid : Prop := Claim7.holds Tryz.pinned (.plain (OpenSpec.ofChange policyHoldsSpec)) policyHoldsCard

/-- THE SECOND FORM's CARD OF 'exciselaw09.PolicyChecks'. -/
def policyChecksUptoCard : Claim7 := { stood := { row := policyChecksUptoRow, standIns := [], harness := (true, "4927631123cdc9e80ef9834a7db5029fbd522565a38d75a017e766113cb8965c"), looks := true }, kinds := [], alts := [], laidByText := true, laidKinds := [.data, .data, .data, .data, .sentinel, .sentinel, .pinned], laidTests := true, laidLooks := .later }
def PolicyChecksUptoCardSaid : Prop := Claim7.holds Tryz.pinned (.plain (OpenSpec.upto policyChecksSpec)) policyChecksUptoCard

/-- THE SECOND FORM's CARD OF 'exciselaw09.PolicyNames'. -/
def policyNamesUptoCard : Claim7 := { stood := { row := policyNamesUptoRow, standIns := [], harness := (true, "4927631123cdc9e80ef9834a7db5029fbd522565a38d75a017e766113cb8965c"), looks := true }, kinds := [], alts := [], laidByText := true, laidKinds := [.data, .data, .data, .data, .sentinel, .sentinel, .pinned], laidTests := true, laidLooks := .later }
def PolicyNamesUptoCardSaid : Prop := Claim7.holds Tryz.pinned (.plain (OpenSpec.upto policyNamesSpec)) policyNamesUptoCard

/-- THE SECOND FORM's CARD OF 'exciselaw09.PolicyReads'. -/
def policyReadsUptoCard : Claim7 := { stood := { row := policyReadsUptoRow, standIns := [], harness := (true, "4927631123cdc9e80ef9834a7db5029fbd522565a38d75a017e766113cb8965c"), looks := true }, kinds := [], alts := [], laidByText := true, laidKinds := [.data, .data, .data, .data, .sentinel, .sentinel, .pinned], laidTests := true, laidLooks := .later }
def PolicyReadsUptoCardSaid : Prop := Claim7.holds Tryz.pinned (.plain (OpenSpec.upto policyReadsSpec)) policyReadsUptoCard

/-- THE SECOND FORM's CARD OF 'exciselaw09.PolicyMany'. -/
def policyManyUptoCard : Claim7 := { stood := { row := policyManyUptoRow, standIns := [], harness := (true, "4927631123cdc9e80ef9834a7db5029fbd522565a38d75a017e766113cb8965c"), looks := true }, kinds := [], alts := [], laidByText := true, laidKinds := [.data, .data, .data, .data, .sentinel, .sentinel, .pinned], laidTests := true, laidLooks := .later }
def PolicyManyUptoCardSaid : Prop := Claim7.holds Tryz.pinned (.plain (OpenSpec.upto policyManySpec)) policyManyUptoCard

/-- THE SECOND FORM's CARD OF 'exciselaw09.PolicyTexts'. -/
def policyTextsUptoCard : Claim7 := { stood := { row := policyTextsUptoRow, standIns := [], harness := (true, "4927631123cdc9e80ef9834a7db5029fbd522565a38d75a017e766113cb8965c"), looks := true }, kinds := [], alts := [], laidByText := true, laidKinds := [.data, .data, .data, .data, .sentinel, .sentinel, .pinned], laidTests := true, laidLooks := .later }
def PolicyTextsUptoCardSaid : Prop := Claim7.holds Tryz.pinned (.plain (OpenSpec.upto policyTextsSpec)) policyTextsUptoCard

/-- THE SECOND FORM's CARD OF 'exciselaw09.PolicyHolds'. -/
def policyHoldsUptoCard : Claim7 := { stood := { row := policyHoldsUptoRow, standIns := [], harness := (true, "4927631123cdc9e80ef9834a7db5029fbd522565a38d75a017e766113cb8965c"), looks := true }, kinds := [], alts := [], laidByText := true, laidKinds := [.data, .data, .data, .data, .sentinel, .sentinel, .pinned], laidTests := true, laidLooks := .later }
def PolicyHoldsUptoCardSaid : Prop := Claim7.holds Tryz.pinned (.plain (OpenSpec.upto policyHoldsSpec)) policyHoldsUptoCard
end Rows
end Go.Proofs.YthpallkphamobaaGreatDoor
