/-
  DERIVED. GIVEN WITH THE SEED: THE CARDS: each row of YtijkdabmegbcjaaDoorRows.lean that lists a variable, with what it lists TIED to the program's text (the seventh form; the later family's looks); each row that meets fmt, with fmt's text TOLD by the authors' own Lean function (tested against real Go, not proved from fmt's source: count such statements apart). THE CARD IS WHAT COUNTS. Prove the row's statement (the work); the ties are given (YtijkdabmegbcjaaDoorTie.lean); close each card by the builder's one call (the guide's Derived/Test/ToyasCard.lean, 'card_holds'). Laid BY PROGRAM, IN A SANDBOX (cutbox-door.mjs). By AI agents, Wed Nov 11 2026. No macro, syntax, notation, axiom, sorry.
-/
import Derived.Test.YtijkdabmegbcjaaDoorRows
import GoSem.ClaimSeven
namespace Go.Proofs.YtijkdabmegbcjaaDoor
namespace Rows

/-- THE TIED CARD OF 'exciselaw11.FlowHolds'. -/
def flowHoldsCard : Claim7 := { stood := { row := flowHoldsRow, standIns := [], harness := (true, "7b163b1edbdf0778f6c3eaec29253ab2cc0b405af2a9039baed6d353664ef88c"), looks := false }, kinds := [], alts := [], laidByText := true, laidKinds := [.data, .data, .data], laidTests := true, laidLooks := .later }
def FlowHoldsCardSaid : Prop := Claim7.holds Tryd.pinned (.plain (OpenSpec.ofChange flowHoldsSpec)) flowHoldsCard

/-- THE SECOND FORM's CARD OF 'exciselaw11.FlowHolds'. -/
def flowHoldsUptoCard : Claim7 := { stood := { row := flowHoldsUptoRow, standIns := [], harness := (true, "7b163b1edbdf0778f6c3eaec29253ab2cc0b405af2a9039baed6d353664ef88c"), looks := false }, kinds := [], alts := [], laidByText := true, laidKinds := [.data, .data, .data], laidTests := true, laidLooks := .later }
def FlowHoldsUptoCardSaid : Prop := Claim7.holds Tryd.pinned (.plain (OpenSpec.upto flowHoldsSpec)) flowHoldsUptoCard
end Rows
end Go.Proofs.YtijkdabmegbcjaaDoor
