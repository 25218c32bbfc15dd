/-
  No cell of these rows narrows 'for every input' (looked for: loops, veiled, ifaces, maps, wideKeys, modest, calm, conditions, laid).
  DERIVED. THE GIVEN ROWS OF THIS SEAT. 5 by the template 'for every input the law returns true; each argument reads behind the call as it read before'; 0 by the template 'total and deterministic' (their statements: YtioihjgobmbanaaTotals.lean).
  GIVEN WITH THE SEED: the statements are not yours to turn. If you find one false, say at which input.
  Laid BY PROGRAM, IN A SANDBOX (cutbox-rows.mjs): the forced cells as the released guide's own fill.sh prints them over the translation 9262aa3f20c7f401… (all of the seat's roots in one cut). By AI agents, Wed Nov 11 2026. No macro, syntax, notation, axiom, sorry.
-/
import Derived.Test.YtioihjgobmbanaaChecked
import GoSem.Claim
import GoSem.ClaimJoined
import GoSem.ClaimMapViews
import Derived.JoinedTies
import Derived.KernelRfl
namespace Go.Proofs.Ytioihjgobmbanaa
/- THE CELL 'sum', in the pinned program and in every row, IS THE sha256 OF THE DUMP (.gsa) THAT YtioihjgobmbanaaProg.lean LOADS. Nothing in Lean hashes anything: it is a label: what it is worth is what the hold of that sum in a sandbox is worth. -/
noncomputable def Try.pinned : Pinned := { name := "ytioihjgobmbanaa", sum := "9262aa3f20c7f40196c2e0e1bfed5802d80ce43cbc72bdf469621efcf4d1d51f", checked := Try.checked }
namespace Rows
def none {H : Type} : Left H := { results := [], args := [] }

/-- 'exciselaw22.ShareCalls': WHATEVER THE INPUT: true; the input reads as it did. -/
def shareCallsSpec : ChangeSpec := { name := "shareCalls", fn := fun _ => fun
  | [d1, d2] => { results := [.lit (.bool true)], args := [d1, d2] }
  | _ => none }
def shareCallsRow : OpenClaim := { program := "ytioihjgobmbanaa", sum := "9262aa3f20c7f40196c2e0e1bfed5802d80ce43cbc72bdf469621efcf4d1d51f", func := "excise/exciselaw22.ShareCalls", spec := "shareCalls", unfollowed := true, recurses := true, apart := false }
def ShareCallsSaid : Prop := shareCallsRow.holds Try.pinned (OpenSpec.ofChange shareCallsSpec)

/-- ITS FALSE NEIGHBOUR: 'it returns false'. Refute it at one input. -/
def shareCallsWrong : ChangeSpec := { name := "shareCalls", fn := fun _ => fun
  | [d1, d2] => { results := [.lit (.bool false)], args := [d1, d2] }
  | _ => none }
def ShareCallsWrongFalsely : Prop := shareCallsRow.holds Try.pinned (OpenSpec.ofChange shareCallsWrong)

/-- 'exciselaw22.ShareMakes': WHATEVER THE INPUT: true; the input reads as it did. -/
def shareMakesSpec : ChangeSpec := { name := "shareMakes", fn := fun _ => fun
  | [d1, d2, d3] => { results := [.lit (.bool true)], args := [d1, d2, d3] }
  | _ => none }
def shareMakesRow : OpenClaim := { program := "ytioihjgobmbanaa", sum := "9262aa3f20c7f40196c2e0e1bfed5802d80ce43cbc72bdf469621efcf4d1d51f", func := "excise/exciselaw22.ShareMakes", spec := "shareMakes", unfollowed := true, recurses := true, apart := false }
def ShareMakesSaid : Prop := shareMakesRow.holds Try.pinned (OpenSpec.ofChange shareMakesSpec)

/-- ITS FALSE NEIGHBOUR: 'it returns false'. Refute it at one input. -/
def shareMakesWrong : ChangeSpec := { name := "shareMakes", fn := fun _ => fun
  | [d1, d2, d3] => { results := [.lit (.bool false)], args := [d1, d2, d3] }
  | _ => none }
def ShareMakesWrongFalsely : Prop := shareMakesRow.holds Try.pinned (OpenSpec.ofChange shareMakesWrong)

/-- 'exciselaw22.ShareBegins': WHATEVER THE INPUT: true; the input reads as it did. -/
def shareBeginsSpec : ChangeSpec := { name := "shareBegins", fn := fun _ => fun
  | [d1, d2, d3] => { results := [.lit (.bool true)], args := [d1, d2, d3] }
  | _ => none }
def shareBeginsRow : OpenClaim := { program := "ytioihjgobmbanaa", sum := "9262aa3f20c7f40196c2e0e1bfed5802d80ce43cbc72bdf469621efcf4d1d51f", func := "excise/exciselaw22.ShareBegins", spec := "shareBegins", unfollowed := true, recurses := true, apart := false }
def ShareBeginsSaid : Prop := shareBeginsRow.holds Try.pinned (OpenSpec.ofChange shareBeginsSpec)

/-- ITS FALSE NEIGHBOUR: 'it returns false'. Refute it at one input. -/
def shareBeginsWrong : ChangeSpec := { name := "shareBegins", fn := fun _ => fun
  | [d1, d2, d3] => { results := [.lit (.bool false)], args := [d1, d2, d3] }
  | _ => none }
def ShareBeginsWrongFalsely : Prop := shareBeginsRow.holds Try.pinned (OpenSpec.ofChange shareBeginsWrong)

/-- 'exciselaw22.ShareHolds': WHATEVER THE INPUT: true; the input reads as it did. -/
def shareHoldsSpec : ChangeSpec := { name := "shareHolds", fn := fun _ => fun
  | [d1, d2, d3] => { results := [.lit (.bool true)], args := [d1, d2, d3] }
  | _ => none }
def shareHoldsRow : OpenClaim := { program := "ytioihjgobmbanaa", sum := "9262aa3f20c7f40196c2e0e1bfed5802d80ce43cbc72bdf469621efcf4d1d51f", func := "excise/exciselaw22.ShareHolds", spec := "shareHolds", unfollowed := true, recurses := true, apart := false }
def ShareHoldsSaid : Prop := shareHoldsRow.holds Try.pinned (OpenSpec.ofChange shareHoldsSpec)

/-- ITS FALSE NEIGHBOUR: 'it returns false'. Refute it at one input. -/
def shareHoldsWrong : ChangeSpec := { name := "shareHolds", fn := fun _ => fun
  | [d1, d2, d3] => { results := [.lit (.bool false)], args := [d1, d2, d3] }
  | _ => none }
def ShareHoldsWrongFalsely : Prop := shareHoldsRow.holds Try.pinned (OpenSpec.ofChange shareHoldsWrong)

/-- 'exciselaw22.ShareKinds': WHATEVER THE INPUT: true; the input reads as it did. -/
def shareKindsSpec : ChangeSpec := { name := "shareKinds", fn := fun _ => fun
  | [d] => { results := [.lit (.bool true)], args := [d] }
  | _ => none }
def shareKindsRow : OpenClaim := { program := "ytioihjgobmbanaa", sum := "9262aa3f20c7f40196c2e0e1bfed5802d80ce43cbc72bdf469621efcf4d1d51f", func := "excise/exciselaw22.ShareKinds", spec := "shareKinds", unfollowed := true, recurses := true, apart := false }
def ShareKindsSaid : Prop := shareKindsRow.holds Try.pinned (OpenSpec.ofChange shareKindsSpec)

/-- ITS FALSE NEIGHBOUR: 'it returns false'. Refute it at one input. -/
def shareKindsWrong : ChangeSpec := { name := "shareKinds", fn := fun _ => fun
  | [d] => { results := [.lit (.bool false)], args := [d] }
  | _ => none }
def ShareKindsWrongFalsely : Prop := shareKindsRow.holds Try.pinned (OpenSpec.ofChange shareKindsWrong)

/- THE SECOND FORM. 'bulk': how many values and letters a reading holds, each counted each time it is reached (what is shared counts as often as it is met; a slice's spare places count too). A statement '..UptoSaid' is the law's where the arguments, and the package variables that the reading takes, are together of bulk at most 1048576: NARROWER than '..Said'. Prove '..Said' where nothing that the law and all that it calls make is longer than what came in: it says more and counts as full. Else prove '..UptoSaid'. A law counts once. -/
mutual
def uptoBulk {H : Type} : DataW H → Nat
  | .lit (.string bytes) => bytes.length + 1
  | .lit _ => 1
  | .nil => 1
  | .ptr d => uptoBulk d + 1
  | .slice elems spare => uptoBulkAll elems + uptoBulkAll spare + 1
  | .agg parts => uptoBulkAll parts + 1
  | .iface _ d => uptoBulk d + 1
  | .map entries => uptoBulkEntries entries + 1
  | .held _ => 1
def uptoBulkAll {H : Type} : List (DataW H) → Nat
  | [] => 0
  | d :: r => uptoBulk d + uptoBulkAll r
def uptoBulkEntries {H : Type} : List (Lit × DataW H) → Nat
  | [] => 0
  | x :: r => uptoBulkEntry x + uptoBulkEntries r
def uptoBulkEntry {H : Type} : Lit × DataW H → Nat
  | (.string bytes, d) => bytes.length + uptoBulk d + 1
  | (_, d) => uptoBulk d + 1
 end
def uptoSmall : (H : Type) → List (DataW H) → Bool := fun _ ds => decide (uptoBulkAll ds ≤ 1048576)
def OpenSpec.upto (s : _root_.Go.ChangeSpec) : _root_.Go.OpenSpec := { _root_.Go.OpenSpec.ofChange s with cond := some uptoSmall }

/-- 'exciselaw22.ShareCalls', WHERE WHAT IT READS IS OF BULK AT MOST 1048576: true; the input reads as it did. -/
def shareCallsUptoRow : OpenClaim := { program := "ytioihjgobmbanaa", sum := "9262aa3f20c7f40196c2e0e1bfed5802d80ce43cbc72bdf469621efcf4d1d51f", func := "excise/exciselaw22.ShareCalls", spec := "shareCalls", unfollowed := true, recurses := true, apart := false, narrowed := true }
def ShareCallsUptoSaid : Prop := shareCallsUptoRow.holds Try.pinned (OpenSpec.upto shareCallsSpec)

/-- 'exciselaw22.ShareMakes', WHERE WHAT IT READS IS OF BULK AT MOST 1048576: true; the input reads as it did. -/
def shareMakesUptoRow : OpenClaim := { program := "ytioihjgobmbanaa", sum := "9262aa3f20c7f40196c2e0e1bfed5802d80ce43cbc72bdf469621efcf4d1d51f", func := "excise/exciselaw22.ShareMakes", spec := "shareMakes", unfollowed := true, recurses := true, apart := false, narrowed := true }
def ShareMakesUptoSaid : Prop := shareMakesUptoRow.holds Try.pinned (OpenSpec.upto shareMakesSpec)

/-- 'exciselaw22.ShareBegins', WHERE WHAT IT READS IS OF BULK AT MOST 1048576: true; the input reads as it did. -/
def shareBeginsUptoRow : OpenClaim := { program := "ytioihjgobmbanaa", sum := "9262aa3f20c7f40196c2e0e1bfed5802d80ce43cbc72bdf469621efcf4d1d51f", func := "excise/exciselaw22.ShareBegins", spec := "shareBegins", unfollowed := true, recurses := true, apart := false, narrowed := true }
def ShareBeginsUptoSaid : Prop := shareBeginsUptoRow.holds Try.pinned (OpenSpec.upto shareBeginsSpec)

/-- 'exciselaw22.ShareHolds', WHERE WHAT IT READS IS OF BULK AT MOST 1048576: true; the input reads as it did. -/
def shareHoldsUptoRow : OpenClaim := { program := "ytioihjgobmbanaa", sum := "9262aa3f20c7f40196c2e0e1bfed5802d80ce43cbc72bdf469621efcf4d1d51f", func := "excise/exciselaw22.ShareHolds", spec := "shareHolds", unfollowed := true, recurses := true, apart := false, narrowed := true }
def ShareHoldsUptoSaid : Prop := shareHoldsUptoRow.holds Try.pinned (OpenSpec.upto shareHoldsSpec)

/-- 'exciselaw22.ShareKinds', WHERE WHAT IT READS IS OF BULK AT MOST 1048576: true; the input reads as it did. -/
def shareKindsUptoRow : OpenClaim := { program := "ytioihjgobmbanaa", sum := "9262aa3f20c7f40196c2e0e1bfed5802d80ce43cbc72bdf469621efcf4d1d51f", func := "excise/exciselaw22.ShareKinds", spec := "shareKinds", unfollowed := true, recurses := true, apart := false, narrowed := true }
def ShareKindsUptoSaid : Prop := shareKindsUptoRow.holds Try.pinned (OpenSpec.upto shareKindsSpec)

end Rows
end Go.Proofs.Ytioihjgobmbanaa
