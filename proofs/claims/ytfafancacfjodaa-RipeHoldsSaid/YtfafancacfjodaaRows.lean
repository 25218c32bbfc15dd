/-
  No cell of these rows narrows 'for every input' (looked for: loops, veiled, ifaces, maps, wideKeys, modest, calm, conditions, laid).
  DERIVED. THE GIVEN ROWS OF THIS SEAT. 4 by the template 'for every input the law returns true; each argument reads behind the call as it read before'; 0 by the template 'total and deterministic' (their statements: YtfafancacfjodaaTotals.lean).
  GIVEN WITH THE SEED: the statements are not yours to turn. If you find one false, say at which input.
  Laid BY PROGRAM, IN A SANDBOX (cutbox-rows.mjs): the forced cells as the released guide's own fill.sh prints them over the translation 862180d85326044f… (all of the seat's roots in one cut). By AI agents, Wed Nov 11 2026. No macro, syntax, notation, axiom, sorry.
-/
import Derived.Test.YtfafancacfjodaaChecked
import GoSem.Claim
import GoSem.ClaimJoined
import GoSem.ClaimMapViews
import Derived.JoinedTies
import Derived.KernelRfl
namespace Go.Proofs.Ytfafancacfjodaa
/- THE CELL 'sum', in the pinned program and in every row, IS THE sha256 OF THE DUMP (.gsa) THAT YtfafancacfjodaaProg.lean LOADS. Nothing in Lean hashes anything: it is a label: what it is worth is what the hold of that sum in a sandbox is worth. -/
noncomputable def Try.pinned : Pinned := { name := "ytfafancacfjodaa", sum := "862180d85326044ff58f972adda8af51b1d308652c3a9bb39c0de2911a0f7c17", checked := Try.checked }
namespace Rows
def none {H : Type} : Left H := { results := [], args := [] }

/-- 'exciselaw24.RipeSums': WHATEVER THE INPUT: true; the input reads as it did. -/
def ripeSumsSpec : ChangeSpec := { name := "ripeSums", fn := fun _ => fun
  | [d1, d2] => { results := [.lit (.bool true)], args := [d1, d2] }
  | _ => none }
def ripeSumsRow : OpenClaim := { program := "ytfafancacfjodaa", sum := "862180d85326044ff58f972adda8af51b1d308652c3a9bb39c0de2911a0f7c17", func := "excise/exciselaw24.RipeSums", spec := "ripeSums", unfollowed := true, recurses := true, apart := false }
def RipeSumsSaid : Prop := ripeSumsRow.holds Try.pinned (OpenSpec.ofChange ripeSumsSpec)

/-- ITS FALSE NEIGHBOUR: 'it returns false'. Refute it at one input. -/
def ripeSumsWrong : ChangeSpec := { name := "ripeSums", fn := fun _ => fun
  | [d1, d2] => { results := [.lit (.bool false)], args := [d1, d2] }
  | _ => none }
def RipeSumsWrongFalsely : Prop := ripeSumsRow.holds Try.pinned (OpenSpec.ofChange ripeSumsWrong)

/-- 'exciselaw24.RipeMixes': WHATEVER THE INPUT: true; the input reads as it did. -/
def ripeMixesSpec : ChangeSpec := { name := "ripeMixes", fn := fun _ => fun
  | [d1, d2, d3] => { results := [.lit (.bool true)], args := [d1, d2, d3] }
  | _ => none }
def ripeMixesRow : OpenClaim := { program := "ytfafancacfjodaa", sum := "862180d85326044ff58f972adda8af51b1d308652c3a9bb39c0de2911a0f7c17", func := "excise/exciselaw24.RipeMixes", spec := "ripeMixes", unfollowed := true, recurses := true, apart := false }
def RipeMixesSaid : Prop := ripeMixesRow.holds Try.pinned (OpenSpec.ofChange ripeMixesSpec)

/-- ITS FALSE NEIGHBOUR: 'it returns false'. Refute it at one input. -/
def ripeMixesWrong : ChangeSpec := { name := "ripeMixes", fn := fun _ => fun
  | [d1, d2, d3] => { results := [.lit (.bool false)], args := [d1, d2, d3] }
  | _ => none }
def RipeMixesWrongFalsely : Prop := ripeMixesRow.holds Try.pinned (OpenSpec.ofChange ripeMixesWrong)

/-- 'exciselaw24.RipeBlocks': WHATEVER THE INPUT: true; the input reads as it did. -/
def ripeBlocksSpec : ChangeSpec := { name := "ripeBlocks", fn := fun _ => fun
  | [d1, d2] => { results := [.lit (.bool true)], args := [d1, d2] }
  | _ => none }
def ripeBlocksRow : OpenClaim := { program := "ytfafancacfjodaa", sum := "862180d85326044ff58f972adda8af51b1d308652c3a9bb39c0de2911a0f7c17", func := "excise/exciselaw24.RipeBlocks", spec := "ripeBlocks", unfollowed := true, recurses := true, apart := false }
def RipeBlocksSaid : Prop := ripeBlocksRow.holds Try.pinned (OpenSpec.ofChange ripeBlocksSpec)

/-- ITS FALSE NEIGHBOUR: 'it returns false'. Refute it at one input. -/
def ripeBlocksWrong : ChangeSpec := { name := "ripeBlocks", fn := fun _ => fun
  | [d1, d2] => { results := [.lit (.bool false)], args := [d1, d2] }
  | _ => none }
def RipeBlocksWrongFalsely : Prop := ripeBlocksRow.holds Try.pinned (OpenSpec.ofChange ripeBlocksWrong)

/-- 'exciselaw24.RipeHolds': WHATEVER THE INPUT: true; the input reads as it did. -/
def ripeHoldsSpec : ChangeSpec := { name := "ripeHolds", fn := fun _ => fun
  | [d1, d2, d3] => { results := [.lit (.bool true)], args := [d1, d2, d3] }
  | _ => none }
def ripeHoldsRow : OpenClaim := { program := "ytfafancacfjodaa", sum := "862180d85326044ff58f972adda8af51b1d308652c3a9bb39c0de2911a0f7c17", func := "excise/exciselaw24.RipeHolds", spec := "ripeHolds", unfollowed := true, recurses := true, apart := false }
def RipeHoldsSaid : Prop := ripeHoldsRow.holds Try.pinned (OpenSpec.ofChange ripeHoldsSpec)

/-- ITS FALSE NEIGHBOUR: 'it returns false'. Refute it at one input. -/
def ripeHoldsWrong : ChangeSpec := { name := "ripeHolds", fn := fun _ => fun
  | [d1, d2, d3] => { results := [.lit (.bool false)], args := [d1, d2, d3] }
  | _ => none }
def RipeHoldsWrongFalsely : Prop := ripeHoldsRow.holds Try.pinned (OpenSpec.ofChange ripeHoldsWrong)

/- THE SECOND FORM. 'bulk': how many values and letters a reading holds, each counted each time it is reached (what is shared counts as often as it is met; a slice's spare places count too). A statement '..UptoSaid' is the law's where the arguments, and the package variables that the reading takes, are together of bulk at most 1048576: NARROWER than '..Said'. Prove '..Said' where nothing that the law and all that it calls make is longer than what came in: it says more and counts as full. Else prove '..UptoSaid'. A law counts once. -/
mutual
def uptoBulk {H : Type} : DataW H → Nat
  | .lit (.string bytes) => bytes.length + 1
  | .lit _ => 1
  | .nil => 1
  | .ptr d => uptoBulk d + 1
  | .slice elems spare => uptoBulkAll elems + uptoBulkAll spare + 1
  | .agg parts => uptoBulkAll parts + 1
  | .iface _ d => uptoBulk d + 1
  | .map entries => uptoBulkEntries entries + 1
  | .held _ => 1
def uptoBulkAll {H : Type} : List (DataW H) → Nat
  | [] => 0
  | d :: r => uptoBulk d + uptoBulkAll r
def uptoBulkEntries {H : Type} : List (Lit × DataW H) → Nat
  | [] => 0
  | x :: r => uptoBulkEntry x + uptoBulkEntries r
def uptoBulkEntry {H : Type} : Lit × DataW H → Nat
  | (.string bytes, d) => bytes.length + uptoBulk d + 1
  | (_, d) => uptoBulk d + 1
 end
def uptoSmall : (H : Type) → List (DataW H) → Bool := fun _ ds => decide (uptoBulkAll ds ≤ 1048576)
def OpenSpec.upto (s : _root_.Go.ChangeSpec) : _root_.Go.OpenSpec := { _root_.Go.OpenSpec.ofChange s with cond := some uptoSmall }

/-- 'exciselaw24.RipeSums', WHERE WHAT IT READS IS OF BULK AT MOST 1048576: true; the input reads as it did. -/
def ripeSumsUptoRow : OpenClaim := { program := "ytfafancacfjodaa", sum := "862180d85326044ff58f972adda8af51b1d308652c3a9bb39c0de2911a0f7c17", func := "excise/exciselaw24.RipeSums", spec := "ripeSums", unfollowed := true, recurses := true, apart := false, narrowed := true }
def RipeSumsUptoSaid : Prop := ripeSumsUptoRow.holds Try.pinned (OpenSpec.upto ripeSumsSpec)

/-- 'exciselaw24.RipeMixes', WHERE WHAT IT READS IS OF BULK AT MOST 1048576: true; the input reads as it did. -/
def ripeMixesUptoRow : OpenClaim := { program := "ytfafancacfjodaa", sum := "862180d85326044ff58f972adda8af51b1d308652c3a9bb39c0de2911a0f7c17", func := "excise/exciselaw24.RipeMixes", spec := "ripeMixes", unfollowed := true, recurses := true, apart := false, narrowed := true }
def RipeMixesUptoSaid : Prop := ripeMixesUptoRow.holds Try.pinned (OpenSpec.upto ripeMixesSpec)

/-- 'exciselaw24.RipeBlocks', WHERE WHAT IT READS IS OF BULK AT MOST 1048576: true; the input reads as it did. -/
def ripeBlocksUptoRow : OpenClaim := { program := "ytfafancacfjodaa", sum := "862180d85326044ff58f972adda8af51b1d308652c3a9bb39c0de2911a0f7c17", func := "excise/exciselaw24.RipeBlocks", spec := "ripeBlocks", unfollowed := true, recurses := true, apart := false, narrowed := true }
def RipeBlocksUptoSaid : Prop := ripeBlocksUptoRow.holds Try.pinned (OpenSpec.upto ripeBlocksSpec)

/-- 'exciselaw24.RipeHolds', WHERE WHAT IT READS IS OF BULK AT MOST 1048576: true; the input reads as it did. -/
def ripeHoldsUptoRow : OpenClaim := { program := "ytfafancacfjodaa", sum := "862180d85326044ff58f972adda8af51b1d308652c3a9bb39c0de2911a0f7c17", func := "excise/exciselaw24.RipeHolds", spec := "ripeHolds", unfollowed := true, recurses := true, apart := false, narrowed := true }
def RipeHoldsUptoSaid : Prop := ripeHoldsUptoRow.holds Try.pinned (OpenSpec.upto ripeHoldsSpec)

end Rows
end Go.Proofs.Ytfafancacfjodaa
