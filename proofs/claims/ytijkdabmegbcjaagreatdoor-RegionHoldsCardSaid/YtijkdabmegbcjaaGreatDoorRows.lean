/-
  NARROWER THAN 'FOR EVERY INPUT', by the rows' own cells (each row's printed sentence says how): FlowBlocks: laid · FlowPlaces: laid · FlowWalks: laid · MeetBehinds: laid · MeetLines: laid · MeetHolds: laid · MeetAll: laid · RegionFits: laid · RegionHolds: laid.
  DERIVED. THE GIVEN ROWS OF THIS SEAT. 9 by the template 'for every input the law returns true; each argument reads behind the call as it read before'; 0 by the template 'total and deterministic' (their statements: YtijkdabmegbcjaaGreatDoorTotals.lean).
  GIVEN WITH THE SEED: the statements are not yours to turn. If you find one false, say at which input.
  Laid BY PROGRAM, IN A SANDBOX (cutbox-rows.mjs): the forced cells as the released guide's own fill.sh prints them over the translation b8fc173b8cac5177… (all of the seat's roots in one cut). By AI agents, Wed Nov 11 2026. No macro, syntax, notation, axiom, sorry.
-/
import Derived.Test.YtijkdabmegbcjaaGreatDoorChecked
import GoSem.Claim
import GoSem.ClaimJoined
import GoSem.ClaimMapViews
import Derived.JoinedTies
import Derived.KernelRfl
namespace Go.Proofs.YtijkdabmegbcjaaGreatDoor
/- THE CELL 'sum', in the pinned program and in every row, IS THE sha256 OF THE DUMP (.gsa) THAT YtijkdabmegbcjaaGreatDoorProg.lean LOADS. Nothing in Lean hashes anything: it is a label: what it is worth is what the hold of that sum in a sandbox is worth. -/
noncomputable def Tryz.pinned : Pinned := { name := "ytijkdabmegbcjaagreatdoor", sum := "b8fc173b8cac5177999dbe279b87c767844d332741e669292c1655615af2f4de", checked := Tryz.checked }
namespace Rows
def none {H : Type} : Left H := { results := [], args := [] }

/- WHAT THE LISTED PACKAGE-LEVEL VARIABLES READ AS WHEN THE CALL BEGINS. Each datum BY PROGRAM (the guide's laid-datum.mjs) off the statement by which the dump's own 'gosem.cut.vars' lays the variable. In a bare row this is a premise. The card (YtijkdabmegbcjaaGreatDoorCards.lean) ties it to the program's text. -/
def laid_math_bits_deBruijn32tab {H : Type} : DataW H := .agg [.lit (.int .u8 0), .lit (.int .u8 1), .lit (.int .u8 28), .lit (.int .u8 2), .lit (.int .u8 29), .lit (.int .u8 14), .lit (.int .u8 24), .lit (.int .u8 3), .lit (.int .u8 30), .lit (.int .u8 22), .lit (.int .u8 20), .lit (.int .u8 15), .lit (.int .u8 25), .lit (.int .u8 17), .lit (.int .u8 4), .lit (.int .u8 8), .lit (.int .u8 31), .lit (.int .u8 27), .lit (.int .u8 13), .lit (.int .u8 23), .lit (.int .u8 21), .lit (.int .u8 19), .lit (.int .u8 16), .lit (.int .u8 7), .lit (.int .u8 26), .lit (.int .u8 12), .lit (.int .u8 18), .lit (.int .u8 6), .lit (.int .u8 11), .lit (.int .u8 5), .lit (.int .u8 10), .lit (.int .u8 9)]
def laid_math_bits_deBruijn64tab {H : Type} : DataW H := .agg [.lit (.int .u8 0), .lit (.int .u8 1), .lit (.int .u8 56), .lit (.int .u8 2), .lit (.int .u8 57), .lit (.int .u8 49), .lit (.int .u8 28), .lit (.int .u8 3), .lit (.int .u8 61), .lit (.int .u8 58), .lit (.int .u8 42), .lit (.int .u8 50), .lit (.int .u8 38), .lit (.int .u8 29), .lit (.int .u8 17), .lit (.int .u8 4), .lit (.int .u8 62), .lit (.int .u8 47), .lit (.int .u8 59), .lit (.int .u8 36), .lit (.int .u8 45), .lit (.int .u8 43), .lit (.int .u8 51), .lit (.int .u8 22), .lit (.int .u8 53), .lit (.int .u8 39), .lit (.int .u8 33), .lit (.int .u8 30), .lit (.int .u8 24), .lit (.int .u8 18), .lit (.int .u8 12), .lit (.int .u8 5), .lit (.int .u8 63), .lit (.int .u8 55), .lit (.int .u8 48), .lit (.int .u8 27), .lit (.int .u8 60), .lit (.int .u8 41), .lit (.int .u8 37), .lit (.int .u8 16), .lit (.int .u8 46), .lit (.int .u8 35), .lit (.int .u8 44), .lit (.int .u8 21), .lit (.int .u8 52), .lit (.int .u8 32), .lit (.int .u8 23), .lit (.int .u8 11), .lit (.int .u8 54), .lit (.int .u8 26), .lit (.int .u8 40), .lit (.int .u8 15), .lit (.int .u8 34), .lit (.int .u8 20), .lit (.int .u8 31), .lit (.int .u8 10), .lit (.int .u8 25), .lit (.int .u8 14), .lit (.int .u8 19), .lit (.int .u8 9), .lit (.int .u8 13), .lit (.int .u8 8), .lit (.int .u8 7), .lit (.int .u8 6)]
def laid_internal_strconv_uint64pow10 {H : Type} : DataW H := .agg [.lit (.int .u64 1), .lit (.int .u64 10), .lit (.int .u64 100), .lit (.int .u64 1000), .lit (.int .u64 10000), .lit (.int .u64 100000), .lit (.int .u64 1000000), .lit (.int .u64 10000000), .lit (.int .u64 100000000), .lit (.int .u64 1000000000), .lit (.int .u64 10000000000), .lit (.int .u64 100000000000), .lit (.int .u64 1000000000000), .lit (.int .u64 10000000000000), .lit (.int .u64 100000000000000), .lit (.int .u64 1000000000000000), .lit (.int .u64 10000000000000000), .lit (.int .u64 100000000000000000), .lit (.int .u64 1000000000000000000), .lit (.int .u64 10000000000000000000)]

/-- 'exciselaw11.FlowBlocks': WHATEVER THE INPUT: true; the input reads as it did. -/
def flowBlocksSpec : ChangeSpec := { name := "flowBlocks", fn := fun _ => fun
  | [d] => { results := [.lit (.bool true)], args := [d] }
  | _ => none }
def flowBlocksRow : OpenClaim := { program := "ytijkdabmegbcjaagreatdoor", sum := "b8fc173b8cac5177999dbe279b87c767844d332741e669292c1655615af2f4de", func := "excise/exciselaw11.FlowBlocks", spec := "flowBlocks", unfollowed := true, recurses := true, named := ["internal/strconv.uint64pow10", "math/bits.deBruijn32tab", "math/bits.deBruijn64tab"], apart := false, laid := [("math/bits.deBruijn32tab", laid_math_bits_deBruijn32tab), ("math/bits.deBruijn64tab", laid_math_bits_deBruijn64tab), ("internal/strconv.uint64pow10", laid_internal_strconv_uint64pow10)] }
def FlowBlocksSaid : Prop := flowBlocksRow.holds Tryz.pinned (OpenSpec.ofChange flowBlocksSpec)

/-- ITS FALSE NEIGHBOUR: 'it returns false'. Refute it at one input. -/
def flowBlocksWrong : ChangeSpec := { name := "flowBlocks", fn := fun _ => fun
  | [d] => { results := [.lit (.bool false)], args := [d] }
  | _ => none }
def FlowBlocksWrongFalsely : Prop := flowBlocksRow.holds Tryz.pinned (OpenSpec.ofChange flowBlocksWrong)

/-- 'exciselaw11.FlowPlaces': WHATEVER THE INPUT: true; the input reads as it did. -/
def flowPlacesSpec : ChangeSpec := { name := "flowPlaces", fn := fun _ => fun
  | [d1, d2] => { results := [.lit (.bool true)], args := [d1, d2] }
  | _ => none }
def flowPlacesRow : OpenClaim := { program := "ytijkdabmegbcjaagreatdoor", sum := "b8fc173b8cac5177999dbe279b87c767844d332741e669292c1655615af2f4de", func := "excise/exciselaw11.FlowPlaces", spec := "flowPlaces", unfollowed := true, recurses := true, named := ["internal/strconv.uint64pow10", "math/bits.deBruijn32tab", "math/bits.deBruijn64tab"], apart := false, laid := [("math/bits.deBruijn32tab", laid_math_bits_deBruijn32tab), ("math/bits.deBruijn64tab", laid_math_bits_deBruijn64tab), ("internal/strconv.uint64pow10", laid_internal_strconv_uint64pow10)] }
def FlowPlacesSaid : Prop := flowPlacesRow.holds Tryz.pinned (OpenSpec.ofChange flowPlacesSpec)

/-- ITS FALSE NEIGHBOUR: 'it returns false'. Refute it at one input. -/
def flowPlacesWrong : ChangeSpec := { name := "flowPlaces", fn := fun _ => fun
  | [d1, d2] => { results := [.lit (.bool false)], args := [d1, d2] }
  | _ => none }
def FlowPlacesWrongFalsely : Prop := flowPlacesRow.holds Tryz.pinned (OpenSpec.ofChange flowPlacesWrong)

/-- 'exciselaw11.FlowWalks': WHATEVER THE INPUT: true; the input reads as it did. -/
def flowWalksSpec : ChangeSpec := { name := "flowWalks", fn := fun _ => fun
  | [d1, d2, d3] => { results := [.lit (.bool true)], args := [d1, d2, d3] }
  | _ => none }
def flowWalksRow : OpenClaim := { program := "ytijkdabmegbcjaagreatdoor", sum := "b8fc173b8cac5177999dbe279b87c767844d332741e669292c1655615af2f4de", func := "excise/exciselaw11.FlowWalks", spec := "flowWalks", unfollowed := true, recurses := true, named := ["internal/strconv.uint64pow10", "math/bits.deBruijn32tab", "math/bits.deBruijn64tab"], apart := false, laid := [("math/bits.deBruijn32tab", laid_math_bits_deBruijn32tab), ("math/bits.deBruijn64tab", laid_math_bits_deBruijn64tab), ("internal/strconv.uint64pow10", laid_internal_strconv_uint64pow10)] }
def FlowWalksSaid : Prop := flowWalksRow.holds Tryz.pinned (OpenSpec.ofChange flowWalksSpec)

/-- ITS FALSE NEIGHBOUR: 'it returns false'. Refute it at one input. -/
def flowWalksWrong : ChangeSpec := { name := "flowWalks", fn := fun _ => fun
  | [d1, d2, d3] => { results := [.lit (.bool false)], args := [d1, d2, d3] }
  | _ => none }
def FlowWalksWrongFalsely : Prop := flowWalksRow.holds Tryz.pinned (OpenSpec.ofChange flowWalksWrong)

/-- 'exciselaw12.MeetBehinds': WHATEVER THE INPUT: true; the input reads as it did. -/
def meetBehindsSpec : ChangeSpec := { name := "meetBehinds", fn := fun _ => fun
  | [d1, d2] => { results := [.lit (.bool true)], args := [d1, d2] }
  | _ => none }
def meetBehindsRow : OpenClaim := { program := "ytijkdabmegbcjaagreatdoor", sum := "b8fc173b8cac5177999dbe279b87c767844d332741e669292c1655615af2f4de", func := "excise/exciselaw12.MeetBehinds", spec := "meetBehinds", inPlace := ["maps.clone"], unfollowed := true, recurses := true, named := ["internal/strconv.uint64pow10", "math/bits.deBruijn32tab", "math/bits.deBruijn64tab"], apart := false, laid := [("math/bits.deBruijn32tab", laid_math_bits_deBruijn32tab), ("math/bits.deBruijn64tab", laid_math_bits_deBruijn64tab), ("internal/strconv.uint64pow10", laid_internal_strconv_uint64pow10)] }
def MeetBehindsSaid : Prop := meetBehindsRow.holds Tryz.pinned (OpenSpec.ofChange meetBehindsSpec)

/-- ITS FALSE NEIGHBOUR: 'it returns false'. Refute it at one input. -/
def meetBehindsWrong : ChangeSpec := { name := "meetBehinds", fn := fun _ => fun
  | [d1, d2] => { results := [.lit (.bool false)], args := [d1, d2] }
  | _ => none }
def MeetBehindsWrongFalsely : Prop := meetBehindsRow.holds Tryz.pinned (OpenSpec.ofChange meetBehindsWrong)

/-- 'exciselaw12.MeetLines': WHATEVER THE INPUT: true; the input reads as it did. -/
def meetLinesSpec : ChangeSpec := { name := "meetLines", fn := fun _ => fun
  | [d1, d2, d3] => { results := [.lit (.bool true)], args := [d1, d2, d3] }
  | _ => none }
def meetLinesRow : OpenClaim := { program := "ytijkdabmegbcjaagreatdoor", sum := "b8fc173b8cac5177999dbe279b87c767844d332741e669292c1655615af2f4de", func := "excise/exciselaw12.MeetLines", spec := "meetLines", inPlace := ["maps.clone"], unfollowed := true, recurses := true, named := ["internal/strconv.uint64pow10", "math/bits.deBruijn32tab", "math/bits.deBruijn64tab"], apart := false, laid := [("math/bits.deBruijn32tab", laid_math_bits_deBruijn32tab), ("math/bits.deBruijn64tab", laid_math_bits_deBruijn64tab), ("internal/strconv.uint64pow10", laid_internal_strconv_uint64pow10)] }
def MeetLinesSaid : Prop := meetLinesRow.holds Tryz.pinned (OpenSpec.ofChange meetLinesSpec)

/-- ITS FALSE NEIGHBOUR: 'it returns false'. Refute it at one input. -/
def meetLinesWrong : ChangeSpec := { name := "meetLines", fn := fun _ => fun
  | [d1, d2, d3] => { results := [.lit (.bool false)], args := [d1, d2, d3] }
  | _ => none }
def MeetLinesWrongFalsely : Prop := meetLinesRow.holds Tryz.pinned (OpenSpec.ofChange meetLinesWrong)

/-- 'exciselaw12.MeetHolds': WHATEVER THE INPUT: true; the input reads as it did. -/
def meetHoldsSpec : ChangeSpec := { name := "meetHolds", fn := fun _ => fun
  | [d1, d2] => { results := [.lit (.bool true)], args := [d1, d2] }
  | _ => none }
def meetHoldsRow : OpenClaim := { program := "ytijkdabmegbcjaagreatdoor", sum := "b8fc173b8cac5177999dbe279b87c767844d332741e669292c1655615af2f4de", func := "excise/exciselaw12.MeetHolds", spec := "meetHolds", inPlace := ["maps.clone"], unfollowed := true, recurses := true, named := ["internal/strconv.uint64pow10", "math/bits.deBruijn32tab", "math/bits.deBruijn64tab"], apart := false, laid := [("math/bits.deBruijn32tab", laid_math_bits_deBruijn32tab), ("math/bits.deBruijn64tab", laid_math_bits_deBruijn64tab), ("internal/strconv.uint64pow10", laid_internal_strconv_uint64pow10)] }
def MeetHoldsSaid : Prop := meetHoldsRow.holds Tryz.pinned (OpenSpec.ofChange meetHoldsSpec)

/-- ITS FALSE NEIGHBOUR: 'it returns false'. Refute it at one input. -/
def meetHoldsWrong : ChangeSpec := { name := "meetHolds", fn := fun _ => fun
  | [d1, d2] => { results := [.lit (.bool false)], args := [d1, d2] }
  | _ => none }
def MeetHoldsWrongFalsely : Prop := meetHoldsRow.holds Tryz.pinned (OpenSpec.ofChange meetHoldsWrong)

/-- 'exciselaw12.MeetAll': WHATEVER THE INPUT: true; the input reads as it did. -/
def meetAllSpec : ChangeSpec := { name := "meetAll", fn := fun _ => fun
  | [d] => { results := [.lit (.bool true)], args := [d] }
  | _ => none }
def meetAllRow : OpenClaim := { program := "ytijkdabmegbcjaagreatdoor", sum := "b8fc173b8cac5177999dbe279b87c767844d332741e669292c1655615af2f4de", func := "excise/exciselaw12.MeetAll", spec := "meetAll", inPlace := ["maps.clone"], unfollowed := true, recurses := true, named := ["internal/strconv.uint64pow10", "math/bits.deBruijn32tab", "math/bits.deBruijn64tab"], apart := false, laid := [("math/bits.deBruijn32tab", laid_math_bits_deBruijn32tab), ("math/bits.deBruijn64tab", laid_math_bits_deBruijn64tab), ("internal/strconv.uint64pow10", laid_internal_strconv_uint64pow10)] }
def MeetAllSaid : Prop := meetAllRow.holds Tryz.pinned (OpenSpec.ofChange meetAllSpec)

/-- ITS FALSE NEIGHBOUR: 'it returns false'. Refute it at one input. -/
def meetAllWrong : ChangeSpec := { name := "meetAll", fn := fun _ => fun
  | [d] => { results := [.lit (.bool false)], args := [d] }
  | _ => none }
def MeetAllWrongFalsely : Prop := meetAllRow.holds Tryz.pinned (OpenSpec.ofChange meetAllWrong)

/-- 'exciselaw13.RegionFits': WHATEVER THE INPUT: true; the input reads as it did. -/
def regionFitsSpec : ChangeSpec := { name := "regionFits", fn := fun _ => fun
  | [d1, d2] => { results := [.lit (.bool true)], args := [d1, d2] }
  | _ => none }
def regionFitsRow : OpenClaim := { program := "ytijkdabmegbcjaagreatdoor", sum := "b8fc173b8cac5177999dbe279b87c767844d332741e669292c1655615af2f4de", func := "excise/exciselaw13.RegionFits", spec := "regionFits", inPlace := ["maps.clone"], unfollowed := true, recurses := true, named := ["internal/strconv.uint64pow10", "math/bits.deBruijn32tab", "math/bits.deBruijn64tab"], apart := false, laid := [("math/bits.deBruijn32tab", laid_math_bits_deBruijn32tab), ("math/bits.deBruijn64tab", laid_math_bits_deBruijn64tab), ("internal/strconv.uint64pow10", laid_internal_strconv_uint64pow10)] }
def RegionFitsSaid : Prop := regionFitsRow.holds Tryz.pinned (OpenSpec.ofChange regionFitsSpec)

/-- ITS FALSE NEIGHBOUR: 'it returns false'. Refute it at one input. -/
def regionFitsWrong : ChangeSpec := { name := "regionFits", fn := fun _ => fun
  | [d1, d2] => { results := [.lit (.bool false)], args := [d1, d2] }
  | _ => none }
def RegionFitsWrongFalsely : Prop := regionFitsRow.holds Tryz.pinned (OpenSpec.ofChange regionFitsWrong)

/-- 'exciselaw13.RegionHolds': WHATEVER THE INPUT: true; the input reads as it did. -/
def regionHoldsSpec : ChangeSpec := { name := "regionHolds", fn := fun _ => fun
  | [d1, d2, d3] => { results := [.lit (.bool true)], args := [d1, d2, d3] }
  | _ => none }
def regionHoldsRow : OpenClaim := { program := "ytijkdabmegbcjaagreatdoor", sum := "b8fc173b8cac5177999dbe279b87c767844d332741e669292c1655615af2f4de", func := "excise/exciselaw13.RegionHolds", spec := "regionHolds", inPlace := ["maps.clone"], unfollowed := true, recurses := true, named := ["internal/strconv.uint64pow10", "math/bits.deBruijn32tab", "math/bits.deBruijn64tab"], apart := false, laid := [("math/bits.deBruijn32tab", laid_math_bits_deBruijn32tab), ("math/bits.deBruijn64tab", laid_math_bits_deBruijn64tab), ("internal/strconv.uint64pow10", laid_internal_strconv_uint64pow10)] }
def RegionHoldsSaid : Prop := regionHoldsRow.holds Tryz.pinned (OpenSpec.ofChange regionHoldsSpec)

/-- ITS FALSE NEIGHBOUR: 'it returns false'. Refute it at one input. -/
def regionHoldsWrong : ChangeSpec := { name := "regionHolds", fn := fun _ => fun
  | [d1, d2, d3] => { results := [.lit (.bool false)], args := [d1, d2, d3] }
  | _ => none }
def RegionHoldsWrongFalsely : Prop := regionHoldsRow.holds Tryz.pinned (OpenSpec.ofChange regionHoldsWrong)

/- THE SECOND FORM. 'bulk': how many values and letters a reading holds, each counted each time it is reached (what is shared counts as often as it is met; a slice's spare places count too). A statement '..UptoSaid' is the law's where the arguments, and the package variables that the reading takes, are together of bulk at most 1048576: NARROWER than '..Said'. Prove '..Said' where nothing that the law and all that it calls make is longer than what came in: it says more and counts as full. Else prove '..UptoSaid'. A law counts once. -/
mutual
def uptoBulk {H : Type} : DataW H → Nat
  | .lit (.string bytes) => bytes.length + 1
  | .lit _ => 1
  | .nil => 1
  | .ptr d => uptoBulk d + 1
  | .slice elems spare => uptoBulkAll elems + uptoBulkAll spare + 1
  | .agg parts => uptoBulkAll parts + 1
  | .iface _ d => uptoBulk d + 1
  | .map entries => uptoBulkEntries entries + 1
  | .held _ => 1
def uptoBulkAll {H : Type} : List (DataW H) → Nat
  | [] => 0
  | d :: r => uptoBulk d + uptoBulkAll r
def uptoBulkEntries {H : Type} : List (Lit × DataW H) → Nat
  | [] => 0
  | x :: r => uptoBulkEntry x + uptoBulkEntries r
def uptoBulkEntry {H : Type} : Lit × DataW H → Nat
  | (.string bytes, d) => bytes.length + uptoBulk d + 1
  | (_, d) => uptoBulk d + 1
 end
def uptoSmall : (H : Type) → List (DataW H) → Bool := fun _ ds => decide (uptoBulkAll ds ≤ 1048576)
def OpenSpec.upto (s : _root_.Go.ChangeSpec) : _root_.Go.OpenSpec := { _root_.Go.OpenSpec.ofChange s with cond := some uptoSmall }

/-- 'exciselaw11.FlowBlocks', WHERE WHAT IT READS IS OF BULK AT MOST 1048576: true; the input reads as it did. -/
def flowBlocksUptoRow : OpenClaim := { program := "ytijkdabmegbcjaagreatdoor", sum := "b8fc173b8cac5177999dbe279b87c767844d332741e669292c1655615af2f4de", func := "excise/exciselaw11.FlowBlocks", spec := "flowBlocks", unfollowed := true, recurses := true, named := ["internal/strconv.uint64pow10", "math/bits.deBruijn32tab", "math/bits.deBruijn64tab"], apart := false, laid := [("math/bits.deBruijn32tab", laid_math_bits_deBruijn32tab), ("math/bits.deBruijn64tab", laid_math_bits_deBruijn64tab), ("internal/strconv.uint64pow10", laid_internal_strconv_uint64pow10)], narrowed := true }
def FlowBlocksUptoSaid : Prop := flowBlocksUptoRow.holds Tryz.pinned (OpenSpec.upto flowBlocksSpec)

/-- 'exciselaw11.FlowPlaces', WHERE WHAT IT READS IS OF BULK AT MOST 1048576: true; the input reads as it did. -/
def flowPlacesUptoRow : OpenClaim := { program := "ytijkdabmegbcjaagreatdoor", sum := "b8fc173b8cac5177999dbe279b87c767844d332741e669292c1655615af2f4de", func := "excise/exciselaw11.FlowPlaces", spec := "flowPlaces", unfollowed := true, recurses := true, named := ["internal/strconv.uint64pow10", "math/bits.deBruijn32tab", "math/bits.deBruijn64tab"], apart := false, laid := [("math/bits.deBruijn32tab", laid_math_bits_deBruijn32tab), ("math/bits.deBruijn64tab", laid_math_bits_deBruijn64tab), ("internal/strconv.uint64pow10", laid_internal_strconv_uint64pow10)], narrowed := true }
def FlowPlacesUptoSaid : Prop := flowPlacesUptoRow.holds Tryz.pinned (OpenSpec.upto flowPlacesSpec)

/-- 'exciselaw11.FlowWalks', WHERE WHAT IT READS IS OF BULK AT MOST 1048576: true; the input reads as it did. -/
def flowWalksUptoRow : OpenClaim := { program := "ytijkdabmegbcjaagreatdoor", sum := "b8fc173b8cac5177999dbe279b87c767844d332741e669292c1655615af2f4de", func := "excise/exciselaw11.FlowWalks", spec := "flowWalks", unfollowed := true, recurses := true, named := ["internal/strconv.uint64pow10", "math/bits.deBruijn32tab", "math/bits.deBruijn64tab"], apart := false, laid := [("math/bits.deBruijn32tab", laid_math_bits_deBruijn32tab), ("math/bits.deBruijn64tab", laid_math_bits_deBruijn64tab), ("internal/strconv.uint64pow10", laid_internal_strconv_uint64pow10)], narrowed := true }
def FlowWalksUptoSaid : Prop := flowWalksUptoRow.holds Tryz.pinned (OpenSpec.upto flowWalksSpec)

/-- 'exciselaw12.MeetBehinds', WHERE WHAT IT READS IS OF BULK AT MOST 1048576: true; the input reads as it did. -/
def meetBehindsUptoRow : OpenClaim := { program := "ytijkdabmegbcjaagreatdoor", sum := "b8fc173b8cac5177999dbe279b87c767844d332741e669292c1655615af2f4de", func := "excise/exciselaw12.MeetBehinds", spec := "meetBehinds", inPlace := ["maps.clone"], unfollowed := true, recurses := true, named := ["internal/strconv.uint64pow10", "math/bits.deBruijn32tab", "math/bits.deBruijn64tab"], apart := false, laid := [("math/bits.deBruijn32tab", laid_math_bits_deBruijn32tab), ("math/bits.deBruijn64tab", laid_math_bits_deBruijn64tab), ("internal/strconv.uint64pow10", laid_internal_strconv_uint64pow10)], narrowed := true }
def MeetBehindsUptoSaid : Prop := meetBehindsUptoRow.holds Tryz.pinned (OpenSpec.upto meetBehindsSpec)

/-- 'exciselaw12.MeetLines', WHERE WHAT IT READS IS OF BULK AT MOST 1048576: true; the input reads as it did. -/
def meetLinesUptoRow : OpenClaim := { program := "ytijkdabmegbcjaagreatdoor", sum := "b8fc173b8cac5177999dbe279b87c767844d332741e669292c1655615af2f4de", func := "excise/exciselaw12.MeetLines", spec := "meetLines", inPlace := ["maps.clone"], unfollowed := true, recurses := true, named := ["internal/strconv.uint64pow10", "math/bits.deBruijn32tab", "math/bits.deBruijn64tab"], apart := false, laid := [("math/bits.deBruijn32tab", laid_math_bits_deBruijn32tab), ("math/bits.deBruijn64tab", laid_math_bits_deBruijn64tab), ("internal/strconv.uint64pow10", laid_internal_strconv_uint64pow10)], narrowed := true }
def MeetLinesUptoSaid : Prop := meetLinesUptoRow.holds Tryz.pinned (OpenSpec.upto meetLinesSpec)

/-- 'exciselaw12.MeetHolds', WHERE WHAT IT READS IS OF BULK AT MOST 1048576: true; the input reads as it did. -/
def meetHoldsUptoRow : OpenClaim := { program := "ytijkdabmegbcjaagreatdoor", sum := "b8fc173b8cac5177999dbe279b87c767844d332741e669292c1655615af2f4de", func := "excise/exciselaw12.MeetHolds", spec := "meetHolds", inPlace := ["maps.clone"], unfollowed := true, recurses := true, named := ["internal/strconv.uint64pow10", "math/bits.deBruijn32tab", "math/bits.deBruijn64tab"], apart := false, laid := [("math/bits.deBruijn32tab", laid_math_bits_deBruijn32tab), ("math/bits.deBruijn64tab", laid_math_bits_deBruijn64tab), ("internal/strconv.uint64pow10", laid_internal_strconv_uint64pow10)], narrowed := true }
def MeetHoldsUptoSaid : Prop := meetHoldsUptoRow.holds Tryz.pinned (OpenSpec.upto meetHoldsSpec)

/-- 'exciselaw12.MeetAll', WHERE WHAT IT READS IS OF BULK AT MOST 1048576: true; the input reads as it did. -/
def meetAllUptoRow : OpenClaim := { program := "ytijkdabmegbcjaagreatdoor", sum := "b8fc173b8cac5177999dbe279b87c767844d332741e669292c1655615af2f4de", func := "excise/exciselaw12.MeetAll", spec := "meetAll", inPlace := ["maps.clone"], unfollowed := true, recurses := true, named := ["internal/strconv.uint64pow10", "math/bits.deBruijn32tab", "math/bits.deBruijn64tab"], apart := false, laid := [("math/bits.deBruijn32tab", laid_math_bits_deBruijn32tab), ("math/bits.deBruijn64tab", laid_math_bits_deBruijn64tab), ("internal/strconv.uint64pow10", laid_internal_strconv_uint64pow10)], narrowed := true }
def MeetAllUptoSaid : Prop := meetAllUptoRow.holds Tryz.pinned (OpenSpec.upto meetAllSpec)

/-- 'exciselaw13.RegionFits', WHERE WHAT IT READS IS OF BULK AT MOST 1048576: true; the input reads as it did. -/
def regionFitsUptoRow : OpenClaim := { program := "ytijkdabmegbcjaagreatdoor", sum := "b8fc173b8cac5177999dbe279b87c767844d332741e669292c1655615af2f4de", func := "excise/exciselaw13.RegionFits", spec := "regionFits", inPlace := ["maps.clone"], unfollowed := true, recurses := true, named := ["internal/strconv.uint64pow10", "math/bits.deBruijn32tab", "math/bits.deBruijn64tab"], apart := false, laid := [("math/bits.deBruijn32tab", laid_math_bits_deBruijn32tab), ("math/bits.deBruijn64tab", laid_math_bits_deBruijn64tab), ("internal/strconv.uint64pow10", laid_internal_strconv_uint64pow10)], narrowed := true }
def RegionFitsUptoSaid : Prop := regionFitsUptoRow.holds Tryz.pinned (OpenSpec.upto regionFitsSpec)

/-- 'exciselaw13.RegionHolds', WHERE WHAT IT READS IS OF BULK AT MOST 1048576: true; the input reads as it did. -/
def regionHoldsUptoRow : OpenClaim := { program := "ytijkdabmegbcjaagreatdoor", sum := "b8fc173b8cac5177999dbe279b87c767844d332741e669292c1655615af2f4de", func := "excise/exciselaw13.RegionHolds", spec := "regionHolds", inPlace := ["maps.clone"], unfollowed := true, recurses := true, named := ["internal/strconv.uint64pow10", "math/bits.deBruijn32tab", "math/bits.deBruijn64tab"], apart := false, laid := [("math/bits.deBruijn32tab", laid_math_bits_deBruijn32tab), ("math/bits.deBruijn64tab", laid_math_bits_deBruijn64tab), ("internal/strconv.uint64pow10", laid_internal_strconv_uint64pow10)], narrowed := true }
def RegionHoldsUptoSaid : Prop := regionHoldsUptoRow.holds Tryz.pinned (OpenSpec.upto regionHoldsSpec)

end Rows
end Go.Proofs.YtijkdabmegbcjaaGreatDoor
