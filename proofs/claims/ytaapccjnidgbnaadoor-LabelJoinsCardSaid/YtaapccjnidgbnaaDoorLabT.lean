/- What the rows' condition gives the walks: the library's table. -/
import Derived.Test.YtaapccjnidgbnaaDoorLabC
import Derived.Test.YtaapccjnidgbnaaDoorRows
import Derived.Lib.LaidTab
import Derived.ProofKit
import Derived.LaidMore
import Derived.Stop.LaidErr
namespace Go.Proofs.YtaapccjnidgbnaaDoor
open Go.RowKit

theorem gTab : Tryd.prog.globalNamed "math/bits.deBruijn64tab" = some gtab := by kernel_rfl
theorem gTabT : (Tryd.prog.globals[gtab]?).map (·.type) = some 69 := by kernel_rfl
def tabZs : List Int := Lib.deBruijn64tab.map fun n : Nat => (n : Int)
theorem tab_of_laid {W : World} (h : laidMetH Tryd.prog Rows.labelTextsRow.laid W) : Tab W := by
  rw [MakeChecks.laidMetH_plain _ _ _ (by kernel_rfl)] at h
  have h2 := laidMet.tail h
  have hT : Lib.TabIs Tryd.prog W "math/bits.deBruijn64tab" .u8 tabZs := Lib.tabIs_of_head gTab gTabT Tryd.underlying69 Tryd.underlying5 (by kernel_rfl) (by kernel_rfl) h2
  intro j hj
  have := hT.cell gTab j (by unfold tabZs; rw [List.length_map]; exact hj)
  rw [this]
  unfold tabZs
  simp [hj]
end Go.Proofs.YtaapccjnidgbnaaDoor
