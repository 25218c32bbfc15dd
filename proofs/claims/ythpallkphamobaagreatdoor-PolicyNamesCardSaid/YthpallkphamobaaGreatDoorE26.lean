/- Texts of this claim, merged; no condition. -/
import Derived.Test.YthpallkphamobaaGreatDoorE25
set_option linter.all false
namespace Go.Proofs.YthpallkphamobaaGreatDoor
open Go.RowKit Go.Shelf

theorem policyNames_walk (z0 : List Int) (s : ByteArray) (z2 : List Int) (w : World) (hl0 : z0.length = 2 * 20) (hw0 : ∀ z ∈ z0, (Lit.int .u8 z).wf = true) (hs : s.size ≤ 9223372036854775807) (hl2 : z2.length = 4) (hw2 : ∀ z ∈ z2, (Lit.int .u64 z).wf = true) (hT : TabP w) :
    Calls Tryz.prog 4 #[.agg (z0.map (Value.int .u8)).toArray, .string s, .agg (z2.map (Value.int .u64)).toArray] w (Yes w) := by
  obtain ⟨a, b, ha, hb, e⟩ := two_adr z0 hl0 hw0
  obtain ⟨M, e2⟩ := four_word z2 hl2 hw2
  rw [e, e2]
  obtain ⟨⟨l⟩⟩ := s
  exact names_go a b ha hb l M w (show (⟨⟨l⟩⟩ : ByteArray).size ≤ _ from hs) hT
end Go.Proofs.YthpallkphamobaaGreatDoor
