/- Texts of this claim, merged; no condition. -/
import Derived.Test.YtijkdabmegbcjaaGreatDoorT42
import Derived.Test.YtijkdabmegbcjaaGreatDoorT27
import Derived.Test.YtijkdabmegbcjaaGreatDoorTA
set_option linter.all false
namespace Go.Proofs.YtijkdabmegbcjaaGreatDoor
open Go.RowKit Go.Shelf
section
attribute [local go_sem] Oper.semAt_some
end
set_option maxRecDepth 100000 in
set_option maxHeartbeats 4000000 in
theorem meetM_any (cs : List Nat) (n : Int) (a : Option Addr) (c : Nat) (w : World) (h : CodeAt w a c cs) (hl : cs.length ≤ 100) :
    Calls Tryz.prog 26 #[.slice a cs.length c, .int .i64 n] w fun e w' => e = .returned (atV (meetZ (blksN cs) cs.length n)) ∧ Below w.heap.size w w' := by
  have g := graph_code cs
  have hof := qh (ofGraph_any cs a c w h hl)
  have hbl := blksN_len cs
  clear h
  go_enter Tryz.func26, Tryz.ntmps26
  go_wp2_with (first
    | (go_at_call 56; refine hof.out.mono ?_; rintro e w1 ⟨⟨gb, rfl, hG⟩, hb1⟩; have hme := meet_any _ _ g gb n w1 hG.meet (by omega); replace hme := qh hme; replace hb1 := qh hb1)
    | (go_at_call 57; refine hme.out.mono ?_; rintro e w2 ⟨rfl, hb2⟩; unfold atV; replace hb2 := qh (xtrans hb1.out hb2)))
  go_ret2
  exact ⟨rfl, hb2.out⟩
end Go.Proofs.YtijkdabmegbcjaaGreatDoor
