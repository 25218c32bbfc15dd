/- A scope with a label that is jumped back to: what holds at the label; each pass lowers a measure. The pass is walked once. -/
import Derived.Test.YtfafancacfjodaaKit
import Derived.ScopeJumps
namespace Go.Proofs.Ytfafancacfjodaa
open Go.RowKit

theorem jump_weaken {P : Program} {c : Code} {l : Nat} {J J' : Act → World → Prop} {Q : Exit → Act → World → Prop} {a : Act} {w : World} (hJ : ∀ a w, J a w → J' a w) (h : c.wp P (Exit.jump l J Q) a w) : c.wp P (Exit.jump l J' Q) a w := by
  refine Code.wp_mono ?_ h
  intro e a w h
  cases e with
  | goto l' => exact ⟨h.1, hJ _ _ h.2⟩
  | _ => exact h
theorem wp_scope_loop {P : Program} {pre rest : Code} {Q : Exit → Act → World → Prop} {a : Act} {w : World} (l : Nat) (J : Act → World → Prop) (μ : Act → World → Nat) (hf : findLabel (pre.seq ((Code.label l).seq rest)) l = some (Code.skip.seq rest))
    (first : pre.wp P (Exit.then J (fun _ _ _ => False)) a w)
    (pass : ∀ a w, J a w → rest.wp P (Exit.jump l (fun a' w' => J a' w' ∧ μ a' w' < μ a w) Q) a w) : (Code.scope (pre.seq ((Code.label l).seq rest))).wp P Q a w := by
  refine wp_scope_jumps l J μ hf ?_ (fun a w h => wp_seq (wp_skip (pass a w h)))
  refine wp_seq (Code.wp_mono ?_ first)
  intro e a w h
  cases e with
  | normal => exact wp_seq (wp_label (jump_weaken (fun _ _ h => h.1) (pass a w h)))
  | _ => exact (h : False).elim

end Go.Proofs.Ytfafancacfjodaa
