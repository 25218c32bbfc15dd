/- What a loop over a function has appended to a slice in a box of its own. -/
import Derived.Test.YtioihjgobmbanaaTwo
namespace Go.Proofs.Ytioihjgobmbanaa
open Go.RowKit

theorem ai_only {O : Nat → Prop} {w w' : World} {base : Nat} {e : TypeId} {v : Value} {n : Nat} {xs : List Value} (h : w.ownsRow base e 1 v n xs) (ho : Only O w w') (hv : ∀ g, v.ownBlock = some g → ¬ O g) : w'.ownsRow base e 1 v n xs := by
  refine ⟨h.1, ?_⟩
  rcases h.2 with hn | ⟨g, cap, cur, rfl, hb, hg, r⟩
  · exact .inl hn
  · exact .inr ⟨g, cap, cur, rfl, hb, (ho.same g (Array.getElem?_eq_some_iff.1 hg).1 (hv g rfl)).trans hg, r⟩
theorem ai_lt {w : World} {base : Nat} {e : TypeId} {v : Value} {n : Nat} {xs : List Value} (h : w.ownsRow base e 1 v n xs) {g : Nat} (hv : v.ownBlock = some g) : base ≤ g ∧ g < w.heap.size := by
  rcases h.2 with ⟨rfl, -⟩ | ⟨g', cap, cur, rfl, hb, hg, r⟩
  · cases hv
  · obtain rfl : g' = g := Option.some.inj hv
    exact ⟨hb, (Array.getElem?_eq_some_iff.1 hg).1⟩
/-- The box in block B (of slices of type ST) holds a slice of the call's own with what has come; its block is none of the iterator's. -/
def AI {α : Type} (ST ET : TypeId) (enc : α → Value) (B : Nat) (w : World) (O : Nat → Prop) (pre : List α) (W : World) : Prop :=
  ∃ v, W.heap[B]? = some (.cells #[v] ST) ∧ W.ownsRow B ET 1 v pre.length (pre.map enc) ∧ (∀ g, v.ownBlock = some g → ¬ O g) ∧ Below w.heap.size w W
section
variable {α : Type} {ST ET : TypeId} {enc : α → Value} {B : Nat} {w W W' : World} {O O' : Nat → Prop} {pre : List α}
theorem ai_stable (M : Nat) (hB : B < M) (hw : w.heap.size ≤ M) : Stable M (AI ST ET enc B w) := by
  rintro O O' s W W' ⟨v, h1, h2, h3, h4⟩ hO hon hO'
  have n1 : ¬ O B := fun h => by have := hO _ h; omega
  refine ⟨v, (hon.same _ (Array.getElem?_eq_some_iff.1 h1).1 n1).trans h1, ai_only h2 hon h3, fun g hg h => ?_, hon.below h4 h4.size (fun i h => by have := hO i h; omega)⟩
  rcases hO' g h with h | h
  · exact h3 g hg h
  · have := (ai_lt h2 hg).2; omega
theorem AI.below (h : AI ST ET enc B w O pre W) (hb : Below W.heap.size W W') : AI ST ET enc B w O pre W' := by
  obtain ⟨v, h1, h2, h3, h4⟩ := h
  exact ⟨v, (hb.block _ (Array.getElem?_eq_some_iff.1 h1).1).trans h1, own_keep h2 hb, h3, xtrans h4 hb⟩
/-- One more has been appended, and stored back. -/
theorem ai_next {Rd : Nat → Prop} {W2 W3 W5 : World} (hT : ET ≠ ST) (m : α) {v V5 : Value} (hRd : ∀ k, Rd k → k < B) (hwB : w.heap.size ≤ B) (o2 : W2.ownsRow B ET 1 v pre.length (pre.map enc)) (hb : Below W2.heap.size W2 W3) (b3 : Below w.heap.size w W3) (hwl : B < W2.heap.size) (hg5 : W3.grownBy W5 v.ownBlock)
    (c5 : W5.heap[B]? = some (.cells #[v] ST)) (o5 : W5.ownsRow B ET 1 V5 (pre.length + 1) (pre.map enc ++ [enc m])) (hvb : V5.ownBlock = v.ownBlock ∨ ∀ k, V5.ownBlock = some k → W3.heap.size ≤ k)
    (h3 : ∀ g, v.ownBlock = some g → ¬ O g) (hO : ∀ k, O k → B < k ∧ k < W2.heap.size) :
    AI ST ET enc B w O (pre ++ [m]) (W5.setCell ⟨B, 0, none⟩ V5) ∧ Keep (fun k => O k ∨ Rd k) W2 (W5.setCell ⟨B, 0, none⟩ V5) := by
  have cs := boxed_set (u := V5) c5
  have hon : Only (· = B) W5 (W5.setCell ⟨B, 0, none⟩ V5) := (Only.refl _ _).setCell _ _ rfl
  have hne := boxed_ne o5 c5 hT
  refine ⟨⟨V5, cs, ?_, ?_, ?_⟩, ?_⟩
  · rw [List.length_append, List.map_append]
    exact ai_only o5 hon fun g hg e => hne (by rw [hg, e])
  · intro g hg ho
    rcases hvb with e | e
    · exact h3 g (by rw [← e]; exact hg) ho
    · have := e g hg; have := (hO g ho).2; have := hb.size; omega
  · refine hon.below (b3.grown hg5 b3.size fun j hj => ?_) (Nat.le_trans b3.size hg5.size) (by rintro i rfl; omega)
    have := (ai_lt o2 hj).1
    omega
  · refine ⟨Nat.le_trans hb.size (Nat.le_trans hg5.size hon.size), fun k hk h => ?_⟩
    have hkw : k ≠ B := by
      rcases h with h | h
      · have := (hO k h).1; omega
      · have := hRd k h; omega
    rw [hon.same k (Nat.lt_of_lt_of_le hk (Nat.le_trans hb.size hg5.size)) hkw, hg5.block k (Nat.lt_of_lt_of_le hk hb.size) ?_, hb.block k hk]
    intro e
    rcases h with h | h
    · exact h3 k e.symm h
    · have := (ai_lt o2 e.symm).1; have := hRd k h; omega
end
end Go.Proofs.Ytioihjgobmbanaa
