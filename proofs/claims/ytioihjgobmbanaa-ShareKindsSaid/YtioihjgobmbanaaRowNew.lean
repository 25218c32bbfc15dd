/- Rows in blocks that the call makes. -/
import Derived.Test.YtioihjgobmbanaaArr
import Derived.Test.YtioihjgobmbanaaBytes
namespace Go.Proofs.Ytioihjgobmbanaa
open Go.RowKit

theorem rowAt_new {q : IntKind} (w : World) (T : TypeId) (zs : List Int) : RowAt q (w.alloc (.cells (zs.map (Value.int q)).toArray T)) (some ⟨w.heap.size, 0, none⟩) zs := fun i hi =>
  ⟨_, _, rfl, by have h := (Blk.new (q := q) w T zs).cell i hi; rw [Nat.zero_add]; exact h⟩
theorem rowAt_one {q : IntKind} (w : World) (T : TypeId) (x : Int) : RowAt q (w.alloc (.cells #[.int q x] T)) (some ⟨w.heap.size, 0, none⟩) [x] := rowAt_new w T [x]
theorem Blk.row {q : IntKind} {w : World} {b : Nat} {T : TypeId} {l : List Int} (h : Blk q w b T l) (k : Nat) : RowAt q w (some ⟨b, k, none⟩) (l.drop k) := fun i hi =>
  ⟨_, _, rfl, by
    have hi2 : k + i < l.length := by simp at hi; omega
    rw [h.cell (k + i) hi2]; simp⟩

theorem own_keep {w w' : World} {base : Nat} {e : TypeId} {size : Nat} {v : Value} {n : Nat} {xs : List Value} (h : w.ownsRow base e size v n xs) (hb : Below w.heap.size w w') : w'.ownsRow base e size v n xs :=
  h.kept ⟨hb.os, hb.tape, hb.output, hb.size, fun k hk _ => hb.block k hk⟩ (row := none) (by cases v.ownBlock <;> simp)
theorem RowAt.only {q : IntKind} {w w' : World} {a : Option Addr} {zs : List Int} {O : Nat → Prop} (h : RowAt q w a zs) (ho : Only O w w') (ha : ∀ x, a = some x → ¬ O x.block) : RowAt q w' a zs := fun i hi => by
  obtain ⟨b, o, h1, h2⟩ := h i hi
  exact ⟨b, o, h1, ho.cell h2 (ha ⟨b, o, none⟩ h1)⟩
theorem RowAt.oth {q : IntKind} {w : World} {a : Option Addr} {zs : List Int} (h : RowAt q w a zs) {c i : Nat} (v : Value) (ha : ∀ x, a = some x → x.block < c) : RowAt q (w.setCell ⟨c, i, none⟩ v) a zs :=
  h.only ((Only.refl (· = c) w).setCell ⟨c, i, none⟩ v rfl) fun x hx e => by have := ha x hx; omega
theorem RowAt.drew {q : IntKind} {w : World} {a : Option Addr} {zs : List Int} (h : RowAt q w a zs) : RowAt q w.drew a zs := h.below (xdrew (xrefl w))
end Go.Proofs.Ytioihjgobmbanaa
