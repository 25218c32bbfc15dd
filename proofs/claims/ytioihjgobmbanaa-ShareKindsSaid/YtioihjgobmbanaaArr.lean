/- Blocks that hold arrays of integers: whole arrays loaded and stored. -/
import Derived.Test.YtioihjgobmbanaaWordM
import Derived.Test.YtioihjgobmbanaaOnly
import Derived.Deep.MidRow
namespace Go.Proofs.Ytioihjgobmbanaa
open Go.RowKit

theorem Blk.only {q : IntKind} {w w' : World} {b : Nat} {T : TypeId} {l : List Int} {O : Nat → Prop} (h : Blk q w b T l) (ho : Only O w w') (hb : ¬ O b) : Blk q w' b T l := (ho.same b h.lt hb).trans h

theorem wpList_load_blk {P : Program} {ops : Array Oper} {rest : List Oper} {o : Oper} {a : Act} {w : World} {Q : Exit → Act → World → Prop} (hgd : o.guard = none) (ty : TypeId) (x : Operand) (ho : o.op = .load ty x)
    (b : Nat) (hx : a.eval x = .pointer (some ⟨b, 0, none⟩)) (q : IntKind) (T : TypeId) (l : List Int) (n : Nat) (e : TypeId) (hB : Blk q w b T l) (hu : P.underlying ty = some (.array n e)) (hi : (P.info? ty).map (·.size) = some l.length)
    (h : wpList P ops Q rest (a.put o.dst (.agg (l.map (Value.int q)).toArray)) w) : wpList P ops Q (o :: rest) a w :=
  wpList_load_row hgd ty x ho b hx T _ (0, 0) _ hB hu rfl (by simpa using hi) h

theorem setCells_heap (b : Nat) : ∀ (vs : List Value) (o : Nat) (w : World) (k : Nat), k ≠ b → (w.setCells b o vs).heap[k]? = w.heap[k]?
  | [], _, _, _, _ => rfl
  | v :: vs, o, w, k, h => by
    rw [World.setCells, setCells_heap b vs (o + 1) _ k h]
    exact Below.heap_setCell w ⟨b, o, none⟩ v k h
theorem setCells_rest (b : Nat) : ∀ (vs : List Value) (o : Nat) (w : World), (w.setCells b o vs).os = w.os ∧ (w.setCells b o vs).tape = w.tape ∧ (w.setCells b o vs).output = w.output ∧ (w.setCells b o vs).heap.size = w.heap.size
  | [], _, _ => ⟨rfl, rfl, rfl, rfl⟩
  | v :: vs, o, w => by
    obtain ⟨h1, h2, h3, h4⟩ := setCells_rest b vs (o + 1) (w.setCell ⟨b, o, none⟩ v)
    exact ⟨h1, h2, h3, h4.trans (by simp [World.setCell])⟩
theorem setCells_only (b o : Nat) (vs : List Value) (w : World) : Only (· = b) w (w.setCells b o vs) := by
  obtain ⟨h1, h2, h3, h4⟩ := setCells_rest b vs o w
  exact ⟨h1, h2, h3, Nat.le_of_eq h4.symm, fun k _ hk => setCells_heap b vs o w k hk⟩
theorem setCells_blk (b : Nat) (T : TypeId) : ∀ (vs pre rest : List Value) (w : World), w.heap[b]? = some (.cells (pre ++ rest).toArray T (0, 0)) → vs.length = rest.length → (w.setCells b pre.length vs).heap[b]? = some (.cells (pre ++ vs).toArray T (0, 0))
  | [], pre, rest, w, h, hl => by
    have : rest = [] := List.length_eq_zero_iff.1 (by simpa using hl.symm)
    subst this
    exact h
  | v :: vs, pre, r :: rest, w, h, hl => by
    have h2 : (w.setCell ⟨b, pre.length, none⟩ v).heap[b]? = some (.cells ((pre ++ [v]) ++ rest).toArray T (0, 0)) := by
      rw [heap_setCell_same w b pre.length _ T _ h]
      congr 2
      apply Array.ext'
      simp
    have := setCells_blk b T vs (pre ++ [v]) rest (w.setCell ⟨b, pre.length, none⟩ v) h2 (by simpa using hl)
    rw [World.setCells]
    simpa using this

theorem Blk.there {q : IntKind} {w : World} {b : Nat} {T : TypeId} {l : List Int} (h : Blk q w b T l) : w.there b 0 l.length := fun j hj => ⟨by rw [Nat.zero_add, h.cell j hj]; rfl, by rw [Nat.zero_add]; exact h.frozen j⟩

/-- A whole array is stored into its block. -/
theorem wp_store_blk {P : Program} {o : Oper} {a : Act} {w : World} {K : Act → World → Prop} {Q : Exit → Act → World → Prop} (ty : TypeId) (x y : Operand) (ho : o.op = .store ty x y)
    (b : Nat) (hx : a.eval x = .pointer (some ⟨b, 0, none⟩)) (q : IntKind) (T : TypeId) (l l' : List Int) (hB : Blk q w b T l) (hy : a.eval y = .agg (l'.map (Value.int q)).toArray) (hl : l'.length = l.length) (hi : (P.info? ty).map (·.size) = some l'.length)
    (h : ∀ w', Blk q w' b T l' → Only (· = b) w w' → K (a.put o.dst undef) w') : o.wp P a w K Q := by
  refine wp_store_mid ty x y ho b 0 _ hx hy (by simpa [hl] using hB.there) (by simpa using hi) (all_oneCell_toArray (by intro v hv; rw [List.mem_map] at hv; obtain ⟨z, _, rfl⟩ := hv; rfl)) (h _ ?_ (setCells_only _ _ _ _))
  have := setCells_blk b T (l'.map (Value.int q)) [] (l.map (Value.int q)) w (by simpa [Blk] using hB) (by simp [hl])
  simpa [Blk] using this
theorem wpList_store_blk {P : Program} {ops : Array Oper} {rest : List Oper} {o : Oper} {a : Act} {w : World} {Q : Exit → Act → World → Prop} (hgd : o.guard = none) (ty : TypeId) (x y : Operand) (ho : o.op = .store ty x y)
    (b : Nat) (hx : a.eval x = .pointer (some ⟨b, 0, none⟩)) (q : IntKind) (T : TypeId) (l l' : List Int) (hB : Blk q w b T l) (hy : a.eval y = .agg (l'.map (Value.int q)).toArray) (hl : l'.length = l.length) (hi : (P.info? ty).map (·.size) = some l'.length)
    (h : ∀ w', Blk q w' b T l' → Only (· = b) w w' → wpList P ops Q rest (a.put o.dst undef) w') : wpList P ops Q (o :: rest) a w :=
  wpList_plain hgd fun _ hK => wp_store_blk ty x y ho b hx q T l l' hB hy hl hi fun w' h1 h2 => hK _ _ (h w' h1 h2)

/-- The result lies in a block. -/
theorem ret_blk {P : Program} {fn : Func} {R : Ending → World → Prop} {a : Act} {w : World} {p : Tmp} {ty : TypeId} (hr : fn.results = #[.cell p ty]) (b : Nat) (q : IntKind) (T : TypeId) (l : List Int) (n : Nat) (e : TypeId)
    (hp : a.tmps.getD p undef = .pointer (some ⟨b, 0, none⟩)) (hB : Blk q w b T l) (hu : P.underlying ty = some (.array n e)) (hi : (P.info? ty).map (·.size) = some l.length) (hd : a.defers = [])
    (h : R (.returned (.agg (l.map (Value.int q)).toArray)) w) : bodyPost P fn R .ret a w :=
  bodyPost_ret (results_cell_row hr a.tmps w b T _ (0, 0) _ hp hB hu rfl (by simpa using hi)) hd h

end Go.Proofs.Ytioihjgobmbanaa
