/- Small laws that many walks want: worlds by name, blocks of one cell, comparisons. -/
import Derived.Test.YtioihjgobmbanaaIdx
import Derived.Test.YtioihjgobmbanaaRowNew
import Derived.Test.YtioihjgobmbanaaAppB
import Derived.Test.YtioihjgobmbanaaGrowV
import Derived.Test.YtioihjgobmbanaaIter
import Derived.StillTailTactics
import Derived.Deep.Cut
import Derived.OneCell
import Derived.LoopN
namespace Go.Proofs.Ytioihjgobmbanaa
open Go.RowKit

theorem quiet_same2 {P : Program} {f : FuncId} {args : Array Value} {w : World} {m n : Nat} {v : Value}
    (h : Calls P f args (w.drewN (m + n)) fun e w' => e = .returned v ∧ w' = w.drewN (m + n)) : Calls P f args (w.drewN (m + n)) fun e w'' => e = .returned v ∧ ∃ k, w'' = w.drewN (m + k) :=
  h.mono fun _ _ ⟨he, hm⟩ => ⟨he, n, hm⟩
theorem wp_world {P : Program} {c : Code} {Q : Exit → Act → World → Prop} {a : Act} {w w' : World} (h : w = w') (h2 : c.wp P Q a w') : c.wp P Q a w := h ▸ h2
theorem own_base {w : World} {B B' : Nat} {e : TypeId} {size : Nat} {v : Value} {n : Nat} {xs : List Value} (h : w.ownsRow B e size v n xs) (hB : B' ≤ B) : w.ownsRow B' e size v n xs := by
  refine ⟨h.1, ?_⟩
  rcases h.2 with hn | ⟨g, cap, cur, rfl, hb, rest⟩
  · exact .inl hn
  · exact .inr ⟨g, cap, cur, rfl, Nat.le_trans hB hb, rest⟩
theorem run_eql_at {P : Program} {o : Oper} {ac : Act} {w : World} (T r : TypeId) (x y : Operand) (ho : o.op = .binOp .eql T x y r) (e : TypeId) (n : Nat) (q q' : IntKind) (l l' : List Int) (hx : ac.eval x = .agg (l.map (Value.int q)).toArray) (hy : ac.eval y = .agg (l'.map (Value.int q)).toArray)
    (hT : P.underlying T = some (.array n e)) (he : P.underlying e = some (.int q')) (hs : (P.info? e).isSome = true) (hc : P.cellsOf e = 1) (hm : P.eqGuardType P.depth T = false) (hn : l.length = n) (hn' : l'.length = n) : (execOp ac.eval o).run P w = .ok (.value (.bool (decide (l = l')))) w := by
  unfold execOp
  simp only [ho, hx, hy, Sem.run_bind, Sem.run_pure, Result.andThen_ok, run_eqGuard_agg (hm := hm), run_eql_ints T e n q q' l l' w hT he hs hc hn hn']
theorem own_slice {w : World} {base : Nat} {e : TypeId} {v : Value} {n : Nat} {xs : List Value} (h : w.ownsRow base e 1 v n xs) : ∃ a c, v = .slice a n c := by
  rcases h.2 with ⟨rfl, rfl⟩ | ⟨g, cap, cur, rfl, _⟩
  · have := h.1
    simp at this
    subst this
    exact ⟨none, 0, rfl⟩
  · exact ⟨_, cap, rfl⟩
theorem boxed_cell {w : World} {bx : Nat} {v : Value} {T : TypeId} (h : w.heap[bx]? = some (.cells #[v] T)) : w.cell? ⟨bx, 0, none⟩ = some v := by rw [cell_of_row w bx 0 _ T (0, 0) h]; rfl
theorem boxed_free {w : World} {bx : Nat} {v : Value} {T : TypeId} (h : w.heap[bx]? = some (.cells #[v] T)) : w.frozen? ⟨bx, 0, none⟩ = false := frozen_of_row w bx 0 _ T h
theorem boxed_set {w : World} {bx : Nat} {v u : Value} {T : TypeId} (h : w.heap[bx]? = some (.cells #[v] T)) : (w.setCell ⟨bx, 0, none⟩ u).heap[bx]? = some (.cells #[u] T) := by
  rw [heap_setCell_same w bx 0 _ T _ h]; rfl
theorem boxed_ne {w : World} {base bx : Nat} {v u : Value} {e T : TypeId} {n : Nat} {xs : List Value} (h : w.ownsRow base e 1 v n xs) (hb : w.heap[bx]? = some (.cells #[u] T)) (hT : e ≠ T) : v.ownBlock ≠ some bx := by
  rcases h.2 with ⟨rfl, -⟩ | ⟨g, cap, cur, rfl, _, hg, _⟩
  · intro e; cases e
  · intro e2
    have : g = bx := Option.some.inj e2
    subst this
    rw [hg] at hb
    injection hb with hb
    injection hb with h1 h2
    exact hT h2
theorem wp_mid {P : Program} {c : Code} {Q : Exit → Act → World → Prop} {a : Act} {w : World} (id : Nat) (M : Act → Act → World → Prop) (h1 : c.wp P (fun e a' w' => (e = .normal ∨ e = .exit id) ∧ M a a' w') a w)
    (h2 : ∀ a' w', M a a' w' → Q .normal a' w') (h3 : ∀ a' w', Q .normal a' w' → Q (.exit id) a' w') : c.wp P Q a w :=
  wp_mono h1 fun e a' w' ⟨he, hM⟩ => by
    rcases he with rfl | rfl
    · exact h2 _ _ hM
    · exact h3 _ _ (h2 _ _ hM)
theorem run_eql_fn_nil {P : Program} (t : TypeId) (h : (match P.underlying t with | some (.func _ _ _) => true | _ => false) = true) (f : Fn) (l cap : Array Value) (w : World) : (binOp .eql t (.func f l cap) .nilFunc).run P w = .ok (.bool false) w := by
  cases hu : P.underlying t with
  | none => rw [hu] at h; simp at h
  | some d =>
    cases d <;> rw [hu] at h <;> try (simp at h; done)
    show ((Op.equalIn (9999 + 1) t (.func f l cap) .nilFunc) >>= fun b => pure (Value.bool b) : Sem Value).run P w = _
    rw [Sem.run_bind]
    unfold Op.equalIn
    rw [Sem.run_bind, run_underlying hu w]
    rfl
theorem run_neq_at {P : Program} {o : Oper} {ac : Act} {w : World} (T r : TypeId) (x y : Operand) (ho : o.op = .binOp .neq T x y r) (e : TypeId) (n : Nat) (q q' : IntKind) (l l' : List Int) (hx : ac.eval x = .agg (l.map (Value.int q)).toArray) (hy : ac.eval y = .agg (l'.map (Value.int q)).toArray)
    (hT : P.underlying T = some (.array n e)) (he : P.underlying e = some (.int q')) (hs : (P.info? e).isSome = true) (hc : P.cellsOf e = 1) (hm : P.eqGuardType P.depth T = false) (hn : l.length = n) (hn' : l'.length = n) : (execOp ac.eval o).run P w = .ok (.value (.bool (!decide (l = l')))) w := by
  have h : (binOp .neq T (.agg (l.map (Value.int q)).toArray) (.agg (l'.map (Value.int q)).toArray)).run P w = .ok (.bool (!decide (l = l'))) w := by
    obtain ⟨i, hi⟩ := Option.isSome_iff_exists.1 hs
    rw [run_neq_struct, show (10000 : Nat) = 9999 + 1 from rfl, run_equalIn_array w 9999 _ _ hT hi, hc, List.range_eq_range', run_eqItems_ints 9998 e q q' l l' w he (by omega) n 0 (by omega)]
    simp
  unfold execOp
  simp only [ho, hx, hy, Sem.run_bind, Sem.run_pure, Result.andThen_ok, run_eqGuard_agg (hm := hm), h]
def bigF (x y : Int) : Int := if y > x then y else x
def smallF (x y : Int) : Int := if y < x then y else x
@[go_sem high] theorem run_max_big {P : Program} {w : World} (ts : Array TypeId) (t : TypeId) (k k' : IntKind) (x y : Int) : (Builtin.max_ ts t #[.int k x, .int k' y]).run P w = .ok (.int k (bigF x y)) w := run_max_int2 w ts t k k' x y
@[go_sem high] theorem run_min_small {P : Program} {w : World} (ts : Array TypeId) (t : TypeId) (k k' : IntKind) (x y : Int) : (Builtin.min_ ts t #[.int k x, .int k' y]).run P w = .ok (.int k (smallF x y)) w := run_min_int2 w ts t k k' x y
theorem Below.only' {B : Nat} {W W' : World} (h : Below B W W') : Only (fun k => B ≤ k) W W' := ⟨h.os, h.tape, h.output, h.size, fun k _ hn => h.block k (by omega)⟩
def Box (W : World) (k : Nat) (v : Value) (T : TypeId) : Prop := W.heap[k]? = some (.cells #[v] T)
theorem Box.cell {W : World} {k : Nat} {v : Value} {T : TypeId} (h : Box W k v T) : W.cell? ⟨k, 0, none⟩ = some v := boxed_cell h
theorem Box.free {W : World} {k : Nat} {v : Value} {T : TypeId} (h : Box W k v T) : W.frozen? ⟨k, 0, none⟩ = false := boxed_free h
theorem Box.lt {W : World} {k : Nat} {v : Value} {T : TypeId} (h : Box W k v T) : k < W.heap.size := (Array.getElem?_eq_some_iff.1 h).1
theorem Box.only {W W' : World} {k : Nat} {v : Value} {T : TypeId} {O : Nat → Prop} (h : Box W k v T) (ho : Only O W W') (hb : ¬ O k) : Box W' k v T := (ho.same k h.lt hb).trans h
theorem Box.below {W W' : World} {k : Nat} {v : Value} {T : TypeId} (h : Box W k v T) (hb : Below W.heap.size W W') : Box W' k v T := (hb.block k h.lt).trans h
theorem Box.new (W : World) (v : Value) (T : TypeId) : Box (W.alloc (.cells #[v] T)) W.heap.size v T := World.alloc_heap_new W _
theorem Box.set {W : World} {k : Nat} {v : Value} {T : TypeId} (h : Box W k v T) (u : Value) : Box (W.setCell ⟨k, 0, none⟩ u) k u T := boxed_set h
theorem Box.oth {W : World} {k : Nat} {v : Value} {T : TypeId} (h : Box W k v T) {c i : Nat} (u : Value) (hc : k ≠ c) : Box (W.setCell ⟨c, i, none⟩ u) k v T :=
  h.only ((Only.refl (· = c) W).setCell ⟨c, i, none⟩ u rfl) hc
theorem results_bool {fn : Func} {p : Tmp} (h : fn.results = #[.cell p 4]) (tmps : Array Value) (w : World) (g : Nat) (v : Value) (hp : tmps.getD p undef = .pointer (some ⟨g, 0, none⟩)) (hc : w.cell? ⟨g, 0, none⟩ = some v) :
    (results fn tmps).run Try.prog w = .ok v w := by
  have hp' : tmps[p]?.getD undef = .pointer (some ⟨g, 0, none⟩) := by simpa using hp
  have hu := run_underlying Try.underlying4 w
  simp [results, h, hp', asAddr]
  unfold loadVar
  simp only [Sem.run_bind, hu, Result.andThen_ok]
  go_simp
end Go.Proofs.Ytioihjgobmbanaa
