/- Texts of this claim, merged; no condition. -/
import Derived.StillTailTactics
import Derived.Deep.Cut
import Derived.OneCell
import Derived.LoopN
import Derived.Test.YtijkdabmegbcjaaGreatDoorR03
import Derived.Test.YtijkdabmegbcjaaGreatDoorR04
import Derived.Test.YtijkdabmegbcjaaGreatDoorR00
import Derived.Laws.MakeOwn
import Derived.Lib.SlBytesRow
import Derived.Laws.IdiomStrings
import Derived.Test.YtijkdabmegbcjaaGreatDoorR02
set_option linter.all false
namespace Go.Proofs.YtijkdabmegbcjaaGreatDoor
open Go.RowKit

theorem wp_world {P : Program} {c : Code} {Q : Exit → Act → World → Prop} {a : Act} {w w' : World} (h : w = w') (h2 : c.wp P Q a w') : c.wp P Q a w := h ▸ h2
theorem own_base {w : World} {B B' : Nat} {e : TypeId} {size : Nat} {v : Value} {n : Nat} {xs : List Value} (h : w.ownsRow B e size v n xs) (hB : B' ≤ B) : w.ownsRow B' e size v n xs := by
  refine ⟨h.1, ?_⟩
  rcases h.2 with hn | ⟨g, cap, cur, rfl, hb, rest⟩
  · exact .inl hn
  · exact .inr ⟨g, cap, cur, rfl, Nat.le_trans hB hb, rest⟩
theorem own_slice {w : World} {base : Nat} {e : TypeId} {v : Value} {n : Nat} {xs : List Value} (h : w.ownsRow base e 1 v n xs) : ∃ a c, v = .slice a n c := by
  rcases h.2 with ⟨rfl, rfl⟩ | ⟨g, cap, cur, rfl, _⟩
  · have := h.1
    simp at this
    subst this
    exact ⟨none, 0, rfl⟩
  · exact ⟨_, cap, rfl⟩
theorem boxed_cell {w : World} {bx : Nat} {v : Value} {T : TypeId} (h : w.heap[bx]? = some (.cells #[v] T)) : w.cell? ⟨bx, 0, none⟩ = some v := by rw [cell_of_row w bx 0 _ T (0, 0) h]; rfl
theorem boxed_free {w : World} {bx : Nat} {v : Value} {T : TypeId} (h : w.heap[bx]? = some (.cells #[v] T)) : w.frozen? ⟨bx, 0, none⟩ = false := frozen_of_row w bx 0 _ T h
theorem boxed_set {w : World} {bx : Nat} {v u : Value} {T : TypeId} (h : w.heap[bx]? = some (.cells #[v] T)) : (w.setCell ⟨bx, 0, none⟩ u).heap[bx]? = some (.cells #[u] T) := by
  rw [heap_setCell_same w bx 0 _ T _ h]; rfl
theorem boxed_ne {w : World} {base bx : Nat} {v u : Value} {e T : TypeId} {n : Nat} {xs : List Value} (h : w.ownsRow base e 1 v n xs) (hb : w.heap[bx]? = some (.cells #[u] T)) (hT : e ≠ T) : v.ownBlock ≠ some bx := by
  rcases h.2 with ⟨rfl, -⟩ | ⟨g, cap, cur, rfl, _, hg, _⟩
  · intro e; cases e
  · intro e2
    have : g = bx := Option.some.inj e2
    subst this
    rw [hg] at hb
    injection hb with hb
    injection hb with h1 h2
    exact hT h2
theorem run_neq_at {P : Program} {o : Oper} {ac : Act} {w : World} (T r : TypeId) (x y : Operand) (ho : o.op = .binOp .neq T x y r) (e : TypeId) (n : Nat) (q q' : IntKind) (l l' : List Int) (hx : ac.eval x = .agg (l.map (Value.int q)).toArray) (hy : ac.eval y = .agg (l'.map (Value.int q)).toArray)
    (hT : P.underlying T = some (.array n e)) (he : P.underlying e = some (.int q')) (hs : (P.info? e).isSome = true) (hc : P.cellsOf e = 1) (hm : P.eqGuardType P.depth T = false) (hn : l.length = n) (hn' : l'.length = n) : (execOp ac.eval o).run P w = .ok (.value (.bool (!decide (l = l')))) w := by
  have h : (binOp .neq T (.agg (l.map (Value.int q)).toArray) (.agg (l'.map (Value.int q)).toArray)).run P w = .ok (.bool (!decide (l = l'))) w := by
    obtain ⟨i, hi⟩ := Option.isSome_iff_exists.1 hs
    rw [run_neq_struct, show (10000 : Nat) = 9999 + 1 from rfl, run_equalIn_array w 9999 _ _ hT hi, hc, List.range_eq_range', run_eqItems_ints 9998 e q q' l l' w he (by omega) n 0 (by omega)]
    simp
  unfold execOp
  simp only [ho, hx, hy, Sem.run_bind, Sem.run_pure, Result.andThen_ok, run_eqGuard_agg (hm := hm), h]
def bigF (x y : Int) : Int := if y > x then y else x
def smallF (x y : Int) : Int := if y < x then y else x
@[go_sem high] theorem run_max_big {P : Program} {w : World} (ts : Array TypeId) (t : TypeId) (k k' : IntKind) (x y : Int) : (Builtin.max_ ts t #[.int k x, .int k' y]).run P w = .ok (.int k (bigF x y)) w := run_max_int2 w ts t k k' x y
@[go_sem high] theorem run_min_small {P : Program} {w : World} (ts : Array TypeId) (t : TypeId) (k k' : IntKind) (x y : Int) : (Builtin.min_ ts t #[.int k x, .int k' y]).run P w = .ok (.int k (smallF x y)) w := run_min_int2 w ts t k k' x y
def Box (W : World) (k : Nat) (v : Value) (T : TypeId) : Prop := W.heap[k]? = some (.cells #[v] T)
theorem Box.cell {W : World} {k : Nat} {v : Value} {T : TypeId} (h : Box W k v T) : W.cell? ⟨k, 0, none⟩ = some v := boxed_cell h
theorem Box.free {W : World} {k : Nat} {v : Value} {T : TypeId} (h : Box W k v T) : W.frozen? ⟨k, 0, none⟩ = false := boxed_free h
theorem Box.lt {W : World} {k : Nat} {v : Value} {T : TypeId} (h : Box W k v T) : k < W.heap.size := (Array.getElem?_eq_some_iff.1 h).1
theorem Box.only {W W' : World} {k : Nat} {v : Value} {T : TypeId} {O : Nat → Prop} (h : Box W k v T) (ho : Only O W W') (hb : ¬ O k) : Box W' k v T := (ho.same k h.lt hb).trans h
theorem Box.below {W W' : World} {k : Nat} {v : Value} {T : TypeId} (h : Box W k v T) (hb : Below W.heap.size W W') : Box W' k v T := (hb.block k h.lt).trans h
theorem Box.new (W : World) (v : Value) (T : TypeId) : Box (W.alloc (.cells #[v] T)) W.heap.size v T := World.alloc_heap_new W _
theorem Box.set {W : World} {k : Nat} {v : Value} {T : TypeId} (h : Box W k v T) (u : Value) : Box (W.setCell ⟨k, 0, none⟩ u) k u T := boxed_set h
end Go.Proofs.YtijkdabmegbcjaaGreatDoor
namespace Go.Proofs.YtijkdabmegbcjaaGreatDoor
open Go.RowKit

def RowV (w : World) (a : Option Addr) (vs : List Value) : Prop := ∀ i (h : i < vs.length), ∃ b o, a = some ⟨b, o, none⟩ ∧ w.cell? ⟨b, o + i, none⟩ = some vs[i]
theorem RowV.nil {w : World} {a : Option Addr} : RowV w a [] := fun i hi => absurd hi (by simp)
theorem RowV.ints {q : IntKind} {w : World} {a : Option Addr} {zs : List Int} (h : RowV w a (zs.map (Value.int q))) : RowAt q w a zs := fun i hi => by
  obtain ⟨b, o, h1, h2⟩ := h i (by simpa using hi)
  exact ⟨b, o, h1, by rw [h2]; simp⟩
theorem rowV_new (w : World) (T : TypeId) (vs : List Value) : RowV (w.alloc (.cells vs.toArray T)) (some ⟨w.heap.size, 0, none⟩) vs := fun i hi =>
  ⟨_, _, rfl, by rw [Nat.zero_add, cell_of_row _ _ i _ T (0, 0) (World.alloc_heap_new w _)]; simp [hi]⟩
theorem rowV_own {w : World} {base : Nat} {e : TypeId} {size : Nat} {v : Value} {n : Nat} {vs : List Value} (h : w.ownsRow base e size v n vs) :
    ∃ a c, v = .slice a n c ∧ RowV w a vs ∧ (a = none → c = 0) ∧ (∀ x, a = some x → base ≤ x.block) ∧ vs.length = n * size ∧ (n ≠ 0 → a ≠ none) := by
  have hlen := h.1
  rcases h.2 with ⟨rfl, rfl⟩ | ⟨g, cap, cur, rfl, hg, _⟩
  · have : vs = [] := List.length_eq_zero_iff.1 (by simpa using hlen)
    subst this
    exact ⟨none, 0, rfl, RowV.nil, fun _ => rfl, by simp, by simp, by simp⟩
  · refine ⟨_, cap, rfl, fun i hi => ⟨g, 0, rfl, ?_⟩, by simp, by rintro x ⟨⟩; exact hg, hlen, by simp⟩
    have := h.cellAt i (by omega)
    simpa [List.getElem?_eq_getElem hi] using this

theorem run_append_vals {P : Program} (w : World) (base : Nat) (t ty e : TypeId) (i : TypeInfo) (z : Value) (size bytes : Nat) (ht : P.underlying t = some (.slice e)) (hi : P.info? e = some i) (hz : i.zero = some z)
    (hsize : i.size = size) (hby : i.bytes = bytes) (hzs : z.cells.size = size) (hsz : 0 < size) (v : Value) (n : Nat) (xs : List Value) (hown : w.ownsRow base e size v n xs)
    (a : Option Addr) (m c : Nat) (hn : a = none → m = 0 ∧ c = 0) (vs : List Value) (hl : vs.length = m * size) (hr : RowV w a vs) (h1 : ∀ u ∈ vs, u.oneCell' = true) (h63 : n + m ≤ maxLen) (hbytes : (n + m) * bytes ≤ 140737488355328) (hbase : base ≤ w.heap.size) :
    ∃ v' w', (Builtin.append_ #[t, t] ty #[v, .slice a m c]).run P w = .ok v' w' ∧ w'.ownsRow base e size v' (n + m) (xs ++ vs) ∧ w.grownBy w' v.ownBlock := by
  cases a with
  | none =>
    obtain ⟨rfl, rfl⟩ := hn rfl
    have h0 : vs = [] := List.length_eq_zero_iff.1 (by simpa using hl)
    subst h0
    exact ⟨v, w, run_append_owned_none w base t ty e i size ht hi v n xs hown, by simpa using hown, World.grownBy.refl _ _⟩
  | some x =>
    obtain ⟨v', w', h1, h2, h3, _⟩ := run_append_own (P := P) (w := w) base t ty e i z size bytes ht hi hz hsize hby hzs hsz v n xs hown x m c vs hl (by
      intro j u hj
      obtain ⟨hlt, rfl⟩ := List.getElem?_eq_some_iff.1 hj
      obtain ⟨b, o, h1, h2⟩ := hr j hlt
      cases h1
      rw [Addr.add_lit]
      exact h2) h1 h63 hbytes hbase
    exact ⟨v', w', h1, h2, h3⟩
theorem wpList_append_vals {P : Program} (w : World) {ops : Array Oper} {rest : List Oper} {o : Oper} {ac : Act} {Q : Exit → Act → World → Prop} (hgd : o.guard = none) (s x : Operand) (t : TypeId)
    (ho : o.op = .call { callee := .builtin .append, args := #[s, x], argTypes := #[t, t] })
    (base e : TypeId) (i : TypeInfo) (z : Value) (size bytes : Nat) (ht : P.underlying t = some (.slice e)) (hi : P.info? e = some i) (hz : i.zero = some z)
    (hsize : i.size = size) (hby : i.bytes = bytes) (hzs : z.cells.size = size) (hsz : 0 < size) (v : Value) (n : Nat) (xs : List Value) (hs : ac.eval s = v) (hown : w.ownsRow base e size v n xs)
    (a : Option Addr) (m c : Nat) (vs : List Value) (hx : ac.eval x = .slice a m c) (hn : a = none → m = 0 ∧ c = 0) (hl : vs.length = m * size) (hr : RowV w a vs) (h1 : ∀ u ∈ vs, u.oneCell' = true) (h63 : n + m ≤ maxLen) (hbytes : (n + m) * bytes ≤ 140737488355328) (hbase : base ≤ w.heap.size)
    (h : ∀ v' w', w'.ownsRow base e size v' (n + m) (xs ++ vs) → w.grownBy w' v.ownBlock → wpList P ops Q rest (ac.put o.dst v') w') : wpList P ops Q (o :: rest) ac w := by
  obtain ⟨v', w', h1, h2, h3⟩ := run_append_vals (P := P) w base t o.type e i z size bytes ht hi hz hsize hby hzs hsz v n xs hown a m c hn vs hl hr h1 h63 hbytes hbase
  exact Lib.wpList_append_run w hgd s x t t ho _ _ hs hx v' w' h1 (h v' w' h2 h3)
theorem wp_append_vals {P : Program} (w : World) {o : Oper} {ac : Act} {K : Act → World → Prop} {Q : Exit → Act → World → Prop} (s x : Operand) (t : TypeId)
    (ho : o.op = .call { callee := .builtin .append, args := #[s, x], argTypes := #[t, t] })
    (base e : TypeId) (i : TypeInfo) (z : Value) (size bytes : Nat) (ht : P.underlying t = some (.slice e)) (hi : P.info? e = some i) (hz : i.zero = some z)
    (hsize : i.size = size) (hby : i.bytes = bytes) (hzs : z.cells.size = size) (hsz : 0 < size) (v : Value) (n : Nat) (xs : List Value) (hs : ac.eval s = v) (hown : w.ownsRow base e size v n xs)
    (a : Option Addr) (m c : Nat) (vs : List Value) (hx : ac.eval x = .slice a m c) (hn : a = none → m = 0 ∧ c = 0) (hl : vs.length = m * size) (hr : RowV w a vs) (h1 : ∀ u ∈ vs, u.oneCell' = true) (h63 : n + m ≤ maxLen) (hbytes : (n + m) * bytes ≤ 140737488355328) (hbase : base ≤ w.heap.size)
    (h : ∀ v' w', w'.ownsRow base e size v' (n + m) (xs ++ vs) → w.grownBy w' v.ownBlock → K (ac.put o.dst v') w') : o.wp P ac w K Q := by
  obtain ⟨v', w', h1, h2, h3⟩ := run_append_vals (P := P) w base t o.type e i z size bytes ht hi hz hsize hby hzs hsz v n xs hown a m c hn vs hl hr h1 h63 hbytes hbase
  exact Lib.wp_append_run w s x t t ho _ _ hs hx v' w' h1 (h v' w' h2 h3)

/-- make([]T, n) for integers. -/
theorem run_mk_ints {P : Program} (t e : TypeId) (i : TypeInfo) (q : IntKind) (bytes : Nat) (ht : P.underlying t = some (.slice e)) (hi : P.info? e = some i) (hz : i.zero = some (.int q 0)) (hsize : i.size = 1) (hby : i.bytes = bytes)
    (n : Nat) (z : Int) (hzn : z = n) (hb : bytes * n ≤ 281474976710656) (h63 : n ≤ 9223372036854775807) (W : World) :
    (Instr.makeSlice t (.int .i64 z) (.int .i64 z)).run P W = .ok (.slice (some ⟨W.heap.size, 0, none⟩) n n) (W.alloc (.cells ((List.replicate n (0 : Int)).map (Value.int q)).toArray e)) := by
  subst hzn
  subst hby
  have hb' : (i.bytes : Int) * (n : Int) ≤ 281474976710656 := by
    have h : ((i.bytes * n : Nat) : Int) ≤ 281474976710656 := by omega
    rwa [Int.natCast_mul] at h
  rw [run_make (P := P) W t e i _ ht hi hz .i64 .i64 n n (by omega) (Int.le_refl _) hb' (by omega)]
  simp only [Int.toNat_natCast, hsize, Nat.mul_one]
  have e1 : madeCells (Value.int q 0).cells n = ((List.replicate n (0 : Int)).map (Value.int q)).toArray := by
    apply Array.ext
    · simp [madeCells]
    · intro j h1 h2
      simp [madeCells, Value.cells, Nat.mod_one]
  rw [e1]
end Go.Proofs.YtijkdabmegbcjaaGreatDoor
namespace Go.Proofs.YtijkdabmegbcjaaGreatDoor
open Go.RowKit

def BlkG (w : World) (b : Nat) (T : TypeId) (vs : List Value) : Prop := w.heap[b]? = some (.cells vs.toArray T (0, 0))
section
variable {w w' : World} {b : Nat} {T : TypeId} {vs : List Value}
theorem BlkG.lt (h : BlkG w b T vs) : b < w.heap.size := (Array.getElem?_eq_some_iff.1 h).1
theorem BlkG.cell (h : BlkG w b T vs) (i : Nat) (hi : i < vs.length) : w.cell? ⟨b, i, none⟩ = some vs[i] := by
  rw [cell_of_row w b i _ T (0, 0) h]; simp [hi]
theorem BlkG.free (h : BlkG w b T vs) (i : Nat) : w.frozen? ⟨b, i, none⟩ = false := frozen_of_row w b i _ T h
theorem BlkG.only {O : Nat → Prop} (h : BlkG w b T vs) (ho : Only O w w') (hb : ¬ O b) : BlkG w' b T vs := (ho.same b h.lt hb).trans h
theorem BlkG.below (h : BlkG w b T vs) (hb : Below w.heap.size w w') : BlkG w' b T vs := (hb.block b h.lt).trans h
theorem BlkG.alloc (h : BlkG w b T vs) (o : Obj) : BlkG (w.alloc o) b T vs := (Below.heap_alloc w o b h.lt).trans h
theorem BlkG.oth (h : BlkG w b T vs) {c i : Nat} (v : Value) (hb : b ≠ c) : BlkG (w.setCell ⟨c, i, none⟩ v) b T vs := (heap_setCell_other w ⟨c, i, none⟩ b v hb).trans h
theorem BlkG.set (h : BlkG w b T vs) (i : Nat) (v : Value) : BlkG (w.setCell ⟨b, i, none⟩ v) b T (vs.set i v) := by
  unfold BlkG at *
  rw [heap_setCell_same w b i _ T _ h]
  congr 2
  apply Array.ext'
  simp
theorem BlkG.new (w : World) (T : TypeId) (vs : List Value) : BlkG (w.alloc (.cells vs.toArray T)) w.heap.size T vs := World.alloc_heap_new w _
theorem BlkG.there (h : BlkG w b T vs) : w.there b 0 vs.length := fun j hj => ⟨by rw [Nat.zero_add, h.cell j hj]; rfl, by rw [Nat.zero_add]; exact h.free j⟩
end
theorem wp_load_blkG {P : Program} {o : Oper} {a : Act} {w : World} {K : Act → World → Prop} {Q : Exit → Act → World → Prop} (ty : TypeId) (x : Operand) (ho : o.op = .load ty x)
    (b : Nat) (hx : a.eval x = .pointer (some ⟨b, 0, none⟩)) (T : TypeId) (vs : List Value) (d : TypeDesc) (hB : BlkG w b T vs) (hu : P.underlying ty = some d) (hd : (match d with | .struct _ | .array _ _ => true | _ => false) = true) (hi : (P.info? ty).map (·.size) = some vs.length)
    (h : K (a.put o.dst (.agg vs.toArray)) w) : o.wp P a w K Q := wp_load_row ty x ho b hx T _ (0, 0) d hB hu hd (by simpa using hi) h
theorem wpList_load_blkG {P : Program} {ops : Array Oper} {rest : List Oper} {o : Oper} {a : Act} {w : World} {Q : Exit → Act → World → Prop} (hgd : o.guard = none) (ty : TypeId) (x : Operand) (ho : o.op = .load ty x)
    (b : Nat) (hx : a.eval x = .pointer (some ⟨b, 0, none⟩)) (T : TypeId) (vs : List Value) (d : TypeDesc) (hB : BlkG w b T vs) (hu : P.underlying ty = some d) (hd : (match d with | .struct _ | .array _ _ => true | _ => false) = true) (hi : (P.info? ty).map (·.size) = some vs.length)
    (h : wpList P ops Q rest (a.put o.dst (.agg vs.toArray)) w) : wpList P ops Q (o :: rest) a w := wpList_load_row hgd ty x ho b hx T _ (0, 0) d hB hu hd (by simpa using hi) h
theorem wp_store_blkG {P : Program} {o : Oper} {a : Act} {w : World} {K : Act → World → Prop} {Q : Exit → Act → World → Prop} (ty : TypeId) (x y : Operand) (ho : o.op = .store ty x y)
    (b : Nat) (hx : a.eval x = .pointer (some ⟨b, 0, none⟩)) (T : TypeId) (vs vs' : List Value) (hB : BlkG w b T vs) (hy : a.eval y = .agg vs'.toArray) (hl : vs'.length = vs.length) (hi : (P.info? ty).map (·.size) = some vs'.length) (h1 : vs'.all (·.oneCell') = true)
    (h : ∀ w', BlkG w' b T vs' → Only (· = b) w w' → K (a.put o.dst undef) w') : o.wp P a w K Q := by
  refine wp_store_mid ty x y ho b 0 _ hx hy (by simpa [hl] using hB.there) (by simpa using hi) (by simpa using h1) (h _ ?_ (setCells_only _ _ _ _))
  have := setCells_blk b T vs' [] vs w (by simpa [BlkG] using hB) (by simp [hl])
  simpa [BlkG] using this
theorem wpList_store_blkG {P : Program} {ops : Array Oper} {rest : List Oper} {o : Oper} {a : Act} {w : World} {Q : Exit → Act → World → Prop} (hgd : o.guard = none) (ty : TypeId) (x y : Operand) (ho : o.op = .store ty x y)
    (b : Nat) (hx : a.eval x = .pointer (some ⟨b, 0, none⟩)) (T : TypeId) (vs vs' : List Value) (hB : BlkG w b T vs) (hy : a.eval y = .agg vs'.toArray) (hl : vs'.length = vs.length) (hi : (P.info? ty).map (·.size) = some vs'.length) (h1 : vs'.all (·.oneCell') = true)
    (h : ∀ w', BlkG w' b T vs' → Only (· = b) w w' → wpList P ops Q rest (a.put o.dst undef) w') : wpList P ops Q (o :: rest) a w :=
  wpList_plain hgd fun _ hK => wp_store_blkG ty x y ho b hx T vs vs' hB hy hl hi h1 fun w' h1 h2 => hK _ _ (h w' h1 h2)
theorem results_blkG {P : Program} {fn : Func} {p : Tmp} {ty : TypeId} (h : fn.results = #[.cell p ty]) (tmps : Array Value) (w : World) (b : Nat) (T : TypeId) (vs : List Value) (d : TypeDesc)
    (hp : tmps.getD p undef = .pointer (some ⟨b, 0, none⟩)) (hB : BlkG w b T vs) (hu : P.underlying ty = some d) (hd : (match d with | .struct _ | .array _ _ => true | _ => false) = true) (hi : (P.info? ty).map (·.size) = some vs.length) :
    (results fn tmps).run P w = .ok (.agg vs.toArray) w := results_cell_row h tmps w b T _ (0, 0) d hp hB hu hd (by simpa using hi)
theorem results_blkG2 {P : Program} {fn : Func} {p r : Tmp} {ty : TypeId} (h : fn.results = #[.cell p ty, .tmp r]) (tmps : Array Value) (w : World) (b : Nat) (T : TypeId) (vs : List Value) (d : TypeDesc)
    (hp : tmps.getD p undef = .pointer (some ⟨b, 0, none⟩)) (hB : BlkG w b T vs) (hu : P.underlying ty = some d) (hd : (match d with | .struct _ | .array _ _ => true | _ => false) = true) (hi : (P.info? ty).map (·.size) = some vs.length) :
    (results fn tmps).run P w = .ok (.tuple #[.agg vs.toArray, tmps.getD r undef]) w := by
  have hp' : tmps[p]?.getD undef = .pointer (some ⟨b, 0, none⟩) := by simpa using hp
  simp [results, h, hp', asAddr, run_loadVar_row w b T ty _ (0, 0) d hB hu hd (by simpa using hi), Sem.run_bind]
end Go.Proofs.YtijkdabmegbcjaaGreatDoor
namespace Go.Proofs.YtijkdabmegbcjaaGreatDoor
open Go.RowKit

/-- Code, as a slice of bytes. -/
structure CodeAt (w : World) (a : Option Addr) (c : Nat) (cs : List Nat) : Prop where
  row : RowAt .u8 w a (natI cs)
  nil : a = none → c = 0
  len : cs.length ≤ 200
  ok : ∀ x ∈ cs, x < 256
  cap : cs.length ≤ c ∧ c ≤ 9223372036854775807
theorem CodeAt.below {w w' : World} {a : Option Addr} {c : Nat} {cs : List Nat} (h : CodeAt w a c cs) (hb : Below w.heap.size w w') : CodeAt w' a c cs := ⟨h.row.below hb, h.nil, h.len, h.ok, h.cap⟩
theorem CodeAt.get {w : World} {a : Option Addr} {c : Nat} {cs : List Nat} (h : CodeAt w a c cs) {i : Nat} (hi : i < cs.length) : ∃ b o, a = some ⟨b, o, none⟩ ∧ w.cell? ⟨b, o + i, none⟩ = some (.int .u8 (byN cs i)) ∧ byN cs i < 256 := by
  obtain ⟨b, o, e, hc⟩ := h.row i (by rw [natI_len]; exact hi)
  refine ⟨b, o, e, ?_, byN_lt h.ok i⟩
  rw [hc, natI_get]
  unfold byN
  rw [List.getD_eq_getElem?_getD, List.getElem?_eq_getElem hi]
  rfl
/-- A row of numbers, as a slice of ints. -/
structure IntsAt (w : World) (a : Option Addr) (c : Nat) (l : List Nat) : Prop where
  row : RowAt .i64 w a (natI l)
  nil : a = none → c = 0
theorem IntsAt.below {w w' : World} {a : Option Addr} {c : Nat} {l : List Nat} (h : IntsAt w a c l) (hb : Below w.heap.size w w') : IntsAt w' a c l := ⟨h.row.below hb, h.nil⟩
theorem IntsAt.get {w : World} {a : Option Addr} {c : Nat} {l : List Nat} (h : IntsAt w a c l) {i : Nat} (hi : i < l.length) : ∃ b o, a = some ⟨b, o, none⟩ ∧ w.cell? ⟨b, o + i, none⟩ = some (.int .i64 (l[i] : Int)) := by
  obtain ⟨b, o, e, hc⟩ := h.row i (by rw [natI_len]; exact hi)
  exact ⟨b, o, e, by rw [hc, natI_get]⟩
/-- A slice of ints that a call made: its numbers. -/
def OwnI (w w' : World) (v : Value) (l : List Nat) : Prop := w'.ownsRow w.heap.size 3 1 v l.length ((natI l).map (Value.int .i64))
theorem OwnI.at {w w' : World} {v : Value} {l : List Nat} (h : OwnI w w' v l) : ∃ a c, v = .slice a l.length c ∧ IntsAt w' a c l ∧ (∀ x, a = some x → w.heap.size ≤ x.block) := by
  obtain ⟨a, c, e, hr, hn, hx, -⟩ := rowAt_own h
  rw [natI_len] at e
  exact ⟨a, c, e, ⟨hr, hn⟩, hx⟩
theorem dig_dec (n : Nat) (h : n < 100) : digN n = Lib.decDigits n := by
  unfold digN
  split
  · rename_i h1; rw [dec_lo n h1]
  · rename_i h1; rw [dec_hi n (by omega) h]
theorem info_int : (Tryz.prog.info? 3).map (fun i => (i.zero, i.size, i.bytes)) = some (some (Value.int .i64 0), 1, 8) := by kernel_rfl
end Go.Proofs.YtijkdabmegbcjaaGreatDoor
namespace Go.Proofs.YtijkdabmegbcjaaGreatDoor
open Go.RowKit

theorem str_add (x y : List UInt8) : (⟨x.toArray⟩ : ByteArray) ++ ⟨y.toArray⟩ = ⟨(x ++ y).toArray⟩ := by
  apply ByteArray.ext
  rw [ByteArray.data_append]
  simp
end Go.Proofs.YtijkdabmegbcjaaGreatDoor
namespace Go.Proofs.YtijkdabmegbcjaaGreatDoor
open Go.RowKit

@[go_sem high] theorem field_size (v0 v1 v2 v3 v4 v5 : Value) (w : World) : (Instr.field 113 (.agg #[v0, v1, v2, v3, v4, v5]) 5).run Tryz.prog w = .ok v5 w := by kernel_rfl
def inN (l : List Nat) (n : Int) : Bool := l.any fun x => (x : Int) == n
theorem inN_nat (l : List Nat) (n : Nat) : inN l n = decide (n ∈ l) := by
  unfold inN
  rw [Bool.eq_iff_iff, List.any_eq_true, decide_eq_true_eq]
  constructor
  · rintro ⟨x, h1, h2⟩
    rw [beq_iff_eq, Int.ofNat_inj] at h2
    rw [← h2]; exact h1
  · intro h; exact ⟨n, h, by simp⟩
end Go.Proofs.YtijkdabmegbcjaaGreatDoor
namespace Go.Proofs.YtijkdabmegbcjaaGreatDoor
open Go.RowKit

theorem marks_step {cs : List Nat} {k : Nat} (h : k < (opsL cs).length) : ((opsL cs).take (k + 1)).filter (fun i => byN cs i == 91) = ((opsL cs).take k).filter (fun i => byN cs i == 91) ++ if byN cs (opsL cs)[k] = 91 then [(opsL cs)[k]] else [] := by
  rw [List.take_succ_eq_append_getElem h, List.filter_append]
  congr 1
  by_cases e : byN cs (opsL cs)[k] = 91
  · simp [e]
  · simp [e]
def smallN (N : Nat) : Nat × Bool := if N < 18446744073709551616 then (N, true) else (0, false)
/-! Bytes as a word. -/
theorem numN_byte : ∀ (r : List Nat) (i : Nat), (∀ x ∈ r, x < 256) → byteAt (numN r.reverse) i = r.getD i 0
  | [], i, _ => by simp [numN, byteAt]
  | b :: r, 0, h => by
    have := h b (by simp)
    rw [List.reverse_cons, numN_snoc]
    unfold byteAt
    simp
    omega
  | b :: r, i + 1, h => by
    have hb := h b (by simp)
    rw [List.reverse_cons, numN_snoc]
    have e : byteAt (numN r.reverse * 256 + b) (i + 1) = byteAt (numN r.reverse) i := by
      unfold byteAt
      rw [Nat.pow_succ, Nat.mul_comm (256 ^ i), ← Nat.div_div_eq_div_mul]
      congr 2
      omega
    rw [e, numN_byte r i fun x hx => h x (by simp [hx])]
    simp
end Go.Proofs.YtijkdabmegbcjaaGreatDoor
namespace Go.Proofs.YtijkdabmegbcjaaGreatDoor
open Go.RowKit

theorem info_u8 : (Tryz.prog.info? 5).map (fun i => (i.zero, i.size, i.bytes)) = some (some (Value.int .u8 0), 1, 1) := by kernel_rfl
end Go.Proofs.YtijkdabmegbcjaaGreatDoor
namespace Go.Proofs.YtijkdabmegbcjaaGreatDoor
open Go.RowKit

theorem inN_true {l : List Nat} {n : Int} (h : inN l n = true) : ∃ k ∈ l, (k : Int) = n := by
  unfold inN at h
  rw [List.any_eq_true] at h
  obtain ⟨k, h1, h2⟩ := h
  exact ⟨k, h1, by simpa using h2⟩
/-- What a PUSH at a place puts; none. -/
def pushZ (cs : List Nat) (n : Int) : Option Nat := if inN (opsL cs) n = true then pushV cs n.toNat else none
theorem pushZ_nat (cs : List Nat) (n : Nat) : pushZ cs n = pushN cs n := by
  unfold pushZ pushN
  rw [inN_nat, Int.toNat_natCast]
  simp
theorem wrap64_small' (n : Nat) (h : n < 9223372036854775808) : wrap64 (n : Int) = n := by rw [wrap64]; omega
def optV (r : Option Nat) : Value := .tuple #[wordV (r.getD 0), .bool r.isSome]
theorem wordV_L (N : Nat) : wordV N = .agg ((wordL N).map (Value.int .u64)).toArray := rfl
end Go.Proofs.YtijkdabmegbcjaaGreatDoor
namespace Go.Proofs.YtijkdabmegbcjaaGreatDoor
open Go.RowKit

@[go_sem high] theorem field_name (v0 v1 v2 v3 v4 v5 : Value) (w : World) : (Instr.field 113 (.agg #[v0, v1, v2, v3, v4, v5]) 0).run Tryz.prog w = .ok v0 w := by kernel_rfl
set_option maxRecDepth 100000 in
set_option maxHeartbeats 1000000 in
theorem refInts_any (l l' : List Nat) (a a' : Option Addr) (c c' : Nat) (w : World) (h : IntsAt w a c l) (h' : IntsAt w a' c' l') (hl : l.length ≤ 1000) (hl' : l'.length ≤ 1000) :
    Calls Tryz.prog 22 #[.slice a l.length c, .slice a' l'.length c'] w fun e w' => e = .returned (.bool (decide (l = l'))) ∧ ∃ k, w' = w.drewN k := by
  by_cases hn : l.length = l'.length
  · have hn2 : (l.length : Int) = (l'.length : Int) := by omega
    have hyes : Hid ((∀ j, (h : j < l.length) → l[j] = l'[j]'(by omega)) → decide (l = l') = true) := Lib.hid fun h => decide_eq_true (List.ext_getElem hn fun j h1 h2 => h j h1)
    have hno : Hid (∀ j, (h : j < l.length) → l[j] ≠ l'[j]'(by omega) → decide (l = l') = false) := Lib.hid fun j h hne => decide_eq_false (by rintro rfl; exact hne rfl)
    generalize decide (l = l') = r at *
    have hg : Hid (∀ j, (hj : j < l.length) → ∀ k, ∃ b o b' o', a = some ⟨b, o, none⟩ ∧ a' = some ⟨b', o', none⟩ ∧ (w.drewN k).cell? ⟨b, o + j, none⟩ = some (.int .i64 (l[j] : Int)) ∧ (w.drewN k).cell? ⟨b', o' + j, none⟩ = some (.int .i64 ((l'[j]'(by omega) : Nat) : Int))) := Lib.hid fun j hj k => by
      obtain ⟨b, o, e1, h1⟩ := (h.below (xdrewN (xrefl w) k)).get hj
      obtain ⟨b', o', e2, h2⟩ := (h'.below (xdrewN (xrefl w) k)).get (show j < l'.length by omega)
      exact ⟨b, o, b', o', e1, e2, h1, h2⟩
    clear h h'
    go_enter Tryz.func22, Tryz.ntmps22
    go_wp2
    go_loopw [5] (fun i wr => ∃ k m : Nat, k ≤ l.length ∧ i = .int .i64 k ∧ Hid (wr = w.drewN m) ∧ Hid (∀ j, (h : j < l.length) → j < k → l[j] = l'[j]'(by omega))) (fun i _ => l.length - (intOf i).toNat)
    case atStart => exact ⟨0, 0, by omega, rfl, Lib.hid rfl, Lib.hid fun j _ h => by omega⟩
    case round =>
      obtain ⟨k, m, hk, rfl, hw, hs⟩ := hrel
      by_cases hlt : k < l.length
      · have hlt2 : (k : Int) < l.length := by omega
        have hlt3 : (k : Int) < l'.length := by omega
        obtain ⟨b, o, b', o', rfl, rfl, c1, c2⟩ := hg.out k hlt m
        rw [← hw.out] at c1 c2
        have hn3 : Hid (∀ x : Prop, x → x) := Lib.hid fun _ h => h
        by_cases e : l[k] = l'[k]'(by omega)
        · have hs2 : Hid (∀ j, (h : j < l.length) → j < k + 1 → l[j] = l'[j]'(by omega)) := Lib.hid fun j h hj => by
            by_cases e2 : j = k
            · subst e2; exact e
            · exact hs.out j h (by omega)
          rw [← e] at c2
          generalize l[k] = y at *
          clear e
          go_wp2
          go_region
          go_wp2
          go_roundw
          case rel => exact ⟨k + 1, m + 1, by omega, rfl, Lib.hid (by rw [hw.out]; rfl), hs2⟩
          case measure => simp [intOf]; omega
        · have hr := hno.out k hlt e
          subst hr
          have e2 : ¬ (l[k] : Int) = ((l'[k]'(by omega) : Nat) : Int) := by omega
          generalize (l[k] : Int) = y at *
          generalize ((l'[k]'(by omega) : Nat) : Int) = y' at *
          clear e
          go_wp2
          go_region
          go_wp2
          go_ret
          exact ⟨rfl, m + 1, by rw [hw.out]; rfl⟩
      · obtain rfl : k = l.length := by omega
        have hr := hyes.out fun j h => hs.out j h h
        subst hr
        clear hlt
        go_wp2
        go_ret
        exact ⟨rfl, m, hw.out⟩
  · have e : decide (l = l') = false := decide_eq_false (by rintro rfl; exact hn rfl)
    rw [e]
    have hn2 : ¬ (l.length : Int) = (l'.length : Int) := by omega
    go_enter Tryz.func22, Tryz.ntmps22
    go_wp2
    go_ret
    exact ⟨rfl, 0, rfl⟩
end Go.Proofs.YtijkdabmegbcjaaGreatDoor
namespace Go.Proofs.YtijkdabmegbcjaaGreatDoor
open Go.RowKit

def blkC (p : Option Addr) (q : Nat) (b : BlkN) : List Value := [.int .i64 b.first, .int .i64 b.last, .slice p b.next.length q, .bool b.exit]
def blkV (p : Option Addr) (q : Nat) (b : BlkN) : Value := .agg (blkC p q b).toArray
def blk0 : BlkN := ⟨0, 0, [], false⟩
theorem rangeAt_below {w w' : World} {b o : Nat} {cs : List Value} (h : w.rangeAt b o cs) (hb : Below w.heap.size w w') : w'.rangeAt b o cs := fun j v hj => cbel hb (h j v hj)
theorem intsAt_nil (w : World) : IntsAt w none 0 [] := ⟨fun i hi => absurd hi (by simp [natI]), fun _ => rfl⟩
end Go.Proofs.YtijkdabmegbcjaaGreatDoor
