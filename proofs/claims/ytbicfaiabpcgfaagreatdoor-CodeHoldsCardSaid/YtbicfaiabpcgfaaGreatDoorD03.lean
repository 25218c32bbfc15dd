/- Texts of this claim, merged; no condition. -/
import Derived.StillTailTactics
import Derived.Deep.Cut
import Derived.OneCell
import Derived.LoopN
import Derived.Test.YtbicfaiabpcgfaaGreatDoorD01
import Derived.Test.YtbicfaiabpcgfaaGreatDoorD02
import Derived.Laws.MakeOwn
import Derived.Test.YtbicfaiabpcgfaaGreatDoorD00
import Derived.Lib.SlBytesRow
import Derived.Laws.IdiomStrings
set_option linter.all false
namespace Go.Proofs.YtbicfaiabpcgfaaGreatDoor
open Go.RowKit

theorem wp_world {P : Program} {c : Code} {Q : Exit → Act → World → Prop} {a : Act} {w w' : World} (h : w = w') (h2 : c.wp P Q a w') : c.wp P Q a w := h ▸ h2
theorem run_eql_at {P : Program} {o : Oper} {ac : Act} {w : World} (T r : TypeId) (x y : Operand) (ho : o.op = .binOp .eql T x y r) (e : TypeId) (n : Nat) (q q' : IntKind) (l l' : List Int) (hx : ac.eval x = .agg (l.map (Value.int q)).toArray) (hy : ac.eval y = .agg (l'.map (Value.int q)).toArray)
    (hT : P.underlying T = some (.array n e)) (he : P.underlying e = some (.int q')) (hs : (P.info? e).isSome = true) (hc : P.cellsOf e = 1) (hm : P.eqGuardType P.depth T = false) (hn : l.length = n) (hn' : l'.length = n) : (execOp ac.eval o).run P w = .ok (.value (.bool (decide (l = l')))) w := by
  unfold execOp
  simp only [ho, hx, hy, Sem.run_bind, Sem.run_pure, Result.andThen_ok, run_eqGuard_agg (hm := hm), run_eql_ints T e n q q' l l' w hT he hs hc hn hn']
theorem own_slice {w : World} {base : Nat} {e : TypeId} {v : Value} {n : Nat} {xs : List Value} (h : w.ownsRow base e 1 v n xs) : ∃ a c, v = .slice a n c := by
  rcases h.2 with ⟨rfl, rfl⟩ | ⟨g, cap, cur, rfl, _⟩
  · have := h.1
    simp at this
    subst this
    exact ⟨none, 0, rfl⟩
  · exact ⟨_, cap, rfl⟩
theorem boxed_cell {w : World} {bx : Nat} {v : Value} {T : TypeId} (h : w.heap[bx]? = some (.cells #[v] T)) : w.cell? ⟨bx, 0, none⟩ = some v := by rw [cell_of_row w bx 0 _ T (0, 0) h]; rfl
theorem boxed_free {w : World} {bx : Nat} {v : Value} {T : TypeId} (h : w.heap[bx]? = some (.cells #[v] T)) : w.frozen? ⟨bx, 0, none⟩ = false := frozen_of_row w bx 0 _ T h
theorem boxed_set {w : World} {bx : Nat} {v u : Value} {T : TypeId} (h : w.heap[bx]? = some (.cells #[v] T)) : (w.setCell ⟨bx, 0, none⟩ u).heap[bx]? = some (.cells #[u] T) := by
  rw [heap_setCell_same w bx 0 _ T _ h]; rfl
theorem boxed_ne {w : World} {base bx : Nat} {v u : Value} {e T : TypeId} {n : Nat} {xs : List Value} (h : w.ownsRow base e 1 v n xs) (hb : w.heap[bx]? = some (.cells #[u] T)) (hT : e ≠ T) : v.ownBlock ≠ some bx := by
  rcases h.2 with ⟨rfl, -⟩ | ⟨g, cap, cur, rfl, _, hg, _⟩
  · intro e; cases e
  · intro e2
    have : g = bx := Option.some.inj e2
    subst this
    rw [hg] at hb
    injection hb with hb
    injection hb with h1 h2
    exact hT h2
theorem wp_mid {P : Program} {c : Code} {Q : Exit → Act → World → Prop} {a : Act} {w : World} (id : Nat) (M : Act → Act → World → Prop) (h1 : c.wp P (fun e a' w' => (e = .normal ∨ e = .exit id) ∧ M a a' w') a w)
    (h2 : ∀ a' w', M a a' w' → Q .normal a' w') (h3 : ∀ a' w', Q .normal a' w' → Q (.exit id) a' w') : c.wp P Q a w :=
  wp_mono h1 fun e a' w' ⟨he, hM⟩ => by
    rcases he with rfl | rfl
    · exact h2 _ _ hM
    · exact h3 _ _ (h2 _ _ hM)
theorem run_eql_fn_nil {P : Program} (t : TypeId) (h : (match P.underlying t with | some (.func _ _ _) => true | _ => false) = true) (f : Fn) (l cap : Array Value) (w : World) : (binOp .eql t (.func f l cap) .nilFunc).run P w = .ok (.bool false) w := by
  cases hu : P.underlying t with
  | none => rw [hu] at h; simp at h
  | some d =>
    cases d <;> rw [hu] at h <;> try (simp at h; done)
    show ((Op.equalIn (9999 + 1) t (.func f l cap) .nilFunc) >>= fun b => pure (Value.bool b) : Sem Value).run P w = _
    rw [Sem.run_bind]
    unfold Op.equalIn
    rw [Sem.run_bind, run_underlying hu w]
    rfl
def bigF (x y : Int) : Int := if y > x then y else x
def smallF (x y : Int) : Int := if y < x then y else x
@[go_sem high] theorem run_max_big {P : Program} {w : World} (ts : Array TypeId) (t : TypeId) (k k' : IntKind) (x y : Int) : (Builtin.max_ ts t #[.int k x, .int k' y]).run P w = .ok (.int k (bigF x y)) w := run_max_int2 w ts t k k' x y
@[go_sem high] theorem run_min_small {P : Program} {w : World} (ts : Array TypeId) (t : TypeId) (k k' : IntKind) (x y : Int) : (Builtin.min_ ts t #[.int k x, .int k' y]).run P w = .ok (.int k (smallF x y)) w := run_min_int2 w ts t k k' x y
def Box (W : World) (k : Nat) (v : Value) (T : TypeId) : Prop := W.heap[k]? = some (.cells #[v] T)
theorem Box.cell {W : World} {k : Nat} {v : Value} {T : TypeId} (h : Box W k v T) : W.cell? ⟨k, 0, none⟩ = some v := boxed_cell h
theorem Box.free {W : World} {k : Nat} {v : Value} {T : TypeId} (h : Box W k v T) : W.frozen? ⟨k, 0, none⟩ = false := boxed_free h
theorem Box.lt {W : World} {k : Nat} {v : Value} {T : TypeId} (h : Box W k v T) : k < W.heap.size := (Array.getElem?_eq_some_iff.1 h).1
theorem Box.only {W W' : World} {k : Nat} {v : Value} {T : TypeId} {O : Nat → Prop} (h : Box W k v T) (ho : Only O W W') (hb : ¬ O k) : Box W' k v T := (ho.same k h.lt hb).trans h
theorem Box.below {W W' : World} {k : Nat} {v : Value} {T : TypeId} (h : Box W k v T) (hb : Below W.heap.size W W') : Box W' k v T := (hb.block k h.lt).trans h
theorem Box.new (W : World) (v : Value) (T : TypeId) : Box (W.alloc (.cells #[v] T)) W.heap.size v T := World.alloc_heap_new W _
theorem Box.set {W : World} {k : Nat} {v : Value} {T : TypeId} (h : Box W k v T) (u : Value) : Box (W.setCell ⟨k, 0, none⟩ u) k u T := boxed_set h
theorem results_bool {fn : Func} {p : Tmp} (h : fn.results = #[.cell p 4]) (tmps : Array Value) (w : World) (g : Nat) (v : Value) (hp : tmps.getD p undef = .pointer (some ⟨g, 0, none⟩)) (hc : w.cell? ⟨g, 0, none⟩ = some v) :
    (results fn tmps).run Tryz.prog w = .ok v w := by
  have hp' : tmps[p]?.getD undef = .pointer (some ⟨g, 0, none⟩) := by simpa using hp
  have hu := run_underlying Tryz.underlying4 w
  simp [results, h, hp', asAddr]
  unfold loadVar
  simp only [Sem.run_bind, hu, Result.andThen_ok]
  go_simp
end Go.Proofs.YtbicfaiabpcgfaaGreatDoor
namespace Go.Proofs.YtbicfaiabpcgfaaGreatDoor
open Go.RowKit

def RowV (w : World) (a : Option Addr) (vs : List Value) : Prop := ∀ i (h : i < vs.length), ∃ b o, a = some ⟨b, o, none⟩ ∧ w.cell? ⟨b, o + i, none⟩ = some vs[i]
theorem RowV.below {w w' : World} {a : Option Addr} {vs : List Value} (h : RowV w a vs) (hb : Below w.heap.size w w') : RowV w' a vs := fun i hi => by
  obtain ⟨b, o, h1, h2⟩ := h i hi
  exact ⟨b, o, h1, cbel hb h2⟩
theorem rowV_new (w : World) (T : TypeId) (vs : List Value) : RowV (w.alloc (.cells vs.toArray T)) (some ⟨w.heap.size, 0, none⟩) vs := fun i hi =>
  ⟨_, _, rfl, by rw [Nat.zero_add, cell_of_row _ _ i _ T (0, 0) (World.alloc_heap_new w _)]; simp [hi]⟩
/-- make([]T, n) for integers. -/
theorem run_mk_ints {P : Program} (t e : TypeId) (i : TypeInfo) (q : IntKind) (bytes : Nat) (ht : P.underlying t = some (.slice e)) (hi : P.info? e = some i) (hz : i.zero = some (.int q 0)) (hsize : i.size = 1) (hby : i.bytes = bytes)
    (n : Nat) (z : Int) (hzn : z = n) (hb : bytes * n ≤ 281474976710656) (h63 : n ≤ 9223372036854775807) (W : World) :
    (Instr.makeSlice t (.int .i64 z) (.int .i64 z)).run P W = .ok (.slice (some ⟨W.heap.size, 0, none⟩) n n) (W.alloc (.cells ((List.replicate n (0 : Int)).map (Value.int q)).toArray e)) := by
  subst hzn
  subst hby
  have hb' : (i.bytes : Int) * (n : Int) ≤ 281474976710656 := by
    have h : ((i.bytes * n : Nat) : Int) ≤ 281474976710656 := by omega
    rwa [Int.natCast_mul] at h
  rw [run_make (P := P) W t e i _ ht hi hz .i64 .i64 n n (by omega) (Int.le_refl _) hb' (by omega)]
  simp only [Int.toNat_natCast, hsize, Nat.mul_one]
  have e1 : madeCells (Value.int q 0).cells n = ((List.replicate n (0 : Int)).map (Value.int q)).toArray := by
    apply Array.ext
    · simp [madeCells]
    · intro j h1 h2
      simp [madeCells, Value.cells, Nat.mod_one]
  rw [e1]
end Go.Proofs.YtbicfaiabpcgfaaGreatDoor
namespace Go.Proofs.YtbicfaiabpcgfaaGreatDoor
open Go.RowKit

def BlkG (w : World) (b : Nat) (T : TypeId) (vs : List Value) : Prop := w.heap[b]? = some (.cells vs.toArray T (0, 0))
section
variable {w w' : World} {b : Nat} {T : TypeId} {vs : List Value}
theorem BlkG.lt (h : BlkG w b T vs) : b < w.heap.size := (Array.getElem?_eq_some_iff.1 h).1
theorem BlkG.cell (h : BlkG w b T vs) (i : Nat) (hi : i < vs.length) : w.cell? ⟨b, i, none⟩ = some vs[i] := by
  rw [cell_of_row w b i _ T (0, 0) h]; simp [hi]
theorem BlkG.free (h : BlkG w b T vs) (i : Nat) : w.frozen? ⟨b, i, none⟩ = false := frozen_of_row w b i _ T h
theorem BlkG.only {O : Nat → Prop} (h : BlkG w b T vs) (ho : Only O w w') (hb : ¬ O b) : BlkG w' b T vs := (ho.same b h.lt hb).trans h
theorem BlkG.below (h : BlkG w b T vs) (hb : Below w.heap.size w w') : BlkG w' b T vs := (hb.block b h.lt).trans h
theorem BlkG.alloc (h : BlkG w b T vs) (o : Obj) : BlkG (w.alloc o) b T vs := (Below.heap_alloc w o b h.lt).trans h
theorem BlkG.set (h : BlkG w b T vs) (i : Nat) (v : Value) : BlkG (w.setCell ⟨b, i, none⟩ v) b T (vs.set i v) := by
  unfold BlkG at *
  rw [heap_setCell_same w b i _ T _ h]
  congr 2
  apply Array.ext'
  simp
theorem BlkG.new (w : World) (T : TypeId) (vs : List Value) : BlkG (w.alloc (.cells vs.toArray T)) w.heap.size T vs := World.alloc_heap_new w _
theorem BlkG.there (h : BlkG w b T vs) : w.there b 0 vs.length := fun j hj => ⟨by rw [Nat.zero_add, h.cell j hj]; rfl, by rw [Nat.zero_add]; exact h.free j⟩
end
theorem wp_load_blkG {P : Program} {o : Oper} {a : Act} {w : World} {K : Act → World → Prop} {Q : Exit → Act → World → Prop} (ty : TypeId) (x : Operand) (ho : o.op = .load ty x)
    (b : Nat) (hx : a.eval x = .pointer (some ⟨b, 0, none⟩)) (T : TypeId) (vs : List Value) (d : TypeDesc) (hB : BlkG w b T vs) (hu : P.underlying ty = some d) (hd : (match d with | .struct _ | .array _ _ => true | _ => false) = true) (hi : (P.info? ty).map (·.size) = some vs.length)
    (h : K (a.put o.dst (.agg vs.toArray)) w) : o.wp P a w K Q := wp_load_row ty x ho b hx T _ (0, 0) d hB hu hd (by simpa using hi) h
theorem wpList_load_blkG {P : Program} {ops : Array Oper} {rest : List Oper} {o : Oper} {a : Act} {w : World} {Q : Exit → Act → World → Prop} (hgd : o.guard = none) (ty : TypeId) (x : Operand) (ho : o.op = .load ty x)
    (b : Nat) (hx : a.eval x = .pointer (some ⟨b, 0, none⟩)) (T : TypeId) (vs : List Value) (d : TypeDesc) (hB : BlkG w b T vs) (hu : P.underlying ty = some d) (hd : (match d with | .struct _ | .array _ _ => true | _ => false) = true) (hi : (P.info? ty).map (·.size) = some vs.length)
    (h : wpList P ops Q rest (a.put o.dst (.agg vs.toArray)) w) : wpList P ops Q (o :: rest) a w := wpList_load_row hgd ty x ho b hx T _ (0, 0) d hB hu hd (by simpa using hi) h
theorem wp_store_blkG {P : Program} {o : Oper} {a : Act} {w : World} {K : Act → World → Prop} {Q : Exit → Act → World → Prop} (ty : TypeId) (x y : Operand) (ho : o.op = .store ty x y)
    (b : Nat) (hx : a.eval x = .pointer (some ⟨b, 0, none⟩)) (T : TypeId) (vs vs' : List Value) (hB : BlkG w b T vs) (hy : a.eval y = .agg vs'.toArray) (hl : vs'.length = vs.length) (hi : (P.info? ty).map (·.size) = some vs'.length) (h1 : vs'.all (·.oneCell') = true)
    (h : ∀ w', BlkG w' b T vs' → Only (· = b) w w' → K (a.put o.dst undef) w') : o.wp P a w K Q := by
  refine wp_store_mid ty x y ho b 0 _ hx hy (by simpa [hl] using hB.there) (by simpa using hi) (by simpa using h1) (h _ ?_ (setCells_only _ _ _ _))
  have := setCells_blk b T vs' [] vs w (by simpa [BlkG] using hB) (by simp [hl])
  simpa [BlkG] using this
theorem wpList_store_blkG {P : Program} {ops : Array Oper} {rest : List Oper} {o : Oper} {a : Act} {w : World} {Q : Exit → Act → World → Prop} (hgd : o.guard = none) (ty : TypeId) (x y : Operand) (ho : o.op = .store ty x y)
    (b : Nat) (hx : a.eval x = .pointer (some ⟨b, 0, none⟩)) (T : TypeId) (vs vs' : List Value) (hB : BlkG w b T vs) (hy : a.eval y = .agg vs'.toArray) (hl : vs'.length = vs.length) (hi : (P.info? ty).map (·.size) = some vs'.length) (h1 : vs'.all (·.oneCell') = true)
    (h : ∀ w', BlkG w' b T vs' → Only (· = b) w w' → wpList P ops Q rest (a.put o.dst undef) w') : wpList P ops Q (o :: rest) a w :=
  wpList_plain hgd fun _ hK => wp_store_blkG ty x y ho b hx T vs vs' hB hy hl hi h1 fun w' h1 h2 => hK _ _ (h w' h1 h2)
theorem results_blkG {P : Program} {fn : Func} {p : Tmp} {ty : TypeId} (h : fn.results = #[.cell p ty]) (tmps : Array Value) (w : World) (b : Nat) (T : TypeId) (vs : List Value) (d : TypeDesc)
    (hp : tmps.getD p undef = .pointer (some ⟨b, 0, none⟩)) (hB : BlkG w b T vs) (hu : P.underlying ty = some d) (hd : (match d with | .struct _ | .array _ _ => true | _ => false) = true) (hi : (P.info? ty).map (·.size) = some vs.length) :
    (results fn tmps).run P w = .ok (.agg vs.toArray) w := results_cell_row h tmps w b T _ (0, 0) d hp hB hu hd (by simpa using hi)
theorem results_blkG2 {P : Program} {fn : Func} {p r : Tmp} {ty : TypeId} (h : fn.results = #[.cell p ty, .tmp r]) (tmps : Array Value) (w : World) (b : Nat) (T : TypeId) (vs : List Value) (d : TypeDesc)
    (hp : tmps.getD p undef = .pointer (some ⟨b, 0, none⟩)) (hB : BlkG w b T vs) (hu : P.underlying ty = some d) (hd : (match d with | .struct _ | .array _ _ => true | _ => false) = true) (hi : (P.info? ty).map (·.size) = some vs.length) :
    (results fn tmps).run P w = .ok (.tuple #[.agg vs.toArray, tmps.getD r undef]) w := by
  have hp' : tmps[p]?.getD undef = .pointer (some ⟨b, 0, none⟩) := by simpa using hp
  simp [results, h, hp', asAddr, run_loadVar_row w b T ty _ (0, 0) d hB hu hd (by simpa using hi), Sem.run_bind]
end Go.Proofs.YtbicfaiabpcgfaaGreatDoor
namespace Go.Proofs.YtbicfaiabpcgfaaGreatDoor
open Go.RowKit

/-- Code, as a slice of bytes. -/
structure CodeAt (w : World) (a : Option Addr) (c : Nat) (cs : List Nat) : Prop where
  row : RowAt .u8 w a (natI cs)
  nil : a = none → c = 0
  len : cs.length ≤ 1000
  ok : ∀ x ∈ cs, x < 256
  cap : cs.length ≤ c ∧ c ≤ 9223372036854775807
theorem CodeAt.below {w w' : World} {a : Option Addr} {c : Nat} {cs : List Nat} (h : CodeAt w a c cs) (hb : Below w.heap.size w w') : CodeAt w' a c cs := ⟨h.row.below hb, h.nil, h.len, h.ok, h.cap⟩
theorem CodeAt.get {w : World} {a : Option Addr} {c : Nat} {cs : List Nat} (h : CodeAt w a c cs) {i : Nat} (hi : i < cs.length) : ∃ b o, a = some ⟨b, o, none⟩ ∧ w.cell? ⟨b, o + i, none⟩ = some (.int .u8 (byN cs i)) ∧ byN cs i < 256 := by
  obtain ⟨b, o, e, hc⟩ := h.row i (by rw [natI_len]; exact hi)
  refine ⟨b, o, e, ?_, byN_lt h.ok i⟩
  rw [hc, natI_get]
  unfold byN
  rw [List.getD_eq_getElem?_getD, List.getElem?_eq_getElem hi]
  rfl
/-- Code of any length that the statements' second form allows. -/
structure CodeL (w : World) (a : Option Addr) (c : Nat) (cs : List Nat) : Prop where
  row : RowAt .u8 w a (natI cs)
  nil : a = none → c = 0
  len : cs.length ≤ 1048576
  ok : ∀ x ∈ cs, x < 256
  cap : cs.length ≤ c ∧ c ≤ 9223372036854775807
theorem CodeAt.long {w : World} {a : Option Addr} {c : Nat} {cs : List Nat} (h : CodeAt w a c cs) : CodeL w a c cs := ⟨h.row, h.nil, by have := h.len; omega, h.ok, h.cap⟩
theorem CodeL.below {w w' : World} {a : Option Addr} {c : Nat} {cs : List Nat} (h : CodeL w a c cs) (hb : Below w.heap.size w w') : CodeL w' a c cs := ⟨h.row.below hb, h.nil, h.len, h.ok, h.cap⟩
theorem CodeL.get {w : World} {a : Option Addr} {c : Nat} {cs : List Nat} (h : CodeL w a c cs) {i : Nat} (hi : i < cs.length) : ∃ b o, a = some ⟨b, o, none⟩ ∧ w.cell? ⟨b, o + i, none⟩ = some (.int .u8 (byN cs i)) ∧ byN cs i < 256 := by
  obtain ⟨b, o, e, hc⟩ := h.row i (by rw [natI_len]; exact hi)
  refine ⟨b, o, e, ?_, byN_lt h.ok i⟩
  rw [hc, natI_get]
  unfold byN
  rw [List.getD_eq_getElem?_getD, List.getElem?_eq_getElem hi]
  rfl
/-- A row of numbers, as a slice of ints. -/
structure IntsAt (w : World) (a : Option Addr) (c : Nat) (l : List Nat) : Prop where
  row : RowAt .i64 w a (natI l)
  nil : a = none → c = 0
theorem IntsAt.below {w w' : World} {a : Option Addr} {c : Nat} {l : List Nat} (h : IntsAt w a c l) (hb : Below w.heap.size w w') : IntsAt w' a c l := ⟨h.row.below hb, h.nil⟩
theorem IntsAt.get {w : World} {a : Option Addr} {c : Nat} {l : List Nat} (h : IntsAt w a c l) {i : Nat} (hi : i < l.length) : ∃ b o, a = some ⟨b, o, none⟩ ∧ w.cell? ⟨b, o + i, none⟩ = some (.int .i64 (l[i] : Int)) := by
  obtain ⟨b, o, e, hc⟩ := h.row i (by rw [natI_len]; exact hi)
  exact ⟨b, o, e, by rw [hc, natI_get]⟩
/-- A slice of ints that a call made: its numbers. -/
def OwnI (w w' : World) (v : Value) (l : List Nat) : Prop := w'.ownsRow w.heap.size 3 1 v l.length ((natI l).map (Value.int .i64))
theorem OwnI.at {w w' : World} {v : Value} {l : List Nat} (h : OwnI w w' v l) : ∃ a c, v = .slice a l.length c ∧ IntsAt w' a c l ∧ (∀ x, a = some x → w.heap.size ≤ x.block) := by
  obtain ⟨a, c, e, hr, hn, hx, -⟩ := rowAt_own h
  rw [natI_len] at e
  exact ⟨a, c, e, ⟨hr, hn⟩, hx⟩
theorem OwnI.nil (w : World) : OwnI w w (.slice none 0 0) [] := ⟨rfl, .inl ⟨rfl, rfl⟩⟩
theorem OwnI.below {w w' w2 : World} {v : Value} {l : List Nat} (h : OwnI w w' v l) (hb : Below w'.heap.size w' w2) : OwnI w w2 v l := own_keep h hb
theorem dig_dec (n : Nat) (h : n < 100) : digN n = Lib.decDigits n := by
  unfold digN
  split
  · rename_i h1; rw [dec_lo n h1]
  · rename_i h1; rw [dec_hi n (by omega) h]
theorem info_int : (Tryz.prog.info? 3).map (fun i => (i.zero, i.size, i.bytes)) = some (some (Value.int .i64 0), 1, 8) := by kernel_rfl
end Go.Proofs.YtbicfaiabpcgfaaGreatDoor
namespace Go.Proofs.YtbicfaiabpcgfaaGreatDoor
open Go.RowKit

theorem chr_conv (d : Nat) (hd : d < 10) (W : World) : (convert 32 9 (.slice (some ⟨W.heap.size, 0, none⟩) 1 1)).run Tryz.prog (W.alloc (.cells #[.int .u8 (48 + (d : Int))] 5)) = .ok (.string ⟨#[UInt8.ofNat (48 + d)]⟩) (W.alloc (.cells #[.int .u8 (48 + (d : Int))] 5)) := by
  refine run_convert_bytes_back (P := Tryz.prog) _ 32 9 5 ⟨W.heap.size, 0, none⟩ 1 [UInt8.ofNat (48 + d)] Tryz.underlying32 Tryz.underlying5 Tryz.underlying9 ?_
  intro j hj
  obtain rfl : j = 0 := by simp at hj; omega
  have h := cell_of_row (W.alloc (.cells #[.int .u8 (48 + (d : Int))] 5)) W.heap.size 0 _ 5 (0, 0) (World.alloc_heap_new W _)
  show (W.alloc (.cells #[.int .u8 (48 + (d : Int))] 5)).cell? ⟨W.heap.size, 0, none⟩ = _
  rw [h]
  have := u8_nat d (by omega)
  simp only [List.getElem_cons_zero, this]
  rfl
theorem str_cons (c : UInt8) (t : List UInt8) : (⟨#[c]⟩ : ByteArray) ++ ⟨t.toArray⟩ = ⟨(c :: t).toArray⟩ := by
  apply ByteArray.ext
  rw [ByteArray.data_append]
  simp
theorem str_add (x y : List UInt8) : (⟨x.toArray⟩ : ByteArray) ++ ⟨y.toArray⟩ = ⟨(x ++ y).toArray⟩ := by
  apply ByteArray.ext
  rw [ByteArray.data_append]
  simp
set_option maxRecDepth 100000 in
theorem refNumber_any (n : Nat) (w : World) (hn : n < 100) : Calls Tryz.prog 26 #[.int .u64 n] w fun e w' => e = .returned (.string ⟨(digN n).toArray⟩) ∧ Below w.heap.size w w' := by
  rw [dig_dec n hn]
  go_enter Tryz.func26, Tryz.ntmps26
  go_wp2
  go_loopw [0, 3] (fun x s wx => ∃ (m : Nat) (t : List UInt8), m < 100 ∧ t.length ≤ 100 - m ∧ x = .int .u64 m ∧ s = .string ⟨t.toArray⟩ ∧ Hid (Lib.decDigits m ++ t = Lib.decDigits n) ∧ Below w.heap.size w wx) (fun x _ _ => (intOf x).toNat)
  case atStart => exact ⟨n, [], hn, by simp, rfl, rfl, Lib.hid (by simp), xrefl w⟩
  case round =>
    obtain ⟨m, t, hm, htl, rfl, rfl, hd, hb⟩ := hrel
    obtain ⟨d, hd1⟩ : ∃ d, d = m % 10 := ⟨_, rfl⟩
    obtain ⟨q, hq1⟩ : ∃ q, q = m / 10 := ⟨_, rfl⟩
    have hd2 : (m : Int) % 10 = (d : Int) := by omega
    have hq2 : (m : Int) / 10 = (q : Int) := by omega
    have hd10 : d < 10 := by omega
    have hcv := chr_conv d hd10 wr
    have hsc := str_cons (UInt8.ofNat (48 + d)) t
    have e1 : IntKind.u8.wrap (48 + (d : Int)) = 48 + (d : Int) := by rw [IntKind.wrap_u8]; omega
    obtain ⟨cc, hcc⟩ : ∃ c, c = UInt8.ofNat (48 + d) := ⟨_, rfl⟩
    rw [← hcc] at hsc hcv
    replace hsc := Lib.hid hsc
    by_cases h10 : m < 10
    · have hdm : d = m := by omega
      have hq0 : (m : Int) / 10 = 0 := by omega
      clear hq2
      have hfin : Hid (cc :: t = Lib.decDigits n) := Lib.hid (by rw [← hd.out, dec_lo m h10, hcc, hdm]; rfl)
      replace hcc := Lib.hid hcc
      replace hd1 := Lib.hid hd1
      replace hq1 := Lib.hid hq1
      replace hdm := Lib.hid hdm
      go_wp2
      go_ret
      refine ⟨?_, xalloc hb _⟩
      exact congrArg Ending.returned (congrArg Value.string (hsc.out.trans (by rw [hfin.out])))
    · have hq0 : ¬ (q : Int) = 0 := by omega
      have hfin : Hid (Lib.decDigits q ++ (cc :: t) = Lib.decDigits n) := Lib.hid (by
        rw [← hd.out, Lib.decDigits.eq_def m, dif_neg h10, ← hq1, ← hd1, hcc]
        simp)
      have hqm : q < m := by omega
      have hq100 : q < 100 := by omega
      have htl2 : (cc :: t).length ≤ 100 - q := by simp; omega
      replace hcc := Lib.hid hcc
      replace hd1 := Lib.hid hd1
      replace hq1 := Lib.hid hq1
      go_wp2
      refine ⟨⟨q, cc :: t, hq100, htl2, rfl, ?_, hfin, xalloc hb _⟩, by simp [intOf]; omega⟩
      exact congrArg Value.string hsc.out
end Go.Proofs.YtbicfaiabpcgfaaGreatDoor
namespace Go.Proofs.YtbicfaiabpcgfaaGreatDoor
open Go.RowKit

theorem fam_push {n : Nat} (h1 : 1 ≤ n) (h2 : n ≤ 32) : infoN (n + 95) = ⟨[80, 85, 83, 72] ++ digN n, 0, 1, 3, true, n⟩ := by
  unfold infoN famN
  rw [if_pos (by omega)]
  simp
theorem fam_dup {n : Nat} (h1 : 1 ≤ n) (h2 : n ≤ 16) : infoN (n + 127) = ⟨[68, 85, 80] ++ digN n, n, n + 1, 3, true, 0⟩ := by
  unfold infoN famN
  rw [if_neg (by omega), if_pos (by omega)]
  simp
theorem fam_swap {n : Nat} (h1 : 1 ≤ n) (h2 : n ≤ 16) : infoN (n + 143) = ⟨[83, 87, 65, 80] ++ digN n, n + 1, n + 1, 3, true, 0⟩ := by
  unfold infoN famN
  rw [if_neg (by omega), if_neg (by omega), if_pos (by omega)]
  simp
theorem fam_log {n : Nat} (h2 : n ≤ 4) : infoN (n + 160) = ⟨[76, 79, 71] ++ digN n, n + 2, 0, 375 * (n + 1), false, 0⟩ := by
  unfold infoN famN
  rw [if_neg (by omega), if_neg (by omega), if_neg (by omega), if_pos (by omega)]
  simp
theorem fam_none {c : Nat} (h : ¬ (96 ≤ c ∧ c ≤ 164)) : famN c = none := by
  unfold famN
  rw [if_neg (by omega), if_neg (by omega), if_neg (by omega), if_neg (by omega)]
theorem bytes_eq : ((⟨#[]⟩ : ByteArray) == ⟨#[]⟩) = true := by decide
def noV : List Value := [.string ⟨#[]⟩, .int .i64 0, .int .i64 0, .int .u64 0, .bool false, .int .i64 0]
def infL (x : InfoN) : List Value := [.string ⟨x.name.toArray⟩, .int .i64 x.ins, .int .i64 x.outs, .int .u64 x.gas, .bool x.quiet, .int .i64 x.size]
theorem struct_info : ∃ fs, Tryz.prog.underlying 25 = some (.struct fs) := ⟨_, Tryz.underlying25⟩
theorem dig_len (n : Nat) : (digN n).length ≤ 2 := by unfold digN; split <;> simp
theorem wrap64_small (n : Nat) (h : n < 1000) : IntKind.u64.wrap (n : Int) = n := by
  simp [IntKind.wrap, IntKind.bits, IntKind.signed]; omega
set_option maxRecDepth 100000 in
set_option maxHeartbeats 2000000 in
theorem refInfo_push (n : Nat) (w : World) (h1 : 1 ≤ n) (h2 : n ≤ 32) : Calls Tryz.prog 10 #[.int .u8 ((n + 95 : Nat) : Int)] w fun e w' => e = .returned (infoV ⟨[80, 85, 83, 72] ++ digN n, 0, 1, 3, true, n⟩) ∧ Below w.heap.size w w' := by
  have hN := Lib.hid refNumber_any
  have hB0 : BlkG (w.alloc (.cells noV.toArray 25)) w.heap.size 25 noV := BlkG.new w _ _
  have hb0 : Below w.heap.size w (w.alloc (.cells noV.toArray 25)) := xalloc (xrefl w) _
  replace hB0 := Lib.hid hB0
  have hn : Hid (n < 100) := Lib.hid (by omega)
  have hn2 : n ≤ 32 := by omega
  obtain ⟨fs, hu⟩ := struct_info
  have w1 := wrap64_small n (by omega)
  have e0 : ((n + 95 : Nat) : Int) - 95 = n := by omega
  have a1 : (96 : Int) ≤ ((n + 95 : Nat) : Int) := by omega
  have a2 : ((n + 95 : Nat) : Int) ≤ 127 := by omega
  have e2 := Lib.hid (str_add [80, 85, 83, 72] (digN n))
  generalize hz : ((n + 95 : Nat) : Int) = z at *
  replace hz := Lib.hid hz
  have hgl : (digN n).length ≤ 2 := dig_len n
  generalize hg : digN n = g at *
  replace hg := Lib.hid hg
  go_enter Tryz.func10, Tryz.ntmps10
  go_wp2_with (first
    | (go_at_call 26; refine (hN.out n _ hn.out).mono ?_; rintro e w1 ⟨rfl, hb1⟩; rw [hg.out]; have hB1 := Lib.hid (hB0.out.below hb1))
    | (refine wpList_store_blkG rfl 25 _ _ rfl w.heap.size rfl 25 noV (infL ⟨[80, 85, 83, 72] ++ g, 0, 1, 3, true, n⟩) hB1.out (by rw [infL, ← e2.out]; rfl) rfl (by kernel_rfl) rfl ?_; intro w2 hB2 ho2; replace hB2 := Lib.hid hB2; replace ho2 := Lib.hid ho2))
  refine bodyPost_ret (results_blkG rfl _ _ w.heap.size 25 _ _ rfl hB2.out hu rfl (by kernel_rfl)) rfl ⟨rfl, ?_⟩
  exact ho2.out.below (xtrans hb0 hb1) (Nat.le_trans hb0.size hb1.size) (by rintro i rfl; omega)
set_option maxRecDepth 100000 in
set_option maxHeartbeats 2000000 in
theorem refInfo_dup (n : Nat) (w : World) (h1 : 1 ≤ n) (h2 : n ≤ 16) : Calls Tryz.prog 10 #[.int .u8 ((n + 127 : Nat) : Int)] w fun e w' => e = .returned (infoV ⟨[68, 85, 80] ++ digN n, n, n + 1, 3, true, 0⟩) ∧ Below w.heap.size w w' := by
  have hN := Lib.hid refNumber_any
  have hB0 : BlkG (w.alloc (.cells noV.toArray 25)) w.heap.size 25 noV := BlkG.new w _ _
  have hb0 : Below w.heap.size w (w.alloc (.cells noV.toArray 25)) := xalloc (xrefl w) _
  replace hB0 := Lib.hid hB0
  have hn : Hid (n < 100) := Lib.hid (by omega)
  have hn2 : n ≤ 32 := by omega
  obtain ⟨fs, hu⟩ := struct_info
  have w1 := wrap64_small n (by omega)
  have e0 : ((n + 127 : Nat) : Int) - 127 = n := by omega
  have e1 : ((n + 127 : Nat) : Int) - 126 = ((n + 1 : Nat) : Int) := by omega
  have a1 : (128 : Int) ≤ ((n + 127 : Nat) : Int) := by omega
  have a2 : ((n + 127 : Nat) : Int) ≤ 143 := by omega
  have e2 := Lib.hid (str_add [68, 85, 80] (digN n))
  generalize hz : ((n + 127 : Nat) : Int) = z at *
  replace hz := Lib.hid hz
  have hgl : (digN n).length ≤ 2 := dig_len n
  generalize hg : digN n = g at *
  replace hg := Lib.hid hg
  go_enter Tryz.func10, Tryz.ntmps10
  go_wp2_with (first
    | (go_at_call 26; refine (hN.out n _ hn.out).mono ?_; rintro e w1 ⟨rfl, hb1⟩; rw [hg.out]; have hB1 := Lib.hid (hB0.out.below hb1))
    | (refine wpList_store_blkG rfl 25 _ _ rfl w.heap.size rfl 25 noV (infL ⟨[68, 85, 80] ++ g, n, n + 1, 3, true, 0⟩) hB1.out (by rw [infL, ← e2.out]; rfl) rfl (by kernel_rfl) rfl ?_; intro w2 hB2 ho2; replace hB2 := Lib.hid hB2; replace ho2 := Lib.hid ho2))
  refine bodyPost_ret (results_blkG rfl _ _ w.heap.size 25 _ _ rfl hB2.out hu rfl (by kernel_rfl)) rfl ⟨rfl, ?_⟩
  exact ho2.out.below (xtrans hb0 hb1) (Nat.le_trans hb0.size hb1.size) (by rintro i rfl; omega)
set_option maxRecDepth 100000 in
set_option maxHeartbeats 2000000 in
theorem refInfo_swap (n : Nat) (w : World) (h1 : 1 ≤ n) (h2 : n ≤ 16) : Calls Tryz.prog 10 #[.int .u8 ((n + 143 : Nat) : Int)] w fun e w' => e = .returned (infoV ⟨[83, 87, 65, 80] ++ digN n, n + 1, n + 1, 3, true, 0⟩) ∧ Below w.heap.size w w' := by
  have hN := Lib.hid refNumber_any
  have hB0 : BlkG (w.alloc (.cells noV.toArray 25)) w.heap.size 25 noV := BlkG.new w _ _
  have hb0 : Below w.heap.size w (w.alloc (.cells noV.toArray 25)) := xalloc (xrefl w) _
  replace hB0 := Lib.hid hB0
  have hn : Hid (n < 100) := Lib.hid (by omega)
  have hn2 : n ≤ 32 := by omega
  obtain ⟨fs, hu⟩ := struct_info
  have w1 := wrap64_small n (by omega)
  have e0 : ((n + 143 : Nat) : Int) - 143 = n := by omega
  have e1 : ((n + 143 : Nat) : Int) - 142 = ((n + 1 : Nat) : Int) := by omega
  have a1 : (144 : Int) ≤ ((n + 143 : Nat) : Int) := by omega
  have a2 : ((n + 143 : Nat) : Int) ≤ 159 := by omega
  have e2 := Lib.hid (str_add [83, 87, 65, 80] (digN n))
  generalize hz : ((n + 143 : Nat) : Int) = z at *
  replace hz := Lib.hid hz
  have hgl : (digN n).length ≤ 2 := dig_len n
  generalize hg : digN n = g at *
  replace hg := Lib.hid hg
  go_enter Tryz.func10, Tryz.ntmps10
  go_wp2_with (first
    | (go_at_call 26; refine (hN.out n _ hn.out).mono ?_; rintro e w1 ⟨rfl, hb1⟩; rw [hg.out]; have hB1 := Lib.hid (hB0.out.below hb1))
    | (refine wpList_store_blkG rfl 25 _ _ rfl w.heap.size rfl 25 noV (infL ⟨[83, 87, 65, 80] ++ g, n + 1, n + 1, 3, true, 0⟩) hB1.out (by rw [infL, ← e2.out]; rfl) rfl (by kernel_rfl) rfl ?_; intro w2 hB2 ho2; replace hB2 := Lib.hid hB2; replace ho2 := Lib.hid ho2))
  refine bodyPost_ret (results_blkG rfl _ _ w.heap.size 25 _ _ rfl hB2.out hu rfl (by kernel_rfl)) rfl ⟨rfl, ?_⟩
  exact ho2.out.below (xtrans hb0 hb1) (Nat.le_trans hb0.size hb1.size) (by rintro i rfl; omega)
set_option maxRecDepth 100000 in
set_option maxHeartbeats 2000000 in
theorem refInfo_log (n : Nat) (w : World) (h2 : n ≤ 4) : Calls Tryz.prog 10 #[.int .u8 ((n + 160 : Nat) : Int)] w fun e w' => e = .returned (infoV ⟨[76, 79, 71] ++ digN n, n + 2, 0, 375 * (n + 1), false, 0⟩) ∧ Below w.heap.size w w' := by
  have hN := Lib.hid refNumber_any
  have hB0 : BlkG (w.alloc (.cells noV.toArray 25)) w.heap.size 25 noV := BlkG.new w _ _
  have hb0 : Below w.heap.size w (w.alloc (.cells noV.toArray 25)) := xalloc (xrefl w) _
  replace hB0 := Lib.hid hB0
  have hn : Hid (n < 100) := Lib.hid (by omega)
  have hn2 : n ≤ 32 := by omega
  obtain ⟨fs, hu⟩ := struct_info
  have w1 := wrap64_small n (by omega)
  have w2 := wrap64_small (n + 1) (by omega)
  have w3 : IntKind.u64.wrap (375 * ((n + 1 : Nat) : Int)) = ((375 * (n + 1) : Nat) : Int) := by simp [IntKind.wrap, IntKind.bits, IntKind.signed]; omega
  have e0 : ((n + 160 : Nat) : Int) - 160 = n := by omega
  have e1 : ((n + 160 : Nat) : Int) - 158 = ((n + 2 : Nat) : Int) := by omega
  have e3 : ((n + 160 : Nat) : Int) - 159 = ((n + 1 : Nat) : Int) := by omega
  have a1 : (160 : Int) ≤ ((n + 160 : Nat) : Int) := by omega
  have a2 : ((n + 160 : Nat) : Int) ≤ 164 := by omega
  have e2 := Lib.hid (str_add [76, 79, 71] (digN n))
  generalize hz : ((n + 160 : Nat) : Int) = z at *
  replace hz := Lib.hid hz
  have hgl : (digN n).length ≤ 2 := dig_len n
  generalize hg : digN n = g at *
  replace hg := Lib.hid hg
  go_enter Tryz.func10, Tryz.ntmps10
  go_wp2_with (first
    | (go_at_call 26; refine (hN.out n _ hn.out).mono ?_; rintro e w1 ⟨rfl, hb1⟩; rw [hg.out]; have hB1 := Lib.hid (hB0.out.below hb1))
    | (refine wpList_store_blkG rfl 25 _ _ rfl w.heap.size rfl 25 noV (infL ⟨[76, 79, 71] ++ g, n + 2, 0, 375 * (n + 1), false, 0⟩) hB1.out (by rw [infL, ← e2.out]; rfl) rfl (by kernel_rfl) rfl ?_; intro w2 hB2 ho2; replace hB2 := Lib.hid hB2; replace ho2 := Lib.hid ho2))
  refine bodyPost_ret (results_blkG rfl _ _ w.heap.size 25 _ _ rfl hB2.out hu rfl (by kernel_rfl)) rfl ⟨rfl, ?_⟩
  exact ho2.out.below (xtrans hb0 hb1) (Nat.le_trans hb0.size hb1.size) (by rintro i rfl; omega)
end Go.Proofs.YtbicfaiabpcgfaaGreatDoor
