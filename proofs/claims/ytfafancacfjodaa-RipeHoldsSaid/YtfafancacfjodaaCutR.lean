/- Slices of slices; bytes that come in. -/
import Derived.Test.YtfafancacfjodaaRowNew
import Derived.Test.YtfafancacfjodaaGrowV
import Derived.Test.YtfafancacfjodaaOpen
import Derived.Test.YtfafancacfjodaaCat
import Derived.Test.YtfafancacfjodaaWord
import Derived.Test.YtfafancacfjodaaRowW
namespace Go.Proofs.Ytfafancacfjodaa
open Go.ChangeShapes Go.WideShapes Go.ChangeAt Go.RowKit

theorem run_sliceBound {P : Program} (n m : Nat) (k : BoundsCode) (w : World) (h : n ≤ m) : (Instr.sliceBound (.int .i64 n) m k).run P w = .ok n w := by
  have h1 : (n : Int) ≤ (m : Int) := by omega
  have h0 : (0 : Int) ≤ (n : Int) := by omega
  simp [Instr.sliceBound, asIntOf, Sem.run_bind, h]
/-- Where 's[k:]' lies. -/
def sl2 (a : Option Addr) (k c : Nat) : Option Addr := if c = k then a else a.map (·.add k)
theorem run_slice_hi {P : Program} (T e : TypeId) (a : Option Addr) (n c k : Nat) (w : World) (hT : P.underlying T = some (.slice e)) (hs : (P.info? e).map (·.size) = some 1) (hk : k ≤ n) (hc : n ≤ c) :
    (Instr.slice T (.slice a n c) none (some (.int .i64 k)) none).run P w = .ok (.slice a k c) w := by
  obtain ⟨i, hi, hs1⟩ := Option.map_eq_some_iff.1 hs
  simp only [Instr.slice, Instr.sliceBounds, Sem.run_bind, run_underlying hT, Result.andThen_ok, run_sliceBound k c _ w (by omega), Sem.run_pure]
  simp [sizeOf, typeInfo, hi, hs1, Sem.run_bind]
  intro _
  cases a with
  | none => rfl
  | some a => simp [Addr.add]
theorem run_slice_lo {P : Program} (T e : TypeId) (a : Option Addr) (n c k : Nat) (w : World) (hT : P.underlying T = some (.slice e)) (hs : (P.info? e).map (·.size) = some 1) (hk : k ≤ n) (hc : n ≤ c) :
    (Instr.slice T (.slice a n c) (some (.int .i64 k)) none none).run P w = .ok (.slice (sl2 a k c) (n - k) (c - k)) w := by
  obtain ⟨i, hi, hs1⟩ := Option.map_eq_some_iff.1 hs
  simp only [Instr.slice, Instr.sliceBounds, Sem.run_bind, run_underlying hT, Result.andThen_ok, Option.isSome_none, Bool.false_eq_true, if_false, if_true, run_sliceBound k n _ w hk, Sem.run_pure]
  simp [sizeOf, typeInfo, hi, hs1, Sem.run_bind, sl2]
theorem rowAt_take {q : IntKind} {w : World} {a : Option Addr} {zs : List Int} (h : RowAt q w a zs) (k : Nat) : RowAt q w a (zs.take k) := fun i hi => by
  obtain ⟨b, o, h1, h2⟩ := h i (by rw [List.length_take] at hi; omega)
  exact ⟨b, o, h1, by rw [List.getElem_take]; exact h2⟩
theorem rowAt_drop {q : IntKind} {w : World} {a : Option Addr} {zs : List Int} (h : RowAt q w a zs) (k c : Nat) (hc : zs.length ≤ c) : RowAt q w (sl2 a k c) (zs.drop k) := fun i hi => by
  rw [List.length_drop] at hi
  obtain ⟨b, o, h1, h2⟩ := h (k + i) (by omega)
  refine ⟨b, o + k, ?_, ?_⟩
  · unfold sl2
    rw [if_neg (by omega), h1]
    simp [Addr.add]
  · rw [List.getElem_drop, Nat.add_assoc]; exact h2
theorem sl2_none {a : Option Addr} {k c : Nat} (h : a = none → c = 0) : sl2 a k c = none → c - k = 0 := fun e => by
  unfold sl2 at e
  split at e
  · omega
  · have : a = none := by simpa using e
    have := h this; omega

/-- Bytes as they come in. -/
theorem bytes_of (zs : List Int) (h : ∀ z ∈ zs, (Lit.int .u8 z).wf = true) : ∃ bs : List (BitVec 8), zs = bs.map iv8 := by
  refine ⟨zs.map fun z => BitVec.ofNat 8 z.toNat, ?_⟩
  rw [List.map_map]
  refine (List.map_id zs).symm.trans (List.map_congr_left fun z hz => ?_)
  have := h z hz
  simp [Lit.wf, IntKind.min, IntKind.max, IntKind.signed, IntKind.bits] at this
  simp only [Function.comp, iv8, BitVec.toNat_ofNat, id]
  omega
section
variable {H : Type} {enc : TypeId × Value → H} {P : Program} {w : World} {base : Nat} {spare : Nat → Bool} {held : Bool} {t e : TypeId} {fuel : Nat} {x : DataW H × List MemPlace}
/-- A slice of integers, with what its capacity may be. -/
theorem trod_row2 {q : IntKind} {v : Value} (ht : P.underlying t = some (.slice e)) (he : P.underlying e = some (.int q)) (hc : P.cellsOf e = 1) (h : DataW.trod enc P w base spare held fuel t [v] = some x) :
    ∃ a c zs, v = .slice a zs.length c ∧ RowAt q w a zs ∧ (a = none → c = 0) ∧ (zs.length ≤ c ∧ c ≤ 9223372036854775807) ∧ ∀ z ∈ zs, (Lit.int q z).wf = true := by
  obtain ⟨a, c, zs, h1, h2, h3, h4, h5⟩ := trod_row ht he hc h
  refine ⟨a, c, zs, h1, h2, h3, ?_, h5⟩
  rcases open_ints ht he hc h with ⟨hcs, _⟩ | ⟨a', len, cap, zs', hcs, _, hl, hm, _⟩
  · simp only [List.cons.injEq, and_true] at hcs
    rw [h1] at hcs
    injection hcs with e1 e2 e3
    omega
  · simp only [List.cons.injEq, and_true] at hcs
    rw [h1] at hcs
    injection hcs with e1 e2 e3
    unfold maxLen at hm
    omega
end

/-- A new slice of slices. -/
def argsT (ss : List (Option Addr × Nat × List Int)) : Told :=
  ⟨fun v => ∃ b : Nat, v = .slice (some ⟨b, 0, none⟩) ss.length ss.length, fun v W => ∀ b : Nat, v = .slice (some ⟨b, 0, none⟩) ss.length ss.length → RowsAt W b 0 ss, ⟨_, 0, rfl⟩, fun v W W' h hb b e => (h b e).below hb⟩
theorem rowsAt_new (w : World) (T : TypeId) (ss : List (Option Addr × Nat × List Int)) (h : ∀ s ∈ ss, RowAt .u8 w s.1 s.2.2 ∧ (s.1 = none → s.2.1 = 0)) :
    RowsAt (w.alloc (.cells (ss.map fun s => Value.slice s.1 s.2.2.length s.2.1).toArray T)) w.heap.size 0 ss := fun i hi => by
  have hs := h ss[i] (List.getElem_mem hi)
  refine ⟨?_, hs.1.below (xalloc (xrefl w) _), hs.2⟩
  rw [cell_of_row _ w.heap.size (0 + i) _ T (0, 0) (World.alloc_heap_new w _)]
  simp [hi]
end Go.Proofs.Ytfafancacfjodaa
