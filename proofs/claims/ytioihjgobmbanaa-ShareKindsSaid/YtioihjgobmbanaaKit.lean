/- General lemmas used by the walks: maps with integer keys that a call makes itself. -/
import Derived.Test.YtioihjgobmbanaaRows
import Derived.WalkKit
import Derived.WalkSpells
import Derived.WalkLawsBesides
import Derived.Deep.QuietTactic
import Derived.BigQuiet
import Derived.Lib.Hide
import Derived.Deep.RegionHeld3
import Derived.Laws.EntriesVeiled
import Derived.Deep.RegionWith
import Derived.Deep.DeepFit
namespace Go.Proofs.Ytioihjgobmbanaa
open Go.RowKit

/-- The entries of a map with integer keys that was filled in the order of the list. -/
def entI (q : IntKind) : Nat → List (Int × Value) → List MapEntry
  | _, [] => []
  | i, x :: l => { key := .int q x.1, val := x.2, born := i } :: entI q (i + 1) l
def mapI (q : IntKind) (l : List (Int × Value)) : Obj := .map (entI q 0 l).toArray l.length
def findI (n : Int) : List (Int × Value) → Option Value
  | [] => none
  | x :: l => if n = x.1 then some x.2 else findI n l
@[go_sem] theorem findI_nil (n : Int) : findI n [] = none := Eq.trans rfl rfl
@[go_sem] theorem findI_cons (n m : Int) (v : Value) (l : List (Int × Value)) : findI n ((m, v) :: l) = if n = m then some v else findI n l := Eq.trans rfl rfl

theorem findNow_ent (q : IntKind) (n : Int) : ∀ (l : List (Int × Value)) (i j : Nat), ∃ r, Instr.findNow (.int q) (.int q n) (entI q i l) j = some r ∧ r.map (·.2) = findI n l ∧ (findI n l = none → r = none)
  | [], i, j => ⟨none, rfl, rfl, fun _ => rfl⟩
  | (m, v) :: l, i, j => by
    obtain ⟨r, h1, h2, h3⟩ := findNow_ent q n l (i + 1) (j + 1)
    by_cases h : n = m
    · subst h
      exact ⟨some (j, v), by simp [entI, Instr.findNow, Instr.sameNow], by simp [findI], by simp [findI]⟩
    · have hb : (n == m) = false := by simpa using h
      refine ⟨r, by simp [entI, Instr.findNow, Instr.sameNow, hb, h1], by simp [findI, h, h2], by simpa [findI, h] using h3⟩

theorem entI_append (q : IntKind) : ∀ (l l' : List (Int × Value)) (i : Nat), entI q i (l ++ l') = entI q i l ++ entI q (i + l.length) l'
  | [], l', i => by simp [entI]
  | x :: l, l', i => by simp only [List.cons_append, entI, entI_append q l l' (i + 1), List.length_cons]; rw [show i + 1 + l.length = i + (l.length + 1) by omega]

theorem checkKey_int' {P : Program} {k : TypeId} {q : IntKind} (hk : P.underlying k = some (.int q)) (b : Bool) (n : Int) (m : Nat) (w : World) : (Instr.checkKey b (m + 1) k (.int q n)).run P w = .ok () w := by
  simp [Instr.checkKey, run_underlying hk, Sem.run_bind]
theorem checkKey_int {P : Program} {k : TypeId} {q : IntKind} (hk : P.underlying k = some (.int q)) (b : Bool) (n : Int) (w : World) : (Instr.checkKey b 10000 k (.int q n)).run P w = .ok () w := by
  exact checkKey_int' hk b n 9999 w

theorem findKey_int {P : Program} {k : TypeId} {q : IntKind} (hk : P.underlying k = some (.int q)) (n : Int) (l : List (Int × Value)) (w : World) :
    ∃ r, (Instr.findKey k (.int q n) (entI q 0 l)).run P w = .ok r w ∧ r.map (·.2) = findI n l ∧ (findI n l = none → r = none) := by
  obtain ⟨r, h1, h2, h3⟩ := findNow_ent q n l 0 0
  exact ⟨r, by simp [Instr.findKey, run_underlying hk, Sem.run_bind, h1], h2, h3⟩

theorem run_makeMapI {P : Program} (q : IntKind) (t : TypeId) (w : World) : (Instr.makeMap t none).run P w = .ok (.map (some w.heap.size)) (w.alloc (mapI q [])) := rfl

theorem run_insertI {P : Program} {t k e : TypeId} {q : IntKind} (ht : P.underlying t = some (.map k e)) (hk : P.underlying k = some (.int q)) (n : Int) (v : Value) (w : World) (l : List (Int × Value))
    (hn : findI n l = none) :
    (Instr.mapUpdate t (.map (some w.heap.size)) (.int q n) v).run P (w.alloc (mapI q l)) = .ok () (w.alloc (mapI q (l ++ [(n, v)]))) := by
  obtain ⟨r, h1, h2, h3⟩ := findKey_int hk n l (w.alloc (mapI q l))
  have hr := h3 hn; subst hr
  have hg : (w.alloc (mapI q l)).heap[w.heap.size]? = some (.map (entI q 0 l).toArray l.length) := by show (w.heap.push _)[_]? = _; simp [mapI]
  simp only [Instr.mapUpdate, run_underlying ht, Sem.run_bind, Result.andThen_ok, getObj, setObj, Sem.run, hg, checkKey_int hk, h1]
  show Result.ok () { w with heap := (w.heap.push (mapI q l)).setIfInBounds w.heap.size _ } = Result.ok () { w with heap := w.heap.push (mapI q (l ++ [(n, v)])) }
  congr 2
  apply Array.ext_getElem?
  intro i
  simp [Array.getElem?_setIfInBounds, Array.getElem?_push, mapI, entI_append, entI]
  by_cases h : i = w.heap.size
  · subst h; simp
  · simp [h, Ne.symm h]

theorem run_lookI {P : Program} {t k e : TypeId} {q : IntKind} (ht : P.underlying t = some (.map k e)) (hk : P.underlying k = some (.int q)) {z : Value} (hz : ∀ w, (zeroValue e).run P w = .ok z w)
    (n : Int) (w : World) (b : Nat) (l : List (Int × Value)) (c : Bool) (hb : w.heap[b]? = some (mapI q l)) :
    (Instr.lookup t (.map (some b)) (.int q n) c).run P w = .ok (if c then .tuple #[(findI n l).getD z, .bool (findI n l).isSome] else (findI n l).getD z) w := by
  obtain ⟨r, h1, h2, h3⟩ := findKey_int hk n l w
  unfold mapI at hb
  simp only [Instr.lookup, run_underlying ht, Sem.run_bind, Result.andThen_ok, getObj, Sem.run, hb]
  simp [checkKey_int hk, h1]
  cases r with
  | none => simp at h2; simp [← h2, hz]
  | some x => simp at h2; simp [← h2]


theorem run_lookI_new {P : Program} {t k e : TypeId} {q : IntKind} (ht : P.underlying t = some (.map k e)) (hk : P.underlying k = some (.int q)) {z : Value} (hz : ∀ w, (zeroValue e).run P w = .ok z w)
    (n : Int) (w : World) (l : List (Int × Value)) (c : Bool) :
    (Instr.lookup t (.map (some w.heap.size)) (.int q n) c).run P (w.alloc (mapI q l)) = .ok (if c then .tuple #[(findI n l).getD z, .bool (findI n l).isSome] else (findI n l).getD z) (w.alloc (mapI q l)) :=
  run_lookI ht hk hz n (w.alloc (mapI q l)) w.heap.size l c (by show (w.heap.push _)[_]? = _; simp)

/-! The same behind further new blocks. -/
def allocs (w : World) : List Obj → World
  | [] => w
  | o :: l => allocs (w.alloc o) l
theorem heap_alloc (w : World) (o : Obj) : (w.alloc o).heap = w.heap.push o := Eq.trans rfl rfl
theorem allocs_heap : ∀ (l : List Obj) (w : World), (allocs w l).heap = w.heap ++ l.toArray
  | [], w => by simp [allocs]
  | o :: l, w => by rw [allocs, allocs_heap l, heap_alloc]; simp
theorem allocs_at (w : World) (m : Obj) (l : List Obj) : (allocs (w.alloc m) l).heap[w.heap.size]? = some m := by
  rw [allocs_heap, heap_alloc]; simp
theorem allocs_put (w : World) (m m' : Obj) (l : List Obj) : { allocs (w.alloc m) l with heap := (allocs (w.alloc m) l).heap.setIfInBounds w.heap.size m' } = allocs (w.alloc m') l := by
  have h : ∀ (l : List Obj) (w : World), (allocs w l).tape = w.tape ∧ (allocs w l).drawn = w.drawn ∧ (allocs w l).os = w.os ∧ (allocs w l).output = w.output := by
    intro l
    induction l with
    | nil => intro w; exact ⟨rfl, rfl, rfl, rfl⟩
    | cons o l ih => intro w; exact ih (w.alloc o)
  have e : ∀ a b : World, a.heap = b.heap → a.tape = b.tape → a.drawn = b.drawn → a.os = b.os → a.output = b.output → a = b := by
    intro a b; cases a; cases b; simp; intros; subst_vars; exact ⟨rfl, rfl, rfl, rfl, rfl⟩
  apply e
  · show (allocs (w.alloc m) l).heap.setIfInBounds w.heap.size m' = _
    rw [allocs_heap, allocs_heap, heap_alloc, heap_alloc]
    apply Array.ext_getElem?
    intro i
    by_cases hi : w.heap.size = i
    · subst hi; simp [Array.getElem?_setIfInBounds]
    · rw [Array.getElem?_setIfInBounds_ne hi]
      by_cases hlt : i < w.heap.size
      · simp [hlt, Array.getElem?_append, Array.getElem?_push, Nat.lt_succ_of_lt hlt, Ne.symm hi]
      · obtain ⟨j, hj⟩ : ∃ j, i - w.heap.size = j + 1 := ⟨i - w.heap.size - 1, by omega⟩
        simp [Array.getElem?_append, hlt, hj]
  · exact (h l (w.alloc m)).1.trans (h l (w.alloc m')).1.symm
  · exact (h l (w.alloc m)).2.1.trans (h l (w.alloc m')).2.1.symm
  · exact (h l (w.alloc m)).2.2.1.trans (h l (w.alloc m')).2.2.1.symm
  · exact (h l (w.alloc m)).2.2.2.trans (h l (w.alloc m')).2.2.2.symm

theorem run_insertI_allocs {P : Program} {t k e : TypeId} {q : IntKind} (ht : P.underlying t = some (.map k e)) (hk : P.underlying k = some (.int q)) (n : Int) (v : Value) (w : World) (l : List (Int × Value)) (os : List Obj)
    (hn : findI n l = none) :
    (Instr.mapUpdate t (.map (some w.heap.size)) (.int q n) v).run P (allocs (w.alloc (mapI q l)) os) = .ok () (allocs (w.alloc (mapI q (l ++ [(n, v)]))) os) := by
  obtain ⟨r, h1, h2, h3⟩ := findKey_int hk n l (allocs (w.alloc (mapI q l)) os)
  have hr := h3 hn; subst hr
  have hg : (allocs (w.alloc (mapI q l)) os).heap[w.heap.size]? = some (.map (entI q 0 l).toArray l.length) := allocs_at _ _ _
  simp only [Instr.mapUpdate, run_underlying ht, Sem.run_bind, Result.andThen_ok, getObj, setObj, Sem.run, hg, checkKey_int hk, h1]
  rw [allocs_put]
  congr 3
  simp [mapI, entI_append, entI]

theorem run_lookI_allocs {P : Program} {t k e : TypeId} {q : IntKind} (ht : P.underlying t = some (.map k e)) (hk : P.underlying k = some (.int q)) {z : Value} (hz : ∀ w, (zeroValue e).run P w = .ok z w)
    (n : Int) (w : World) (l : List (Int × Value)) (os : List Obj) (c : Bool) :
    (Instr.lookup t (.map (some w.heap.size)) (.int q n) c).run P (allocs (w.alloc (mapI q l)) os) = .ok (if c then .tuple #[(findI n l).getD z, .bool (findI n l).isSome] else (findI n l).getD z) (allocs (w.alloc (mapI q l)) os) :=
  run_lookI ht hk hz n _ w.heap.size l c (allocs_at _ _ _)

/-! A scope whose goto leads forward: at the jump the walk goes on behind the label. -/
def fwd (P : Program) (l : Nat) (rest : Code) (Q : Exit → Act → World → Prop) : Exit → Act → World → Prop
  | .goto l', a, w => l' = l ∧ rest.wp P (Exit.noGoto Q) a w
  | e, a, w => Q e a w
theorem wp_scope_fwd {P : Program} {c rest : Code} {Q : Exit → Act → World → Prop} {a : Act} {w : World} (l : Nat) (hf : findLabel c l = some rest) (h : c.wp P (fwd P l rest Q) a w) : (Code.scope c).wp P Q a w := by
  refine wp_scope_jumps l (fun a w => rest.wp P (Exit.noGoto Q) a w) (fun _ _ => 0) hf ?_ ?_
  · exact Code.wp_mono (fun e a w q => by cases e <;> exact q) h
  · intro a w h
    exact Code.wp_mono (fun e a w q => by cases e <;> first | exact q | exact q.elim) h
section
variable {P : Program} {l : Nat} {rest : Code} {Q : Exit → Act → World → Prop} {a : Act} {w : World}
@[go_sem] theorem fwd_normal : fwd P l rest Q .normal a w = Q .normal a w := rfl
@[go_sem] theorem fwd_exit (id : Nat) : fwd P l rest Q (.exit id) a w = Q (.exit id) a w := rfl
@[go_sem] theorem fwd_ret : fwd P l rest Q .ret a w = Q .ret a w := rfl
@[go_sem] theorem fwd_panic (ch : List PanicEntry) : fwd P l rest Q (.panic ch) a w = Q (.panic ch) a w := rfl
theorem fwd_goto (l' : Nat) : fwd P l rest Q (.goto l') a w = (l' = l ∧ rest.wp P (Exit.noGoto Q) a w) := rfl
end

/-! 'Below w.heap.size w w'', step by step. -/
theorem xrefl (w : World) : Below w.heap.size w w := Below.refl _ _
theorem xalloc {a w : World} (h : Below a.heap.size a w) (o : Obj) : Below a.heap.size a (w.alloc o) := h.alloc h.size o
theorem xdrew {a w : World} (h : Below a.heap.size a w) : Below a.heap.size a w.drew := h.drew
theorem xdrewN {a w : World} (h : Below a.heap.size a w) (n : Nat) : Below a.heap.size a (w.drewN n) := ⟨h.os, h.tape, h.output, h.size, h.block⟩
theorem xset {a w : World} (h : Below a.heap.size a w) {p : Addr} (hp : a.heap.size ≤ p.block) (u : Value) : Below a.heap.size a (w.setCell p u) := h.setCell hp u
theorem xtrans {a b c : World} (h : Below a.heap.size a b) (k : Below b.heap.size b c) : Below a.heap.size a c := h.trans (k.mono h.size)

/-! Cells and marks that stay. -/
theorem cell_lt {w : World} {a : Addr} {v : Value} (h : w.cell? a = some v) : a.block < w.heap.size := World.block_lt_of_cell? w a h
theorem ca {w : World} {a : Addr} {v : Value} (o : Obj) (h : w.cell? a = some v) : (w.alloc o).cell? a = some v := (World.cell?_alloc_lt w o a (cell_lt h)).trans h
theorem fa {w : World} {a : Addr} {v : Value} {b : Bool} (o : Obj) (h : w.cell? a = some v) (hf : w.frozen? a = b) : (w.alloc o).frozen? a = b := (World.frozen?_alloc_old w o a (Nat.ne_of_lt (cell_lt h))).trans hf
theorem csame {w : World} {a : Addr} {u : Value} (v : Value) (h : w.cell? a = some u) : (w.setCell a v).cell? a = some v := World.cell?_setCell_same w a v h
theorem cne {w : World} {a b : Addr} {u : Value} (v : Value) (hn : a ≠ b) (h : w.cell? b = some u) : (w.setCell a v).cell? b = some u := (World.cell?_setCell_other w a b v hn).trans h
theorem fset {w : World} {a b : Addr} {c : Bool} (v : Value) (h : w.frozen? b = c) : (w.setCell a v).frozen? b = c := (World.frozen?_setCell w a b v).trans h
theorem bcell {W w1 : World} (hb : Below W.heap.size W w1) : (∀ b o, b < W.heap.size → w1.cell? ⟨b, o, none⟩ = W.cell? ⟨b, o, none⟩) ∧ (∀ b o, b < W.heap.size → w1.frozen? ⟨b, o, none⟩ = W.frozen? ⟨b, o, none⟩) :=
  ⟨fun b o h => hb.cell (p := ⟨b, o, none⟩) h, fun b o h => hb.frozen (p := ⟨b, o, none⟩) h⟩
theorem cbel {w w' : World} {a : Addr} {v : Value} (hb : Below w.heap.size w w') (h : w.cell? a = some v) : w'.cell? a = some v := (hb.cell (cell_lt h)).trans h
theorem fbel {w w' : World} {a : Addr} {v : Value} {b : Bool} (hb : Below w.heap.size w w') (h : w.cell? a = some v) (hf : w.frozen? a = b) : w'.frozen? a = b := (hb.frozen (cell_lt h)).trans hf

end Go.Proofs.Ytioihjgobmbanaa
