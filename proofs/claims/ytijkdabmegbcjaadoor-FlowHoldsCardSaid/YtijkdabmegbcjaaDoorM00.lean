/- General lemmas used by the walks: maps with integer keys that a call makes itself. Slices of integers that are read, append onto a slice of the call's own. Plain facts on numbers of 256 bits as four limbs and as bytes. -/
import Derived.Test.YtijkdabmegbcjaaDoorRows
import Derived.WalkKit
import Derived.WalkSpells
import Derived.WalkLawsBesides
import Derived.Deep.QuietTactic
import Derived.BigQuiet
import Derived.Lib.Hide
import Derived.Deep.RegionHeld3
import Derived.Laws.EntriesVeiled
import Derived.Deep.RegionWith
import Derived.Deep.DeepFit
import Derived.Lib.AppendZerosOnto
import Derived.Lib.AppendZeros
set_option linter.all false
namespace Go.Proofs.YtijkdabmegbcjaaDoor
open Go.RowKit

/-- The entries of a map with integer keys that was filled in the order of the list. -/
def entI (q : IntKind) : Nat → List (Int × Value) → List MapEntry
  | _, [] => []
  | i, x :: l => { key := .int q x.1, val := x.2, born := i } :: entI q (i + 1) l
def mapI (q : IntKind) (l : List (Int × Value)) : Obj := .map (entI q 0 l).toArray l.length
def findI (n : Int) : List (Int × Value) → Option Value
  | [] => none
  | x :: l => if n = x.1 then some x.2 else findI n l
@[go_sem] theorem findI_nil (n : Int) : findI n [] = none := Eq.trans rfl rfl
@[go_sem] theorem findI_cons (n m : Int) (v : Value) (l : List (Int × Value)) : findI n ((m, v) :: l) = if n = m then some v else findI n l := Eq.trans rfl rfl

theorem findNow_ent (q : IntKind) (n : Int) : ∀ (l : List (Int × Value)) (i j : Nat), ∃ r, Instr.findNow (.int q) (.int q n) (entI q i l) j = some r ∧ r.map (·.2) = findI n l ∧ (findI n l = none → r = none)
  | [], i, j => ⟨none, rfl, rfl, fun _ => rfl⟩
  | (m, v) :: l, i, j => by
    obtain ⟨r, h1, h2, h3⟩ := findNow_ent q n l (i + 1) (j + 1)
    by_cases h : n = m
    · subst h
      exact ⟨some (j, v), by simp [entI, Instr.findNow, Instr.sameNow], by simp [findI], by simp [findI]⟩
    · have hb : (n == m) = false := by simpa using h
      refine ⟨r, by simp [entI, Instr.findNow, Instr.sameNow, hb, h1], by simp [findI, h, h2], by simpa [findI, h] using h3⟩

theorem entI_append (q : IntKind) : ∀ (l l' : List (Int × Value)) (i : Nat), entI q i (l ++ l') = entI q i l ++ entI q (i + l.length) l'
  | [], l', i => by simp [entI]
  | x :: l, l', i => by simp only [List.cons_append, entI, entI_append q l l' (i + 1), List.length_cons]; rw [show i + 1 + l.length = i + (l.length + 1) by omega]

theorem checkKey_int' {P : Program} {k : TypeId} {q : IntKind} (hk : P.underlying k = some (.int q)) (b : Bool) (n : Int) (m : Nat) (w : World) : (Instr.checkKey b (m + 1) k (.int q n)).run P w = .ok () w := by
  simp [Instr.checkKey, run_underlying hk, Sem.run_bind]
theorem checkKey_int {P : Program} {k : TypeId} {q : IntKind} (hk : P.underlying k = some (.int q)) (b : Bool) (n : Int) (w : World) : (Instr.checkKey b 10000 k (.int q n)).run P w = .ok () w := by
  exact checkKey_int' hk b n 9999 w

theorem findKey_int {P : Program} {k : TypeId} {q : IntKind} (hk : P.underlying k = some (.int q)) (n : Int) (l : List (Int × Value)) (w : World) :
    ∃ r, (Instr.findKey k (.int q n) (entI q 0 l)).run P w = .ok r w ∧ r.map (·.2) = findI n l ∧ (findI n l = none → r = none) := by
  obtain ⟨r, h1, h2, h3⟩ := findNow_ent q n l 0 0
  exact ⟨r, by simp [Instr.findKey, run_underlying hk, Sem.run_bind, h1], h2, h3⟩

theorem run_makeMapI {P : Program} (q : IntKind) (t : TypeId) (w : World) : (Instr.makeMap t none).run P w = .ok (.map (some w.heap.size)) (w.alloc (mapI q [])) := rfl

theorem run_insertI {P : Program} {t k e : TypeId} {q : IntKind} (ht : P.underlying t = some (.map k e)) (hk : P.underlying k = some (.int q)) (n : Int) (v : Value) (w : World) (l : List (Int × Value))
    (hn : findI n l = none) :
    (Instr.mapUpdate t (.map (some w.heap.size)) (.int q n) v).run P (w.alloc (mapI q l)) = .ok () (w.alloc (mapI q (l ++ [(n, v)]))) := by
  obtain ⟨r, h1, h2, h3⟩ := findKey_int hk n l (w.alloc (mapI q l))
  have hr := h3 hn; subst hr
  have hg : (w.alloc (mapI q l)).heap[w.heap.size]? = some (.map (entI q 0 l).toArray l.length) := by show (w.heap.push _)[_]? = _; simp [mapI]
  simp only [Instr.mapUpdate, run_underlying ht, Sem.run_bind, Result.andThen_ok, getObj, setObj, Sem.run, hg, checkKey_int hk, h1]
  show Result.ok () { w with heap := (w.heap.push (mapI q l)).setIfInBounds w.heap.size _ } = Result.ok () { w with heap := w.heap.push (mapI q (l ++ [(n, v)])) }
  congr 2
  apply Array.ext_getElem?
  intro i
  simp [Array.getElem?_setIfInBounds, Array.getElem?_push, mapI, entI_append, entI]
  by_cases h : i = w.heap.size
  · subst h; simp
  · simp [h, Ne.symm h]

theorem run_lookI {P : Program} {t k e : TypeId} {q : IntKind} (ht : P.underlying t = some (.map k e)) (hk : P.underlying k = some (.int q)) {z : Value} (hz : ∀ w, (zeroValue e).run P w = .ok z w)
    (n : Int) (w : World) (b : Nat) (l : List (Int × Value)) (c : Bool) (hb : w.heap[b]? = some (mapI q l)) :
    (Instr.lookup t (.map (some b)) (.int q n) c).run P w = .ok (if c then .tuple #[(findI n l).getD z, .bool (findI n l).isSome] else (findI n l).getD z) w := by
  obtain ⟨r, h1, h2, h3⟩ := findKey_int hk n l w
  unfold mapI at hb
  simp only [Instr.lookup, run_underlying ht, Sem.run_bind, Result.andThen_ok, getObj, Sem.run, hb]
  simp [checkKey_int hk, h1]
  cases r with
  | none => simp at h2; simp [← h2, hz]
  | some x => simp at h2; simp [← h2]


theorem run_lookI_new {P : Program} {t k e : TypeId} {q : IntKind} (ht : P.underlying t = some (.map k e)) (hk : P.underlying k = some (.int q)) {z : Value} (hz : ∀ w, (zeroValue e).run P w = .ok z w)
    (n : Int) (w : World) (l : List (Int × Value)) (c : Bool) :
    (Instr.lookup t (.map (some w.heap.size)) (.int q n) c).run P (w.alloc (mapI q l)) = .ok (if c then .tuple #[(findI n l).getD z, .bool (findI n l).isSome] else (findI n l).getD z) (w.alloc (mapI q l)) :=
  run_lookI ht hk hz n (w.alloc (mapI q l)) w.heap.size l c (by show (w.heap.push _)[_]? = _; simp)

/-! The same behind further new blocks. -/
def allocs (w : World) : List Obj → World
  | [] => w
  | o :: l => allocs (w.alloc o) l
theorem heap_alloc (w : World) (o : Obj) : (w.alloc o).heap = w.heap.push o := Eq.trans rfl rfl
theorem allocs_heap : ∀ (l : List Obj) (w : World), (allocs w l).heap = w.heap ++ l.toArray
  | [], w => by simp [allocs]
  | o :: l, w => by rw [allocs, allocs_heap l, heap_alloc]; simp
theorem allocs_at (w : World) (m : Obj) (l : List Obj) : (allocs (w.alloc m) l).heap[w.heap.size]? = some m := by
  rw [allocs_heap, heap_alloc]; simp
theorem allocs_put (w : World) (m m' : Obj) (l : List Obj) : { allocs (w.alloc m) l with heap := (allocs (w.alloc m) l).heap.setIfInBounds w.heap.size m' } = allocs (w.alloc m') l := by
  have h : ∀ (l : List Obj) (w : World), (allocs w l).tape = w.tape ∧ (allocs w l).drawn = w.drawn ∧ (allocs w l).os = w.os ∧ (allocs w l).output = w.output := by
    intro l
    induction l with
    | nil => intro w; exact ⟨rfl, rfl, rfl, rfl⟩
    | cons o l ih => intro w; exact ih (w.alloc o)
  have e : ∀ a b : World, a.heap = b.heap → a.tape = b.tape → a.drawn = b.drawn → a.os = b.os → a.output = b.output → a = b := by
    intro a b; cases a; cases b; simp; intros; subst_vars; exact ⟨rfl, rfl, rfl, rfl, rfl⟩
  apply e
  · show (allocs (w.alloc m) l).heap.setIfInBounds w.heap.size m' = _
    rw [allocs_heap, allocs_heap, heap_alloc, heap_alloc]
    apply Array.ext_getElem?
    intro i
    by_cases hi : w.heap.size = i
    · subst hi; simp [Array.getElem?_setIfInBounds]
    · rw [Array.getElem?_setIfInBounds_ne hi]
      by_cases hlt : i < w.heap.size
      · simp [hlt, Array.getElem?_append, Array.getElem?_push, Nat.lt_succ_of_lt hlt, Ne.symm hi]
      · obtain ⟨j, hj⟩ : ∃ j, i - w.heap.size = j + 1 := ⟨i - w.heap.size - 1, by omega⟩
        simp [Array.getElem?_append, hlt, hj]
  · exact (h l (w.alloc m)).1.trans (h l (w.alloc m')).1.symm
  · exact (h l (w.alloc m)).2.1.trans (h l (w.alloc m')).2.1.symm
  · exact (h l (w.alloc m)).2.2.1.trans (h l (w.alloc m')).2.2.1.symm
  · exact (h l (w.alloc m)).2.2.2.trans (h l (w.alloc m')).2.2.2.symm

theorem run_insertI_allocs {P : Program} {t k e : TypeId} {q : IntKind} (ht : P.underlying t = some (.map k e)) (hk : P.underlying k = some (.int q)) (n : Int) (v : Value) (w : World) (l : List (Int × Value)) (os : List Obj)
    (hn : findI n l = none) :
    (Instr.mapUpdate t (.map (some w.heap.size)) (.int q n) v).run P (allocs (w.alloc (mapI q l)) os) = .ok () (allocs (w.alloc (mapI q (l ++ [(n, v)]))) os) := by
  obtain ⟨r, h1, h2, h3⟩ := findKey_int hk n l (allocs (w.alloc (mapI q l)) os)
  have hr := h3 hn; subst hr
  have hg : (allocs (w.alloc (mapI q l)) os).heap[w.heap.size]? = some (.map (entI q 0 l).toArray l.length) := allocs_at _ _ _
  simp only [Instr.mapUpdate, run_underlying ht, Sem.run_bind, Result.andThen_ok, getObj, setObj, Sem.run, hg, checkKey_int hk, h1]
  rw [allocs_put]
  congr 3
  simp [mapI, entI_append, entI]

theorem run_lookI_allocs {P : Program} {t k e : TypeId} {q : IntKind} (ht : P.underlying t = some (.map k e)) (hk : P.underlying k = some (.int q)) {z : Value} (hz : ∀ w, (zeroValue e).run P w = .ok z w)
    (n : Int) (w : World) (l : List (Int × Value)) (os : List Obj) (c : Bool) :
    (Instr.lookup t (.map (some w.heap.size)) (.int q n) c).run P (allocs (w.alloc (mapI q l)) os) = .ok (if c then .tuple #[(findI n l).getD z, .bool (findI n l).isSome] else (findI n l).getD z) (allocs (w.alloc (mapI q l)) os) :=
  run_lookI ht hk hz n _ w.heap.size l c (allocs_at _ _ _)

/-! A scope whose goto leads forward: at the jump the walk goes on behind the label. -/
def fwd (P : Program) (l : Nat) (rest : Code) (Q : Exit → Act → World → Prop) : Exit → Act → World → Prop
  | .goto l', a, w => l' = l ∧ rest.wp P (Exit.noGoto Q) a w
  | e, a, w => Q e a w
theorem wp_scope_fwd {P : Program} {c rest : Code} {Q : Exit → Act → World → Prop} {a : Act} {w : World} (l : Nat) (hf : findLabel c l = some rest) (h : c.wp P (fwd P l rest Q) a w) : (Code.scope c).wp P Q a w := by
  refine wp_scope_jumps l (fun a w => rest.wp P (Exit.noGoto Q) a w) (fun _ _ => 0) hf ?_ ?_
  · exact Code.wp_mono (fun e a w q => by cases e <;> exact q) h
  · intro a w h
    exact Code.wp_mono (fun e a w q => by cases e <;> first | exact q | exact q.elim) h
section
variable {P : Program} {l : Nat} {rest : Code} {Q : Exit → Act → World → Prop} {a : Act} {w : World}
@[go_sem] theorem fwd_normal : fwd P l rest Q .normal a w = Q .normal a w := rfl
@[go_sem] theorem fwd_exit (id : Nat) : fwd P l rest Q (.exit id) a w = Q (.exit id) a w := rfl
@[go_sem] theorem fwd_ret : fwd P l rest Q .ret a w = Q .ret a w := rfl
@[go_sem] theorem fwd_panic (ch : List PanicEntry) : fwd P l rest Q (.panic ch) a w = Q (.panic ch) a w := rfl
theorem fwd_goto (l' : Nat) : fwd P l rest Q (.goto l') a w = (l' = l ∧ rest.wp P (Exit.noGoto Q) a w) := rfl
end

/-! 'Below w.heap.size w w'', step by step. -/
theorem xrefl (w : World) : Below w.heap.size w w := Below.refl _ _
theorem xalloc {a w : World} (h : Below a.heap.size a w) (o : Obj) : Below a.heap.size a (w.alloc o) := h.alloc h.size o
theorem xdrew {a w : World} (h : Below a.heap.size a w) : Below a.heap.size a w.drew := h.drew
theorem xdrewN {a w : World} (h : Below a.heap.size a w) (n : Nat) : Below a.heap.size a (w.drewN n) := ⟨h.os, h.tape, h.output, h.size, h.block⟩
theorem xset {a w : World} (h : Below a.heap.size a w) {p : Addr} (hp : a.heap.size ≤ p.block) (u : Value) : Below a.heap.size a (w.setCell p u) := h.setCell hp u
theorem xtrans {a b c : World} (h : Below a.heap.size a b) (k : Below b.heap.size b c) : Below a.heap.size a c := h.trans (k.mono h.size)

/-! Cells and marks that stay. -/
theorem cell_lt {w : World} {a : Addr} {v : Value} (h : w.cell? a = some v) : a.block < w.heap.size := World.block_lt_of_cell? w a h
theorem ca {w : World} {a : Addr} {v : Value} (o : Obj) (h : w.cell? a = some v) : (w.alloc o).cell? a = some v := (World.cell?_alloc_lt w o a (cell_lt h)).trans h
theorem fa {w : World} {a : Addr} {v : Value} {b : Bool} (o : Obj) (h : w.cell? a = some v) (hf : w.frozen? a = b) : (w.alloc o).frozen? a = b := (World.frozen?_alloc_old w o a (Nat.ne_of_lt (cell_lt h))).trans hf
theorem csame {w : World} {a : Addr} {u : Value} (v : Value) (h : w.cell? a = some u) : (w.setCell a v).cell? a = some v := World.cell?_setCell_same w a v h
theorem cne {w : World} {a b : Addr} {u : Value} (v : Value) (hn : a ≠ b) (h : w.cell? b = some u) : (w.setCell a v).cell? b = some u := (World.cell?_setCell_other w a b v hn).trans h
theorem fset {w : World} {a b : Addr} {c : Bool} (v : Value) (h : w.frozen? b = c) : (w.setCell a v).frozen? b = c := (World.frozen?_setCell w a b v).trans h
theorem bcell {W w1 : World} (hb : Below W.heap.size W w1) : (∀ b o, b < W.heap.size → w1.cell? ⟨b, o, none⟩ = W.cell? ⟨b, o, none⟩) ∧ (∀ b o, b < W.heap.size → w1.frozen? ⟨b, o, none⟩ = W.frozen? ⟨b, o, none⟩) :=
  ⟨fun b o h => hb.cell (p := ⟨b, o, none⟩) h, fun b o h => hb.frozen (p := ⟨b, o, none⟩) h⟩
theorem cbel {w w' : World} {a : Addr} {v : Value} (hb : Below w.heap.size w w') (h : w.cell? a = some v) : w'.cell? a = some v := (hb.cell (cell_lt h)).trans h
theorem fbel {w w' : World} {a : Addr} {v : Value} {b : Bool} (hb : Below w.heap.size w w') (h : w.cell? a = some v) (hf : w.frozen? a = b) : w'.frozen? a = b := (hb.frozen (cell_lt h)).trans hf

end Go.Proofs.YtijkdabmegbcjaaDoor
namespace Go.Proofs.YtijkdabmegbcjaaDoor
open Go.RowKit

/-- The slice at 'a' holds the integers 'zs'. -/
def RowAt (q : IntKind) (w : World) (a : Option Addr) (zs : List Int) : Prop :=
  ∀ i (h : i < zs.length), ∃ b o, a = some ⟨b, o, none⟩ ∧ w.cell? ⟨b, o + i, none⟩ = some (.int q zs[i])

theorem RowAt.below {q : IntKind} {w w' : World} {a : Option Addr} {zs : List Int} (h : RowAt q w a zs) (hb : Below w.heap.size w w') : RowAt q w' a zs := fun i hi => by
  obtain ⟨b, o, h1, h2⟩ := h i hi
  exact ⟨b, o, h1, cbel hb h2⟩
theorem RowAt.nil {q : IntKind} {w : World} {a : Option Addr} : RowAt q w a [] := fun i hi => absurd hi (by simp)

/-- What an append onto a slice of the call's own gives, nil or not. -/
theorem run_append_row {P : Program} (w : World) (base : Nat) (t ty e : TypeId) (i : TypeInfo) (z : Value) (bytes : Nat) (ht : P.underlying t = some (.slice e)) (hi : P.info? e = some i) (hz : i.zero = some z)
    (hsize : i.size = 1) (hby : i.bytes = bytes) (hzs : z.cells.size = 1) (v : Value) (n : Nat) (xs : List Value) (hown : w.ownsRow base e 1 v n xs)
    (a : Option Addr) (c : Nat) (hn : a = none → c = 0) (q : IntKind) (zs : List Int) (hr : RowAt q w a zs) (h63 : n + zs.length ≤ maxLen) (hbytes : (n + zs.length) * bytes ≤ 140737488355328) (hbase : base ≤ w.heap.size) :
    ∃ v' w', (Builtin.append_ #[t, t] ty #[v, .slice a zs.length c]).run P w = .ok v' w' ∧ w'.ownsRow base e 1 v' (n + zs.length) (xs ++ zs.map (Value.int q)) ∧ w.grownBy w' v.ownBlock := by
  cases a with
  | none =>
    have h0 : zs = [] := by
      cases zs with
      | nil => rfl
      | cons x l => obtain ⟨b, o, h1, _⟩ := hr 0 (by simp); cases h1
    subst h0
    obtain rfl := hn rfl
    exact ⟨v, w, run_append_owned_none w base t ty e i 1 ht hi v n xs hown, by simpa using hown, World.grownBy.refl _ _⟩
  | some x =>
    obtain ⟨v', w', h1, h2, h3, _⟩ := run_append_own (P := P) (w := w) base t ty e i z 1 bytes ht hi hz hsize hby hzs (by decide) v n xs hown x zs.length c (zs.map (Value.int q)) (by simp) (by
      intro j u hj
      rw [List.getElem?_map] at hj
      obtain ⟨y, hy, rfl⟩ := Option.map_eq_some_iff.1 hj
      obtain ⟨hlt, rfl⟩ := List.getElem?_eq_some_iff.1 hy
      obtain ⟨b, o, h1, h2⟩ := hr j hlt
      cases h1
      rw [Addr.add_lit]
      exact h2) (ints_oneCell _ _) h63 hbytes hbase
    exact ⟨v', w', h1, h2, h3⟩

theorem wpList_append_row {P : Program} (w : World) {ops : Array Oper} {rest : List Oper} {o : Oper} {ac : Act} {Q : Exit → Act → World → Prop} (hgd : o.guard = none) (s x : Operand) (t : TypeId)
    (ho : o.op = .call { callee := .builtin .append, args := #[s, x], argTypes := #[t, t] })
    (base e : TypeId) (i : TypeInfo) (z : Value) (bytes : Nat) (ht : P.underlying t = some (.slice e)) (hi : P.info? e = some i) (hz : i.zero = some z)
    (hsize : i.size = 1) (hby : i.bytes = bytes) (hzs : z.cells.size = 1) (v : Value) (n : Nat) (xs : List Value) (hs : ac.eval s = v) (hown : w.ownsRow base e 1 v n xs)
    (a : Option Addr) (c : Nat) (q : IntKind) (zs : List Int) (hx : ac.eval x = .slice a zs.length c) (hn : a = none → c = 0) (hr : RowAt q w a zs) (h63 : n + zs.length ≤ maxLen) (hbytes : (n + zs.length) * bytes ≤ 140737488355328) (hbase : base ≤ w.heap.size)
    (h : ∀ v' w', w'.ownsRow base e 1 v' (n + zs.length) (xs ++ zs.map (Value.int q)) → w.grownBy w' v.ownBlock → wpList P ops Q rest (ac.put o.dst v') w') : wpList P ops Q (o :: rest) ac w := by
  obtain ⟨v', w', h1, h2, h3⟩ := run_append_row (P := P) w base t o.type e i z bytes ht hi hz hsize hby hzs v n xs hown a c hn q zs hr h63 hbytes hbase
  exact Lib.wpList_append_run w hgd s x t t ho _ _ hs hx v' w' h1 (h v' w' h2 h3)

theorem wp_append_row {P : Program} (w : World) {o : Oper} {ac : Act} {K : Act → World → Prop} {Q : Exit → Act → World → Prop} (s x : Operand) (t : TypeId)
    (ho : o.op = .call { callee := .builtin .append, args := #[s, x], argTypes := #[t, t] })
    (base e : TypeId) (i : TypeInfo) (z : Value) (bytes : Nat) (ht : P.underlying t = some (.slice e)) (hi : P.info? e = some i) (hz : i.zero = some z)
    (hsize : i.size = 1) (hby : i.bytes = bytes) (hzs : z.cells.size = 1) (v : Value) (n : Nat) (xs : List Value) (hs : ac.eval s = v) (hown : w.ownsRow base e 1 v n xs)
    (a : Option Addr) (c : Nat) (q : IntKind) (zs : List Int) (hx : ac.eval x = .slice a zs.length c) (hn : a = none → c = 0) (hr : RowAt q w a zs) (h63 : n + zs.length ≤ maxLen) (hbytes : (n + zs.length) * bytes ≤ 140737488355328) (hbase : base ≤ w.heap.size)
    (h : ∀ v' w', w'.ownsRow base e 1 v' (n + zs.length) (xs ++ zs.map (Value.int q)) → w.grownBy w' v.ownBlock → K (ac.put o.dst v') w') : o.wp P ac w K Q := by
  obtain ⟨v', w', h1, h2, h3⟩ := run_append_row (P := P) w base t o.type e i z bytes ht hi hz hsize hby hzs v n xs hown a c hn q zs hr h63 hbytes hbase
  exact Lib.wp_append_run w s x t t ho _ _ hs hx v' w' h1 (h v' w' h2 h3)

theorem zeroCells_one (z : Value) (hz : z.cells = #[z]) (n : Nat) : Builtin.zeroCells z.cells n = (List.replicate n z).toArray := by
  rw [hz]
  apply Array.ext'
  simp [Builtin.zeroCells, Nat.mod_one, List.map_const']

/-- 'append(s, make([]T, m)...)' onto a slice of the call's own, m at least one. -/
theorem run_append_zeros_own {P : Program} (w : World) (base : Nat) (t tn ty e : TypeId) (i : TypeInfo) (z : Value) (bytes : Nat) (kn kq : IntKind) (ht : P.underlying t = some (.slice e)) (htn : P.underlying tn = some (.int kn)) (hi : P.info? e = some i) (hz : i.zero = some z)
    (hsize : i.size = 1) (hby : i.bytes = bytes) (hzs : z.cells = #[z]) (h1z : z.oneCell' = true) (v : Value) (n : Nat) (xs : List Value) (hown : w.ownsRow base e 1 v n xs)
    (m : Nat) (h0 : 0 < m) (h63 : n + m ≤ maxLen) (hbytes : (n + m) * bytes ≤ 140737488355328) (hbase : base ≤ w.heap.size) :
    ∃ v' w', (Builtin.append_ #[t, tn] ty #[v, .int kq m]).run P w = .ok v' w' ∧ w'.ownsRow base e 1 v' (n + m) (xs ++ List.replicate m z) ∧ w.grownBy w' v.ownBlock := by
  have hmax : n + m ≤ 9223372036854775807 := h63
  have hzc := zeroCells_one z hzs
  have hmb : m * i.bytes ≤ (n + m) * i.bytes := Nat.mul_le_mul_right _ (by omega)
  rw [← hby] at hbytes
  have hw : IntKind.i64.wrap (m : Int) = m := by rw [IntKind.wrap_i64]; omega
  have hneg : ¬ ((m : Int) < 0) := by omega
  have h48i : ¬ (281474976710656 < (m : Int) * (i.bytes : Int)) := by
    rw [← Int.natCast_mul]; omega
  have hm0 : m ≠ 0 := by omega
  have hlen : (xs ++ List.replicate m z).length = (n + m) * 1 := by rw [List.length_append, hown.1]; simp
  rcases hown.2 with ⟨rfl, rfl⟩ | ⟨g, cap, cur, rfl, hbg, hg, hnc, hcm, hcs, htake⟩
  · have hx : xs = [] := List.eq_nil_of_length_eq_zero (by simpa using hown.1)
    subst hx
    have hr := Lib.run_append_nil_zeros (P := P) w t tn ty e i z kq kn ht htn hi hz m h0 (by omega) (by omega) (by simp only [Nat.zero_add] at hbytes; omega)
    refine ⟨_, _, hr, ⟨hlen, .inr ⟨w.heap.size, grownCap w m 0 e, _, by simp, hbase, heap_alloc_new w.drew _, ?_, ?_, ?_, ?_⟩⟩, ⟨rfl, rfl, rfl, by simp, fun k hk _ => Below.heap_alloc w.drew _ k hk⟩⟩
    · have := grownCap_ge w m 0 e; omega
    · exact grownCap_le_maxLen w m 0 e (by unfold maxLen; omega)
    · have := grownCap_ge w m 0 e
      simp [hzc]; omega
    · simp [hzc]
  · by_cases hroom : n + m ≤ cap
    · have hst := run_storeCells_at P g (n * 1) e (List.replicate m z) 0 cur w hg (by simp [hcs]; omega) (by intro u hu; rw [List.mem_replicate] at hu; rw [hu.2]; exact h1z)
      simp only [Nat.add_zero] at hst
      refine ⟨.slice (some ⟨g, 0, none⟩) (n + m) cap, w.setRow g (cur.toList.take (n * 1) ++ List.replicate m z ++ cur.toList.drop (n * 1 + (List.replicate m z).length)).toArray, ?_, ⟨hlen, .inr ⟨g, cap, _, rfl, hbg, setRow_heap w g cur _ e _ hg, hroom, hcm, ?_, ?_⟩⟩, ⟨rfl, rfl, rfl, by simp, fun k _ hk => setRow_other w g k _ (fun e => hk (by simp [Value.ownBlock, e]))⟩⟩
      · simp [Builtin.append_, run_underlying ht, run_underlying htn, sizeOf, typeInfo, zeroValue, hi, hz, asInt, asIntOf, hw, hneg, h48i, hroom, hsize, hm0, hzc, Addr.add_lit]
        simp only [Nat.mul_one] at hst
        rw [hst]
        simp
      · simp only [List.size_toArray, List.length_append, List.length_take, List.length_drop, Array.length_toList, List.length_replicate]
        omega
      · rw [← hlen]
        rw [show (List.take (n * 1) cur.toList) = xs from htake]
        exact List.take_left
    · have holds : ∀ j u, xs[j]? = some u → w.cell? ((⟨g, 0, none⟩ : Addr).add j) = some u := hown.cells (g := g) rfl
      have hold := run_firstCells_some (P := P) w.drew i.size n ⟨g, 0, none⟩ n cap xs (by rw [hsize]; exact hown.1) (by simpa using holds)
      have hold' : (Builtin.firstCells i.size n (.slice (some ⟨g, 0, none⟩) n cap)).run P w.drew = .ok xs.toArray w.drew := hold
      have hr := Lib.run_append_grow_zeros (P := P) w t tn ty e i z kq kn ht htn hi hz (some ⟨g, 0, none⟩) n cap xs hold' m h0 (by omega) (by omega) (by omega) (by omega) (growslice_fits (by omega) hbytes)
      refine ⟨_, _, hr, ⟨hlen, .inr ⟨w.heap.size, _, _, rfl, hbase, heap_alloc_new w.drew _, grownCap_ge w _ _ e, grownCap_le_maxLen w _ _ e h63, ?_, ?_⟩⟩, ⟨rfl, rfl, rfl, by simp, fun k hk _ => Below.heap_alloc w.drew _ k hk⟩⟩
      · have := grownCap_ge w (n + m) cap e
        have := hown.1
        simp [hzc]; omega
      · simp only [hzc, Array.toList_append, List.append_assoc]
        rw [← List.append_assoc, ← hlen]
        exact List.take_left

theorem wpList_append_zeros {P : Program} (w : World) {ops : Array Oper} {rest : List Oper} {o : Oper} {ac : Act} {Q : Exit → Act → World → Prop} (hgd : o.guard = none) (s x : Operand) (t tn : TypeId)
    (ho : o.op = .call { callee := .builtin .append, args := #[s, x], argTypes := #[t, tn] })
    (base e : TypeId) (i : TypeInfo) (z : Value) (bytes : Nat) (kn kq : IntKind) (ht : P.underlying t = some (.slice e)) (htn : P.underlying tn = some (.int kn)) (hi : P.info? e = some i) (hz : i.zero = some z)
    (hsize : i.size = 1) (hby : i.bytes = bytes) (hzs : z.cells = #[z]) (h1z : z.oneCell' = true) (v : Value) (n : Nat) (xs : List Value) (hs : ac.eval s = v) (hown : w.ownsRow base e 1 v n xs)
    (m : Nat) (hx : ac.eval x = .int kq m) (h0 : 0 < m) (h63 : n + m ≤ maxLen) (hbytes : (n + m) * bytes ≤ 140737488355328) (hbase : base ≤ w.heap.size)
    (h : ∀ v' w', w'.ownsRow base e 1 v' (n + m) (xs ++ List.replicate m z) → w.grownBy w' v.ownBlock → wpList P ops Q rest (ac.put o.dst v') w') : wpList P ops Q (o :: rest) ac w := by
  obtain ⟨v', w', h1, h2, h3⟩ := run_append_zeros_own (P := P) w base t tn o.type e i z bytes kn kq ht htn hi hz hsize hby hzs h1z v n xs hown m h0 h63 hbytes hbase
  exact Lib.wpList_append_run w hgd s x t tn ho _ _ hs hx v' w' h1 (h v' w' h2 h3)

/-- An owned row of integers can be read. -/
theorem rowAt_own {w : World} {base : Nat} {e : TypeId} {q : IntKind} {v : Value} {n : Nat} {zs : List Int} (h : w.ownsRow base e 1 v n (zs.map (Value.int q))) :
    ∃ a c, v = .slice a zs.length c ∧ RowAt q w a zs ∧ (a = none → c = 0) ∧ (∀ x, a = some x → base ≤ x.block) ∧ n = zs.length := by
  have hlen := h.1
  simp at hlen
  rcases h.2 with ⟨rfl, rfl⟩ | ⟨g, cap, cur, rfl, hg, _⟩
  · have : zs = [] := List.length_eq_zero_iff.1 hlen
    subst this
    exact ⟨none, 0, rfl, RowAt.nil, fun _ => rfl, by simp, rfl⟩
  · refine ⟨_, cap, by rw [hlen], fun i hi => ⟨g, 0, rfl, ?_⟩, by simp, by rintro x ⟨⟩; exact hg, hlen.symm⟩
    have := h.cellAt i (by omega)
    simpa [List.getElem?_eq_getElem hi] using this

theorem RowAt.own_zeros {q : IntKind} (zs : List Int) (m : Nat) : zs.map (Value.int q) ++ List.replicate m (Value.int q 0) = (zs ++ List.replicate m 0).map (Value.int q) := by simp

/-- An empty row that the call has just made. -/
theorem own_empty (w : World) (e : TypeId) : (w.alloc (.cells #[] e)).ownsRow w.heap.size e 1 (.slice (some ⟨w.heap.size, 0, none⟩) 0 0) 0 [] := World.ownsRow_made w #[] 0 (Nat.le_refl _) (by unfold maxLen; omega) (by simp)

theorem own_empty1 (w : World) (o : Obj) (e : TypeId) : ((w.alloc o).alloc (.cells #[] e)).ownsRow (w.heap.size + 1) e 1 (.slice (some ⟨w.heap.size + 1, 0, none⟩) 0 0) 0 [] := by
  have h := own_empty (w.alloc o) e
  rw [World.size_alloc] at h
  exact h
theorem own_below (w : World) (o : Obj) (e : TypeId) : Below (w.heap.size + 1) (w.alloc o) ((w.alloc o).alloc (.cells #[] e)) := by
  have h := xalloc (xrefl (w.alloc o)) (.cells #[] e)
  rw [World.size_alloc] at h
  exact h

end Go.Proofs.YtijkdabmegbcjaaDoor
namespace Go.Proofs.YtijkdabmegbcjaaDoor
open Go.RowKit

def limb (N j : Nat) : Nat := N / 2 ^ (64 * j) % 18446744073709551616
def byteAt (N i : Nat) : Nat := N / 256 ^ i % 256
theorem limb_lt (N j : Nat) : limb N j < 18446744073709551616 := Nat.mod_lt _ (by decide)
theorem byteAt_lt (N i : Nat) : byteAt N i < 256 := Nat.mod_lt _ (by decide)
/-- A word as Go holds it. -/
def wordL (N : Nat) : List Int := [limb N 0, limb N 1, limb N 2, limb N 3]
def wordV (N : Nat) : Value := .agg #[.int .u64 (limb N 0), .int .u64 (limb N 1), .int .u64 (limb N 2), .int .u64 (limb N 3)]
/-- The 32 bytes of a number, the highest first. -/
def bytesL (N : Nat) : List Int := (List.range 32).map fun j => (byteAt N (31 - j) : Int)

theorem sh_byte (x r : Nat) (h : r < 8) : x % 18446744073709551616 / 2 ^ (8 * r) % 256 = x / 2 ^ (8 * r) % 256 := by
  have : r = 0 ∨ r = 1 ∨ r = 2 ∨ r = 3 ∨ r = 4 ∨ r = 5 ∨ r = 6 ∨ r = 7 := by omega
  rcases this with rfl | rfl | rfl | rfl | rfl | rfl | rfl | rfl <;> simp <;> omega
theorem limb_byte (N i : Nat) : limb N (i / 8) / 2 ^ (8 * (i % 8)) % 256 = byteAt N i := by
  unfold limb byteAt
  rw [sh_byte _ _ (Nat.mod_lt _ (by decide)), Nat.div_div_eq_div_mul, ← Nat.pow_add, show (256 : Nat) = 2 ^ 8 by decide, ← Nat.pow_mul]
  congr 3
  omega

theorem val_limbs (N : Nat) (h : N < 2 ^ 256) : N = limb N 0 + limb N 1 * 2 ^ 64 + limb N 2 * 2 ^ 128 + limb N 3 * 2 ^ 192 := by
  unfold limb
  simp at *
  omega
theorem limb_of (a b c d : Nat) (ha : a < 18446744073709551616) (hb : b < 18446744073709551616) (hc : c < 18446744073709551616) (hd : d < 18446744073709551616) :
    limb (a + b * 2 ^ 64 + c * 2 ^ 128 + d * 2 ^ 192) 0 = a ∧ limb (a + b * 2 ^ 64 + c * 2 ^ 128 + d * 2 ^ 192) 1 = b ∧ limb (a + b * 2 ^ 64 + c * 2 ^ 128 + d * 2 ^ 192) 2 = c ∧ limb (a + b * 2 ^ 64 + c * 2 ^ 128 + d * 2 ^ 192) 3 = d := by
  unfold limb
  simp
  omega

/-! A block that holds integers. -/
def Blk (q : IntKind) (w : World) (b : Nat) (T : TypeId) (l : List Int) : Prop := w.heap[b]? = some (.cells (l.map (Value.int q)).toArray T (0, 0))
theorem Blk.cell {q : IntKind} {w : World} {b : Nat} {T : TypeId} {l : List Int} (h : Blk q w b T l) (i : Nat) (hi : i < l.length) : w.cell? ⟨b, i, none⟩ = some (.int q l[i]) := by
  rw [cell_of_row w b i _ T (0, 0) h]; simp [hi]
theorem Blk.frozen {q : IntKind} {w : World} {b : Nat} {T : TypeId} {l : List Int} (h : Blk q w b T l) (i : Nat) : w.frozen? ⟨b, i, none⟩ = false := frozen_of_row w b i _ T h
theorem Blk.lt {q : IntKind} {w : World} {b : Nat} {T : TypeId} {l : List Int} (h : Blk q w b T l) : b < w.heap.size := (Array.getElem?_eq_some_iff.1 h).1
theorem Blk.set {q : IntKind} {w : World} {b : Nat} {T : TypeId} {l : List Int} (h : Blk q w b T l) (i : Nat) (v : Int) : Blk q (w.setCell ⟨b, i, none⟩ (.int q v)) b T (l.set i v) := by
  unfold Blk at *
  rw [heap_setCell_same w b i _ T _ h]
  congr 2
  apply Array.ext'
  simp [List.map_set]
theorem Blk.other {q : IntKind} {w : World} {b : Nat} {T : TypeId} {l : List Int} (h : Blk q w b T l) (a : Addr) (v : Value) (hb : b ≠ a.block) : Blk q (w.setCell a v) b T l := (heap_setCell_other w a b v hb).trans h
theorem Blk.oth {q : IntKind} {w : World} {b : Nat} {T : TypeId} {l : List Int} (h : Blk q w b T l) {c i : Nat} (v : Value) (hb : b ≠ c) : Blk q (w.setCell ⟨c, i, none⟩ v) b T l := h.other ⟨c, i, none⟩ v hb
theorem xsetb {a w : World} (h : Below a.heap.size a w) {c i : Nat} (hp : a.heap.size ≤ c) (u : Value) : Below a.heap.size a (w.setCell ⟨c, i, none⟩ u) := h.setCell hp u
theorem Blk.alloc {q : IntKind} {w : World} {b : Nat} {T : TypeId} {l : List Int} (h : Blk q w b T l) (o : Obj) : Blk q (w.alloc o) b T l := (Below.heap_alloc w o b h.lt).trans h
theorem Blk.drew {q : IntKind} {w : World} {b : Nat} {T : TypeId} {l : List Int} (h : Blk q w b T l) : Blk q w.drew b T l := h
theorem Blk.below {q : IntKind} {w w' : World} {b : Nat} {T : TypeId} {l : List Int} (h : Blk q w b T l) (hb : Below w.heap.size w w') : Blk q w' b T l := (hb.block b h.lt).trans h
theorem Blk.new {q : IntKind} (w : World) (T : TypeId) (l : List Int) : Blk q (w.alloc (.cells (l.map (Value.int q)).toArray T)) w.heap.size T l := by
  show (w.heap.push _)[_]? = _
  simp

theorem Blk.new' {q : IntKind} (w : World) (b : Nat) (T : TypeId) (l : List Int) (hb : b = w.heap.size) : Blk q (w.alloc (.cells (l.map (Value.int q)).toArray T)) b T l := by subst hb; exact Blk.new w T l
theorem wordL_get (N j : Nat) (h : j < (wordL N).length) : (wordL N)[j] = limb N j := by
  have : j < 4 := h
  match j, this with
  | 0, _ => rfl
  | 1, _ => rfl
  | 2, _ => rfl
  | 3, _ => rfl
def zs32 : List Int := List.replicate 32 0
/-- The bytes that are laid after k rounds. -/
def bytesTo (N k : Nat) : List Int := (List.range 32).map fun j => if 31 - j < k then (byteAt N (31 - j) : Int) else 0
theorem bytesTo_len (N k : Nat) : (bytesTo N k).length = 32 := by simp [bytesTo]
theorem bytesTo_all (N : Nat) : bytesTo N 32 = bytesL N := by
  unfold bytesTo bytesL
  refine List.map_congr_left fun j hj => ?_
  rw [if_pos (by omega)]
theorem bytesTo_succ (N k : Nat) (h : k < 32) : (bytesTo N k).set (31 - k) (byteAt N k : Int) = bytesTo N (k + 1) := by
  apply List.ext_getElem
  · simp [bytesTo_len]
  · intro i h1 h2
    have hi : i < 32 := by simpa [bytesTo_len] using h2
    rw [List.getElem_set]
    simp only [bytesTo, List.getElem_map, List.getElem_range]
    by_cases e : 31 - k = i
    · subst e
      rw [if_pos rfl, if_pos (by omega), show 31 - (31 - k) = k by omega]
    · rw [if_neg e]
      by_cases c : 31 - i < k
      · rw [if_pos c, if_pos (by omega)]
      · rw [if_neg c, if_neg (by omega)]

theorem cases32 (k : Nat) (h : k < 32) : k = 0 ∨ k = 1 ∨ k = 2 ∨ k = 3 ∨ k = 4 ∨ k = 5 ∨ k = 6 ∨ k = 7 ∨ k = 8 ∨ k = 9 ∨ k = 10 ∨ k = 11 ∨ k = 12 ∨ k = 13 ∨ k = 14 ∨ k = 15 ∨ k = 16 ∨ k = 17 ∨ k = 18 ∨ k = 19 ∨ k = 20 ∨ k = 21 ∨ k = 22 ∨ k = 23 ∨ k = 24 ∨ k = 25 ∨ k = 26 ∨ k = 27 ∨ k = 28 ∨ k = 29 ∨ k = 30 ∨ k = 31 := by omega
theorem wordTo_succ (N k : Nat) (h : k < 32) : (wordL (N % 256 ^ k)).set (k / 8) ((limb (N % 256 ^ k) (k / 8) + byteAt N k * 2 ^ (8 * (k % 8)) : Nat) : Int) = wordL (N % 256 ^ (k + 1)) := by
  rcases cases32 k h with rfl | rfl | rfl | rfl | rfl | rfl | rfl | rfl | rfl | rfl | rfl | rfl | rfl | rfl | rfl | rfl | rfl | rfl | rfl | rfl | rfl | rfl | rfl | rfl | rfl | rfl | rfl | rfl | rfl | rfl | rfl | rfl <;> simp [wordL, limb, byteAt] <;> omega
theorem limb_small (N k : Nat) (h : k < 32) : limb (N % 256 ^ k) (k / 8) < 2 ^ (8 * (k % 8)) := by
  rcases cases32 k h with rfl | rfl | rfl | rfl | rfl | rfl | rfl | rfl | rfl | rfl | rfl | rfl | rfl | rfl | rfl | rfl | rfl | rfl | rfl | rfl | rfl | rfl | rfl | rfl | rfl | rfl | rfl | rfl | rfl | rfl | rfl | rfl <;> simp [limb] <;> omega
theorem byte_small (N k : Nat) : byteAt N k * 2 ^ (8 * (k % 8)) < 18446744073709551616 := by
  have h1 := byteAt_lt N k
  have h2 : 2 ^ (8 * (k % 8)) ≤ 2 ^ 56 := Nat.pow_le_pow_right (by decide) (by omega)
  have h3 : byteAt N k * 2 ^ (8 * (k % 8)) ≤ 255 * 2 ^ 56 := Nat.mul_le_mul (by omega) h2
  omega
theorem wordL_mod (N : Nat) : wordL (N % 256 ^ 32) = wordL N := by
  simp [wordL, limb]; omega

end Go.Proofs.YtijkdabmegbcjaaDoor
