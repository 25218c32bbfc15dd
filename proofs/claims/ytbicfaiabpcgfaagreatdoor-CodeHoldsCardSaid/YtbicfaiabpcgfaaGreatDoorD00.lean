/- Texts of this claim, merged; no condition. -/
import Derived.Test.YtbicfaiabpcgfaaGreatDoorRows
import Derived.WalkKit
import Derived.WalkSpells
import Derived.WalkLawsBesides
import Derived.Deep.QuietTactic
import Derived.BigQuiet
import Derived.Lib.Hide
import Derived.Deep.RegionHeld3
import Derived.Laws.EntriesVeiled
import Derived.Deep.RegionWith
import Derived.Deep.DeepFit
import Derived.Lib.AppendZerosOnto
import Derived.Lib.AppendZeros
import Derived.RangeFuncRecord
import Derived.Deep.MidRow
set_option linter.all false
namespace Go.Proofs.YtbicfaiabpcgfaaGreatDoor
open Go.RowKit

/-- The entries of a map with integer keys that was filled in the order of the list. -/
def entI (q : IntKind) : Nat → List (Int × Value) → List MapEntry
  | _, [] => []
  | i, x :: l => { key := .int q x.1, val := x.2, born := i } :: entI q (i + 1) l
def mapI (q : IntKind) (l : List (Int × Value)) : Obj := .map (entI q 0 l).toArray l.length
def findI (n : Int) : List (Int × Value) → Option Value
  | [] => none
  | x :: l => if n = x.1 then some x.2 else findI n l
@[go_sem] theorem findI_nil (n : Int) : findI n [] = none := Eq.trans rfl rfl
@[go_sem] theorem findI_cons (n m : Int) (v : Value) (l : List (Int × Value)) : findI n ((m, v) :: l) = if n = m then some v else findI n l := Eq.trans rfl rfl

theorem findNow_ent (q : IntKind) (n : Int) : ∀ (l : List (Int × Value)) (i j : Nat), ∃ r, Instr.findNow (.int q) (.int q n) (entI q i l) j = some r ∧ r.map (·.2) = findI n l ∧ (findI n l = none → r = none)
  | [], i, j => ⟨none, rfl, rfl, fun _ => rfl⟩
  | (m, v) :: l, i, j => by
    obtain ⟨r, h1, h2, h3⟩ := findNow_ent q n l (i + 1) (j + 1)
    by_cases h : n = m
    · subst h
      exact ⟨some (j, v), by simp [entI, Instr.findNow, Instr.sameNow], by simp [findI], by simp [findI]⟩
    · have hb : (n == m) = false := by simpa using h
      refine ⟨r, by simp [entI, Instr.findNow, Instr.sameNow, hb, h1], by simp [findI, h, h2], by simpa [findI, h] using h3⟩

theorem entI_append (q : IntKind) : ∀ (l l' : List (Int × Value)) (i : Nat), entI q i (l ++ l') = entI q i l ++ entI q (i + l.length) l'
  | [], l', i => by simp [entI]
  | x :: l, l', i => by simp only [List.cons_append, entI, entI_append q l l' (i + 1), List.length_cons]; rw [show i + 1 + l.length = i + (l.length + 1) by omega]

theorem checkKey_int' {P : Program} {k : TypeId} {q : IntKind} (hk : P.underlying k = some (.int q)) (b : Bool) (n : Int) (m : Nat) (w : World) : (Instr.checkKey b (m + 1) k (.int q n)).run P w = .ok () w := by
  simp [Instr.checkKey, run_underlying hk, Sem.run_bind]
theorem checkKey_int {P : Program} {k : TypeId} {q : IntKind} (hk : P.underlying k = some (.int q)) (b : Bool) (n : Int) (w : World) : (Instr.checkKey b 10000 k (.int q n)).run P w = .ok () w := by
  exact checkKey_int' hk b n 9999 w

theorem findKey_int {P : Program} {k : TypeId} {q : IntKind} (hk : P.underlying k = some (.int q)) (n : Int) (l : List (Int × Value)) (w : World) :
    ∃ r, (Instr.findKey k (.int q n) (entI q 0 l)).run P w = .ok r w ∧ r.map (·.2) = findI n l ∧ (findI n l = none → r = none) := by
  obtain ⟨r, h1, h2, h3⟩ := findNow_ent q n l 0 0
  exact ⟨r, by simp [Instr.findKey, run_underlying hk, Sem.run_bind, h1], h2, h3⟩

theorem run_lookI {P : Program} {t k e : TypeId} {q : IntKind} (ht : P.underlying t = some (.map k e)) (hk : P.underlying k = some (.int q)) {z : Value} (hz : ∀ w, (zeroValue e).run P w = .ok z w)
    (n : Int) (w : World) (b : Nat) (l : List (Int × Value)) (c : Bool) (hb : w.heap[b]? = some (mapI q l)) :
    (Instr.lookup t (.map (some b)) (.int q n) c).run P w = .ok (if c then .tuple #[(findI n l).getD z, .bool (findI n l).isSome] else (findI n l).getD z) w := by
  obtain ⟨r, h1, h2, h3⟩ := findKey_int hk n l w
  unfold mapI at hb
  simp only [Instr.lookup, run_underlying ht, Sem.run_bind, Result.andThen_ok, getObj, Sem.run, hb]
  simp [checkKey_int hk, h1]
  cases r with
  | none => simp at h2; simp [← h2, hz]
  | some x => simp at h2; simp [← h2]


/-! A scope whose goto leads forward: at the jump the walk goes on behind the label. -/
def fwd (P : Program) (l : Nat) (rest : Code) (Q : Exit → Act → World → Prop) : Exit → Act → World → Prop
  | .goto l', a, w => l' = l ∧ rest.wp P (Exit.noGoto Q) a w
  | e, a, w => Q e a w
section
variable {P : Program} {l : Nat} {rest : Code} {Q : Exit → Act → World → Prop} {a : Act} {w : World}
@[go_sem] theorem fwd_normal : fwd P l rest Q .normal a w = Q .normal a w := rfl
@[go_sem] theorem fwd_exit (id : Nat) : fwd P l rest Q (.exit id) a w = Q (.exit id) a w := rfl
@[go_sem] theorem fwd_ret : fwd P l rest Q .ret a w = Q .ret a w := rfl
@[go_sem] theorem fwd_panic (ch : List PanicEntry) : fwd P l rest Q (.panic ch) a w = Q (.panic ch) a w := rfl
end

/-! 'Below w.heap.size w w'', step by step. -/
theorem xrefl (w : World) : Below w.heap.size w w := Below.refl _ _
theorem xalloc {a w : World} (h : Below a.heap.size a w) (o : Obj) : Below a.heap.size a (w.alloc o) := h.alloc h.size o
theorem xdrew {a w : World} (h : Below a.heap.size a w) : Below a.heap.size a w.drew := h.drew
theorem xset {a w : World} (h : Below a.heap.size a w) {p : Addr} (hp : a.heap.size ≤ p.block) (u : Value) : Below a.heap.size a (w.setCell p u) := h.setCell hp u
theorem xtrans {a b c : World} (h : Below a.heap.size a b) (k : Below b.heap.size b c) : Below a.heap.size a c := h.trans (k.mono h.size)

/-! Cells and marks that stay. -/
theorem cell_lt {w : World} {a : Addr} {v : Value} (h : w.cell? a = some v) : a.block < w.heap.size := World.block_lt_of_cell? w a h
theorem cbel {w w' : World} {a : Addr} {v : Value} (hb : Below w.heap.size w w') (h : w.cell? a = some v) : w'.cell? a = some v := (hb.cell (cell_lt h)).trans h
end Go.Proofs.YtbicfaiabpcgfaaGreatDoor
namespace Go.Proofs.YtbicfaiabpcgfaaGreatDoor

def natI (l : List Nat) : List Int := l.map fun n : Nat => (n : Int)
theorem natI_len (l : List Nat) : (natI l).length = l.length := by simp [natI]
theorem natI_get (l : List Nat) (i : Nat) (h : i < (natI l).length) : (natI l)[i] = (l[i]'(by simpa [natI] using h) : Int) := by simp [natI]
theorem natI_app (a b : List Nat) : natI (a ++ b) = natI a ++ natI b := by simp [natI]
theorem natI_cons (x : Nat) (l : List Nat) : natI (x :: l) = (x : Int) :: natI l := rfl
/-! Rising lists. -/
def SL (l : List Nat) : Prop := l.Pairwise (· < ·)
/-! Ops. -/
def byN (cs : List Nat) (i : Nat) : Nat := cs.getD i 0
def szN (c : Nat) : Nat := if 96 ≤ c ∧ c ≤ 127 then c - 95 else 0
def nxN (cs : List Nat) (i : Nat) : Nat := i + 1 + szN (byN cs i)
def opsF (cs : List Nat) : Nat → Nat → List Nat
  | 0, _ => []
  | f + 1, i => if i < cs.length then i :: opsF cs f (nxN cs i) else []
def opsA (cs : List Nat) (i : Nat) : List Nat := opsF cs (cs.length - i) i
def opsL (cs : List Nat) : List Nat := opsA cs 0
theorem nxN_lt (cs : List Nat) (i : Nat) : i < nxN cs i := by unfold nxN; omega
theorem opsF_eq (cs : List Nat) : ∀ f g i, cs.length - i ≤ f → cs.length - i ≤ g → opsF cs f i = opsF cs g i
  | 0, 0, _, _, _ => rfl
  | 0, g + 1, i, h, _ => by simp [opsF]; omega
  | f + 1, 0, i, _, h => by simp [opsF]; omega
  | f + 1, g + 1, i, hf, hg => by
    unfold opsF
    split
    · have := nxN_lt cs i
      rw [opsF_eq cs f g (nxN cs i) (by omega) (by omega)]
    · rfl
theorem opsA_lt {cs : List Nat} {i : Nat} (h : i < cs.length) : opsA cs i = i :: opsA cs (nxN cs i) := by
  have := nxN_lt cs i
  unfold opsA
  obtain ⟨k, hk⟩ : ∃ k, cs.length - i = k + 1 := ⟨cs.length - i - 1, by omega⟩
  rw [hk, opsF, if_pos h, opsF_eq cs k (cs.length - nxN cs i) _ (by omega) (by omega)]
theorem opsA_ge {cs : List Nat} {i : Nat} (h : cs.length ≤ i) : opsA cs i = [] := by
  unfold opsA
  rw [show cs.length - i = 0 by omega]; rfl
theorem opsF_facts (cs : List Nat) : ∀ f i, SL (opsF cs f i) ∧ ∀ x ∈ opsF cs f i, i ≤ x ∧ x < cs.length
  | 0, i => ⟨List.Pairwise.nil, by simp [opsF]⟩
  | f + 1, i => by
    have ih := opsF_facts cs f (nxN cs i)
    have := nxN_lt cs i
    unfold opsF
    split
    · refine ⟨List.pairwise_cons.2 ⟨fun x hx => ?_, ih.1⟩, fun x hx => ?_⟩
      · have := ih.2 x hx; omega
      · rcases List.mem_cons.1 hx with e | e
        · omega
        · have := ih.2 x e; omega
    · exact ⟨List.Pairwise.nil, by simp⟩
theorem opsL_sl (cs : List Nat) : SL (opsL cs) := (opsF_facts cs _ 0).1
theorem opsL_lt {cs : List Nat} {x : Nat} (h : x ∈ opsL cs) : x < cs.length := ((opsF_facts cs _ 0).2 x h).2
theorem opsA_len (cs : List Nat) (i : Nat) : (opsA cs i).length ≤ cs.length - i := by
  have h : ∀ f i, (opsF cs f i).length ≤ f := by
    intro f
    induction f with
    | zero => intro i; simp [opsF]
    | succ f ih =>
      intro i
      unfold opsF
      split
      · have := ih (nxN cs i); simp; omega
      · simp
  exact h _ _
theorem opsL_len (cs : List Nat) : (opsL cs).length ≤ cs.length := by have := opsA_len cs 0; unfold opsL; omega
theorem opsA_split (cs : List Nat) : ∀ (pre : List Nat) (i x : Nat) (r : List Nat), opsA cs i = pre ++ x :: r → x < cs.length ∧ r = opsA cs (nxN cs x)
  | [], i, x, r, h => by
    by_cases hi : i < cs.length
    · rw [opsA_lt hi] at h
      simp at h
      obtain ⟨rfl, rfl⟩ := h
      exact ⟨hi, rfl⟩
    · rw [opsA_ge (by omega)] at h
      simp at h
  | y :: pre, i, x, r, h => by
    by_cases hi : i < cs.length
    · rw [opsA_lt hi] at h
      simp at h
      exact opsA_split cs pre _ x r h.2
    · rw [opsA_ge (by omega)] at h
      simp at h
theorem opsL_at {cs : List Nat} {k : Nat} (h : k < (opsL cs).length) : (opsL cs).drop (k + 1) = opsA cs (nxN cs (opsL cs)[k]) := by
  refine (opsA_split cs ((opsL cs).take k) 0 (opsL cs)[k] ((opsL cs).drop (k + 1)) ?_).2
  show opsL cs = _
  rw [← List.drop_eq_getElem_cons h, List.take_append_drop]
theorem opsL_next {cs : List Nat} {k : Nat} (h : k + 1 < (opsL cs).length) : (opsL cs)[k + 1] = nxN cs (opsL cs)[k] ∧ nxN cs (opsL cs)[k] < cs.length := by
  have e := opsL_at (cs := cs) (k := k) (by omega)
  rw [List.drop_eq_getElem_cons h] at e
  by_cases hn : nxN cs (opsL cs)[k] < cs.length
  · rw [opsA_lt hn] at e
    exact ⟨(List.cons.inj e).1, hn⟩
  · rw [opsA_ge (by omega)] at e
    cases e
theorem opsL_last {cs : List Nat} {k : Nat} (h : k + 1 = (opsL cs).length) : cs.length ≤ nxN cs ((opsL cs)[k]'(by omega)) := by
  have e := opsL_at (cs := cs) (k := k) (by omega)
  rw [List.drop_eq_nil_of_le (by omega)] at e
  by_cases hn : nxN cs ((opsL cs)[k]'(by omega)) < cs.length
  · rw [opsA_lt hn] at e
    simp at e
  · omega
def marksL (cs : List Nat) : List Nat := (opsL cs).filter fun i => byN cs i == 91
theorem marksL_sl (cs : List Nat) : SL (marksL cs) := List.Pairwise.filter _ (opsL_sl cs)
theorem marksL_lt {cs : List Nat} {x : Nat} (h : x ∈ marksL cs) : x < cs.length ∧ byN cs x = 91 := by
  obtain ⟨h1, h2⟩ := List.mem_filter.1 h
  exact ⟨opsL_lt h1, by simpa using h2⟩
/-- Which ops there are. -/
def namedN (c : Nat) : Bool := (c ≤ 11 || 16 ≤ c && c ≤ 29 || c == 32 || 48 ≤ c && c ≤ 72 || 80 ≤ c && c ≤ 91 || 95 ≤ c && c ≤ 164 || 240 ≤ c && c ≤ 245 || c == 250 || 253 ≤ c && c ≤ 255)
end Go.Proofs.YtbicfaiabpcgfaaGreatDoor
namespace Go.Proofs.YtbicfaiabpcgfaaGreatDoor

/-- The number of bytes, the highest first. -/
def numN (l : List Nat) : Nat := l.foldl (fun a b => a * 256 + b) 0
theorem numN_snoc (l : List Nat) (b : Nat) : numN (l ++ [b]) = numN l * 256 + b := by unfold numN; rw [List.foldl_append]; rfl
theorem numN_lt (l : List Nat) (h : ∀ b ∈ l, b < 256) : numN l < 256 ^ l.length := by
  have : ∀ (l : List Nat) (a k : Nat), (∀ b ∈ l, b < 256) → a < 256 ^ k → l.foldl (fun a b => a * 256 + b) a < 256 ^ (k + l.length) := by
    intro l
    induction l with
    | nil => intro a k _ h; simpa using h
    | cons b l ih =>
      intro a k hb ha
      have h1 := hb b (by simp)
      have h2 : a * 256 + b < 256 ^ (k + 1) := by rw [Nat.pow_succ]; omega
      have := ih (a * 256 + b) (k + 1) (fun c hc => hb c (by simp [hc])) h2
      rw [List.foldl_cons, List.length_cons, show k + (l.length + 1) = k + 1 + l.length by omega]
      exact this
  have := this l 0 0 h (by simp)
  simpa [numN] using this
def restN (cs : List Nat) (i : Nat) : List Nat := (List.range (szN (byN cs i))).map fun j => byN cs (i + 1 + j)
theorem byN_lt {cs : List Nat} (h : ∀ c ∈ cs, c < 256) (i : Nat) : byN cs i < 256 := by
  unfold byN
  rw [List.getD_eq_getElem?_getD]
  by_cases hi : i < cs.length
  · rw [List.getElem?_eq_getElem hi]; exact h _ (List.getElem_mem hi)
  · rw [List.getElem?_eq_none (by omega)]; decide
theorem szN_le (c : Nat) : szN c ≤ 32 := by unfold szN; split <;> omega
theorem restN_len (cs : List Nat) (i : Nat) : (restN cs i).length = szN (byN cs i) := by simp [restN]
theorem restN_lt {cs : List Nat} (h : ∀ c ∈ cs, c < 256) (i : Nat) : ∀ b ∈ restN cs i, b < 256 := by
  intro b hb
  unfold restN at hb
  obtain ⟨j, _, rfl⟩ := List.mem_map.1 hb
  exact byN_lt h _
def pushV (cs : List Nat) (i : Nat) : Option Nat := if 95 ≤ byN cs i ∧ byN cs i ≤ 127 then some (numN (restN cs i)) else none
def pushN (cs : List Nat) (i : Nat) : Option Nat := if i ∈ opsL cs then pushV cs i else none
end Go.Proofs.YtbicfaiabpcgfaaGreatDoor
namespace Go.Proofs.YtbicfaiabpcgfaaGreatDoor

structure InfoN where
  name : List UInt8
  ins : Nat
  outs : Nat
  gas : Nat
  quiet : Bool
  size : Nat
  deriving DecidableEq
def noInfo : InfoN := ⟨[], 0, 0, 0, false, 0⟩
def infoV (x : InfoN) : Value := .agg #[.string ⟨x.name.toArray⟩, .int .i64 x.ins, .int .i64 x.outs, .int .u64 x.gas, .bool x.quiet, .int .i64 x.size]
def rowGet (c : Nat) : List (Nat × InfoN) → InfoN
  | [] => noInfo
  | x :: l => if c = x.1 then x.2 else rowGet c l
def lowRows : List (Nat × InfoN) := [
  (0, ⟨[83, 84, 79, 80], 0, 0, 0, false, 0⟩),
  (1, ⟨[65, 68, 68], 2, 1, 3, true, 0⟩),
  (2, ⟨[77, 85, 76], 2, 1, 5, true, 0⟩),
  (3, ⟨[83, 85, 66], 2, 1, 3, true, 0⟩),
  (4, ⟨[68, 73, 86], 2, 1, 5, true, 0⟩),
  (5, ⟨[83, 68, 73, 86], 2, 1, 5, true, 0⟩),
  (6, ⟨[77, 79, 68], 2, 1, 5, true, 0⟩),
  (7, ⟨[83, 77, 79, 68], 2, 1, 5, true, 0⟩),
  (8, ⟨[65, 68, 68, 77, 79, 68], 3, 1, 8, true, 0⟩),
  (9, ⟨[77, 85, 76, 77, 79, 68], 3, 1, 8, true, 0⟩),
  (10, ⟨[69, 88, 80], 2, 1, 10, false, 0⟩),
  (11, ⟨[83, 73, 71, 78, 69, 88, 84, 69, 78, 68], 2, 1, 5, true, 0⟩),
  (16, ⟨[76, 84], 2, 1, 3, true, 0⟩),
  (17, ⟨[71, 84], 2, 1, 3, true, 0⟩),
  (18, ⟨[83, 76, 84], 2, 1, 3, true, 0⟩),
  (19, ⟨[83, 71, 84], 2, 1, 3, true, 0⟩),
  (20, ⟨[69, 81], 2, 1, 3, true, 0⟩),
  (21, ⟨[73, 83, 90, 69, 82, 79], 1, 1, 3, true, 0⟩),
  (22, ⟨[65, 78, 68], 2, 1, 3, true, 0⟩),
  (23, ⟨[79, 82], 2, 1, 3, true, 0⟩),
  (24, ⟨[88, 79, 82], 2, 1, 3, true, 0⟩),
  (25, ⟨[78, 79, 84], 1, 1, 3, true, 0⟩),
  (26, ⟨[66, 89, 84, 69], 2, 1, 3, true, 0⟩),
  (27, ⟨[83, 72, 76], 2, 1, 3, true, 0⟩),
  (28, ⟨[83, 72, 82], 2, 1, 3, true, 0⟩)]
def middleRows : List (Nat × InfoN) := [
  (29, ⟨[83, 65, 82], 2, 1, 3, true, 0⟩),
  (32, ⟨[75, 69, 67, 67, 65, 75, 50, 53, 54], 2, 1, 30, false, 0⟩),
  (48, ⟨[65, 68, 68, 82, 69, 83, 83], 0, 1, 2, true, 0⟩),
  (49, ⟨[66, 65, 76, 65, 78, 67, 69], 1, 1, 0, false, 0⟩),
  (50, ⟨[79, 82, 73, 71, 73, 78], 0, 1, 2, true, 0⟩),
  (51, ⟨[67, 65, 76, 76, 69, 82], 0, 1, 2, true, 0⟩),
  (52, ⟨[67, 65, 76, 76, 86, 65, 76, 85, 69], 0, 1, 2, true, 0⟩),
  (53, ⟨[67, 65, 76, 76, 68, 65, 84, 65, 76, 79, 65, 68], 1, 1, 3, false, 0⟩),
  (54, ⟨[67, 65, 76, 76, 68, 65, 84, 65, 83, 73, 90, 69], 0, 1, 2, true, 0⟩),
  (55, ⟨[67, 65, 76, 76, 68, 65, 84, 65, 67, 79, 80, 89], 3, 0, 3, false, 0⟩),
  (56, ⟨[67, 79, 68, 69, 83, 73, 90, 69], 0, 1, 2, true, 0⟩),
  (57, ⟨[67, 79, 68, 69, 67, 79, 80, 89], 3, 0, 3, false, 0⟩),
  (58, ⟨[71, 65, 83, 80, 82, 73, 67, 69], 0, 1, 2, true, 0⟩),
  (59, ⟨[69, 88, 84, 67, 79, 68, 69, 83, 73, 90, 69], 1, 1, 0, false, 0⟩),
  (60, ⟨[69, 88, 84, 67, 79, 68, 69, 67, 79, 80, 89], 4, 0, 0, false, 0⟩),
  (61, ⟨[82, 69, 84, 85, 82, 78, 68, 65, 84, 65, 83, 73, 90, 69], 0, 1, 2, true, 0⟩),
  (62, ⟨[82, 69, 84, 85, 82, 78, 68, 65, 84, 65, 67, 79, 80, 89], 3, 0, 3, false, 0⟩),
  (63, ⟨[69, 88, 84, 67, 79, 68, 69, 72, 65, 83, 72], 1, 1, 0, false, 0⟩),
  (64, ⟨[66, 76, 79, 67, 75, 72, 65, 83, 72], 1, 1, 20, false, 0⟩),
  (65, ⟨[67, 79, 73, 78, 66, 65, 83, 69], 0, 1, 2, true, 0⟩),
  (66, ⟨[84, 73, 77, 69, 83, 84, 65, 77, 80], 0, 1, 2, true, 0⟩),
  (67, ⟨[78, 85, 77, 66, 69, 82], 0, 1, 2, true, 0⟩),
  (68, ⟨[80, 82, 69, 86, 82, 65, 78, 68, 65, 79], 0, 1, 2, true, 0⟩),
  (69, ⟨[71, 65, 83, 76, 73, 77, 73, 84], 0, 1, 2, true, 0⟩),
  (70, ⟨[67, 72, 65, 73, 78, 73, 68], 0, 1, 2, true, 0⟩)]
def highRows : List (Nat × InfoN) := [
  (71, ⟨[83, 69, 76, 70, 66, 65, 76, 65, 78, 67, 69], 0, 1, 5, false, 0⟩),
  (72, ⟨[66, 65, 83, 69, 70, 69, 69], 0, 1, 2, true, 0⟩),
  (80, ⟨[80, 79, 80], 1, 0, 2, true, 0⟩),
  (81, ⟨[77, 76, 79, 65, 68], 1, 1, 3, false, 0⟩),
  (82, ⟨[77, 83, 84, 79, 82, 69], 2, 0, 3, false, 0⟩),
  (83, ⟨[77, 83, 84, 79, 82, 69, 56], 2, 0, 3, false, 0⟩),
  (84, ⟨[83, 76, 79, 65, 68], 1, 1, 0, false, 0⟩),
  (85, ⟨[83, 83, 84, 79, 82, 69], 2, 0, 0, false, 0⟩),
  (86, ⟨[74, 85, 77, 80], 1, 0, 8, false, 0⟩),
  (87, ⟨[74, 85, 77, 80, 73], 2, 0, 10, false, 0⟩),
  (88, ⟨[80, 67], 0, 1, 2, true, 0⟩),
  (89, ⟨[77, 83, 73, 90, 69], 0, 1, 2, true, 0⟩),
  (90, ⟨[71, 65, 83], 0, 1, 2, false, 0⟩),
  (91, ⟨[74, 85, 77, 80, 68, 69, 83, 84], 0, 0, 1, true, 0⟩),
  (95, ⟨[80, 85, 83, 72, 48], 0, 1, 2, true, 0⟩),
  (240, ⟨[67, 82, 69, 65, 84, 69], 3, 1, 32000, false, 0⟩),
  (241, ⟨[67, 65, 76, 76], 7, 1, 0, false, 0⟩),
  (242, ⟨[67, 65, 76, 76, 67, 79, 68, 69], 7, 1, 0, false, 0⟩),
  (243, ⟨[82, 69, 84, 85, 82, 78], 2, 0, 0, false, 0⟩),
  (244, ⟨[68, 69, 76, 69, 71, 65, 84, 69, 67, 65, 76, 76], 6, 1, 0, false, 0⟩),
  (245, ⟨[67, 82, 69, 65, 84, 69, 50], 4, 1, 32000, false, 0⟩),
  (250, ⟨[83, 84, 65, 84, 73, 67, 67, 65, 76, 76], 6, 1, 0, false, 0⟩),
  (253, ⟨[82, 69, 86, 69, 82, 84], 2, 0, 0, false, 0⟩),
  (254, ⟨[73, 78, 86, 65, 76, 73, 68], 0, 0, 0, false, 0⟩),
  (255, ⟨[83, 69, 76, 70, 68, 69, 83, 84, 82, 85, 67, 84], 1, 0, 5000, false, 0⟩)]
def digN (n : Nat) : List UInt8 := if n < 10 then [UInt8.ofNat (48 + n)] else [UInt8.ofNat (48 + n / 10), UInt8.ofNat (48 + n % 10)]
def famN (c : Nat) : Option InfoN :=
  if 96 ≤ c ∧ c ≤ 127 then some ⟨[80, 85, 83, 72] ++ digN (c - 95), 0, 1, 3, true, c - 95⟩
  else if 128 ≤ c ∧ c ≤ 143 then some ⟨[68, 85, 80] ++ digN (c - 127), c - 127, c - 126, 3, true, 0⟩
  else if 144 ≤ c ∧ c ≤ 159 then some ⟨[83, 87, 65, 80] ++ digN (c - 143), c - 142, c - 142, 3, true, 0⟩
  else if 160 ≤ c ∧ c ≤ 164 then some ⟨[76, 79, 71] ++ digN (c - 160), c - 158, 0, 375 * (c - 159), false, 0⟩
  else none
def infoN (c : Nat) : InfoN := match famN c with | some x => x | none => rowGet c (lowRows ++ middleRows ++ highRows)
theorem info_ref : ∀ c : Nat, c < 256 → famN c = none → infoN c = if (rowGet c lowRows).name ≠ [] then rowGet c lowRows else if (rowGet c middleRows).name ≠ [] then rowGet c middleRows else rowGet c highRows := by decide +kernel
theorem info_named : ∀ c : Nat, c < 256 → (infoN c).name.isEmpty = !namedN c := by decide +kernel
theorem info_size : ∀ c : Nat, c < 256 → (infoN c).size = szN c := by decide +kernel
end Go.Proofs.YtbicfaiabpcgfaaGreatDoor
namespace Go.Proofs.YtbicfaiabpcgfaaGreatDoor
open Go.RowKit

/-- The slice at 'a' holds the integers 'zs'. -/
def RowAt (q : IntKind) (w : World) (a : Option Addr) (zs : List Int) : Prop :=
  ∀ i (h : i < zs.length), ∃ b o, a = some ⟨b, o, none⟩ ∧ w.cell? ⟨b, o + i, none⟩ = some (.int q zs[i])

theorem RowAt.below {q : IntKind} {w w' : World} {a : Option Addr} {zs : List Int} (h : RowAt q w a zs) (hb : Below w.heap.size w w') : RowAt q w' a zs := fun i hi => by
  obtain ⟨b, o, h1, h2⟩ := h i hi
  exact ⟨b, o, h1, cbel hb h2⟩
theorem RowAt.nil {q : IntKind} {w : World} {a : Option Addr} : RowAt q w a [] := fun i hi => absurd hi (by simp)

/-- What an append onto a slice of the call's own gives, nil or not. -/
theorem run_append_row {P : Program} (w : World) (base : Nat) (t ty e : TypeId) (i : TypeInfo) (z : Value) (bytes : Nat) (ht : P.underlying t = some (.slice e)) (hi : P.info? e = some i) (hz : i.zero = some z)
    (hsize : i.size = 1) (hby : i.bytes = bytes) (hzs : z.cells.size = 1) (v : Value) (n : Nat) (xs : List Value) (hown : w.ownsRow base e 1 v n xs)
    (a : Option Addr) (c : Nat) (hn : a = none → c = 0) (q : IntKind) (zs : List Int) (hr : RowAt q w a zs) (h63 : n + zs.length ≤ maxLen) (hbytes : (n + zs.length) * bytes ≤ 140737488355328) (hbase : base ≤ w.heap.size) :
    ∃ v' w', (Builtin.append_ #[t, t] ty #[v, .slice a zs.length c]).run P w = .ok v' w' ∧ w'.ownsRow base e 1 v' (n + zs.length) (xs ++ zs.map (Value.int q)) ∧ w.grownBy w' v.ownBlock := by
  cases a with
  | none =>
    have h0 : zs = [] := by
      cases zs with
      | nil => rfl
      | cons x l => obtain ⟨b, o, h1, _⟩ := hr 0 (by simp); cases h1
    subst h0
    obtain rfl := hn rfl
    exact ⟨v, w, run_append_owned_none w base t ty e i 1 ht hi v n xs hown, by simpa using hown, World.grownBy.refl _ _⟩
  | some x =>
    obtain ⟨v', w', h1, h2, h3, _⟩ := run_append_own (P := P) (w := w) base t ty e i z 1 bytes ht hi hz hsize hby hzs (by decide) v n xs hown x zs.length c (zs.map (Value.int q)) (by simp) (by
      intro j u hj
      rw [List.getElem?_map] at hj
      obtain ⟨y, hy, rfl⟩ := Option.map_eq_some_iff.1 hj
      obtain ⟨hlt, rfl⟩ := List.getElem?_eq_some_iff.1 hy
      obtain ⟨b, o, h1, h2⟩ := hr j hlt
      cases h1
      rw [Addr.add_lit]
      exact h2) (ints_oneCell _ _) h63 hbytes hbase
    exact ⟨v', w', h1, h2, h3⟩

theorem wpList_append_row {P : Program} (w : World) {ops : Array Oper} {rest : List Oper} {o : Oper} {ac : Act} {Q : Exit → Act → World → Prop} (hgd : o.guard = none) (s x : Operand) (t : TypeId)
    (ho : o.op = .call { callee := .builtin .append, args := #[s, x], argTypes := #[t, t] })
    (base e : TypeId) (i : TypeInfo) (z : Value) (bytes : Nat) (ht : P.underlying t = some (.slice e)) (hi : P.info? e = some i) (hz : i.zero = some z)
    (hsize : i.size = 1) (hby : i.bytes = bytes) (hzs : z.cells.size = 1) (v : Value) (n : Nat) (xs : List Value) (hs : ac.eval s = v) (hown : w.ownsRow base e 1 v n xs)
    (a : Option Addr) (c : Nat) (q : IntKind) (zs : List Int) (hx : ac.eval x = .slice a zs.length c) (hn : a = none → c = 0) (hr : RowAt q w a zs) (h63 : n + zs.length ≤ maxLen) (hbytes : (n + zs.length) * bytes ≤ 140737488355328) (hbase : base ≤ w.heap.size)
    (h : ∀ v' w', w'.ownsRow base e 1 v' (n + zs.length) (xs ++ zs.map (Value.int q)) → w.grownBy w' v.ownBlock → wpList P ops Q rest (ac.put o.dst v') w') : wpList P ops Q (o :: rest) ac w := by
  obtain ⟨v', w', h1, h2, h3⟩ := run_append_row (P := P) w base t o.type e i z bytes ht hi hz hsize hby hzs v n xs hown a c hn q zs hr h63 hbytes hbase
  exact Lib.wpList_append_run w hgd s x t t ho _ _ hs hx v' w' h1 (h v' w' h2 h3)

/-- An owned row of integers can be read. -/
theorem rowAt_own {w : World} {base : Nat} {e : TypeId} {q : IntKind} {v : Value} {n : Nat} {zs : List Int} (h : w.ownsRow base e 1 v n (zs.map (Value.int q))) :
    ∃ a c, v = .slice a zs.length c ∧ RowAt q w a zs ∧ (a = none → c = 0) ∧ (∀ x, a = some x → base ≤ x.block) ∧ n = zs.length := by
  have hlen := h.1
  simp at hlen
  rcases h.2 with ⟨rfl, rfl⟩ | ⟨g, cap, cur, rfl, hg, _⟩
  · have : zs = [] := List.length_eq_zero_iff.1 hlen
    subst this
    exact ⟨none, 0, rfl, RowAt.nil, fun _ => rfl, by simp, rfl⟩
  · refine ⟨_, cap, by rw [hlen], fun i hi => ⟨g, 0, rfl, ?_⟩, by simp, by rintro x ⟨⟩; exact hg, hlen.symm⟩
    have := h.cellAt i (by omega)
    simpa [List.getElem?_eq_getElem hi] using this

end Go.Proofs.YtbicfaiabpcgfaaGreatDoor
namespace Go.Proofs.YtbicfaiabpcgfaaGreatDoor
open Go.RowKit

def limb (N j : Nat) : Nat := N / 2 ^ (64 * j) % 18446744073709551616
def byteAt (N i : Nat) : Nat := N / 256 ^ i % 256
theorem limb_lt (N j : Nat) : limb N j < 18446744073709551616 := Nat.mod_lt _ (by decide)
theorem byteAt_lt (N i : Nat) : byteAt N i < 256 := Nat.mod_lt _ (by decide)
/-- A word as Go holds it. -/
def wordL (N : Nat) : List Int := [limb N 0, limb N 1, limb N 2, limb N 3]
def wordV (N : Nat) : Value := .agg #[.int .u64 (limb N 0), .int .u64 (limb N 1), .int .u64 (limb N 2), .int .u64 (limb N 3)]
/-! A block that holds integers. -/
def Blk (q : IntKind) (w : World) (b : Nat) (T : TypeId) (l : List Int) : Prop := w.heap[b]? = some (.cells (l.map (Value.int q)).toArray T (0, 0))
theorem Blk.cell {q : IntKind} {w : World} {b : Nat} {T : TypeId} {l : List Int} (h : Blk q w b T l) (i : Nat) (hi : i < l.length) : w.cell? ⟨b, i, none⟩ = some (.int q l[i]) := by
  rw [cell_of_row w b i _ T (0, 0) h]; simp [hi]
theorem Blk.frozen {q : IntKind} {w : World} {b : Nat} {T : TypeId} {l : List Int} (h : Blk q w b T l) (i : Nat) : w.frozen? ⟨b, i, none⟩ = false := frozen_of_row w b i _ T h
theorem Blk.lt {q : IntKind} {w : World} {b : Nat} {T : TypeId} {l : List Int} (h : Blk q w b T l) : b < w.heap.size := (Array.getElem?_eq_some_iff.1 h).1
theorem Blk.set {q : IntKind} {w : World} {b : Nat} {T : TypeId} {l : List Int} (h : Blk q w b T l) (i : Nat) (v : Int) : Blk q (w.setCell ⟨b, i, none⟩ (.int q v)) b T (l.set i v) := by
  unfold Blk at *
  rw [heap_setCell_same w b i _ T _ h]
  congr 2
  apply Array.ext'
  simp [List.map_set]
theorem xsetb {a w : World} (h : Below a.heap.size a w) {c i : Nat} (hp : a.heap.size ≤ c) (u : Value) : Below a.heap.size a (w.setCell ⟨c, i, none⟩ u) := h.setCell hp u
theorem Blk.below {q : IntKind} {w w' : World} {b : Nat} {T : TypeId} {l : List Int} (h : Blk q w b T l) (hb : Below w.heap.size w w') : Blk q w' b T l := (hb.block b h.lt).trans h
theorem Blk.new {q : IntKind} (w : World) (T : TypeId) (l : List Int) : Blk q (w.alloc (.cells (l.map (Value.int q)).toArray T)) w.heap.size T l := by
  show (w.heap.push _)[_]? = _
  simp

theorem wordL_get (N j : Nat) (h : j < (wordL N).length) : (wordL N)[j] = limb N j := by
  have : j < 4 := h
  match j, this with
  | 0, _ => rfl
  | 1, _ => rfl
  | 2, _ => rfl
  | 3, _ => rfl
theorem cases32 (k : Nat) (h : k < 32) : k = 0 ∨ k = 1 ∨ k = 2 ∨ k = 3 ∨ k = 4 ∨ k = 5 ∨ k = 6 ∨ k = 7 ∨ k = 8 ∨ k = 9 ∨ k = 10 ∨ k = 11 ∨ k = 12 ∨ k = 13 ∨ k = 14 ∨ k = 15 ∨ k = 16 ∨ k = 17 ∨ k = 18 ∨ k = 19 ∨ k = 20 ∨ k = 21 ∨ k = 22 ∨ k = 23 ∨ k = 24 ∨ k = 25 ∨ k = 26 ∨ k = 27 ∨ k = 28 ∨ k = 29 ∨ k = 30 ∨ k = 31 := by omega
theorem byte_small (N k : Nat) : byteAt N k * 2 ^ (8 * (k % 8)) < 18446744073709551616 := by
  have h1 := byteAt_lt N k
  have h2 : 2 ^ (8 * (k % 8)) ≤ 2 ^ 56 := Nat.pow_le_pow_right (by decide) (by omega)
  have h3 : byteAt N k * 2 ^ (8 * (k % 8)) ≤ 255 * 2 ^ 56 := Nat.mul_le_mul (by omega) h2
  omega
end Go.Proofs.YtbicfaiabpcgfaaGreatDoor
namespace Go.Proofs.YtbicfaiabpcgfaaGreatDoor
open Go.RowKit

/-- W' is W, but for blocks of O and new ones. -/
structure Only (O : Nat → Prop) (W W' : World) : Prop where
  os : W'.os = W.os
  tape : W'.tape = W.tape
  output : W'.output = W.output
  size : W.heap.size ≤ W'.heap.size
  same : ∀ k, k < W.heap.size → ¬ O k → W'.heap[k]? = W.heap[k]?
/-- The blocks of O are in W' as in W. -/
structure Keep (O : Nat → Prop) (W W' : World) : Prop where
  size : W.heap.size ≤ W'.heap.size
  same : ∀ k, k < W.heap.size → O k → W'.heap[k]? = W.heap[k]?

theorem Only.refl (O : Nat → Prop) (W : World) : Only O W W := ⟨rfl, rfl, rfl, Nat.le_refl _, fun _ _ _ => rfl⟩
theorem Only.trans {O : Nat → Prop} {A B C : World} (h : Only O A B) (k : Only O B C) : Only O A C :=
  ⟨k.os.trans h.os, k.tape.trans h.tape, k.output.trans h.output, Nat.le_trans h.size k.size, fun i hi hn => (k.same i (Nat.lt_of_lt_of_le hi h.size) hn).trans (h.same i hi hn)⟩
theorem Only.mono {O O' : Nat → Prop} {W W' : World} (h : Only O W W') (hO : ∀ k, k < W.heap.size → O k → O' k) : Only O' W W' := ⟨h.os, h.tape, h.output, h.size, fun k hk hn => h.same k hk (fun ho => hn (hO k hk ho))⟩
theorem Only.drew {O : Nat → Prop} {A W : World} (h : Only O A W) : Only O A W.drew := h.trans ⟨rfl, rfl, rfl, Nat.le_refl _, fun _ _ _ => rfl⟩
theorem Only.putObj {O : Nat → Prop} {A W : World} (h : Only O A W) (l : Nat) (o : Obj) (hl : O l) : Only O A (W.putObj l o) :=
  h.trans ⟨rfl, rfl, rfl, by simp, fun k _ hn => World.putObj_heap_other (fun e => hn (e ▸ hl))⟩
theorem Only.setCell {O : Nat → Prop} {A W : World} (h : Only O A W) (p : Addr) (v : Value) (hl : O p.block) : Only O A (W.setCell p v) :=
  h.trans ⟨rfl, rfl, rfl, by simp [World.setCell], fun k _ hn => Below.heap_setCell W p v k (fun e => hn (e ▸ hl))⟩
theorem Only.below {O : Nat → Prop} {B : Nat} {w W W' : World} (h : Below B w W) (k : Only O W W') (hB : B ≤ W.heap.size) (hO : ∀ i, O i → B ≤ i) : Below B w W' :=
  h.trans ⟨k.os, k.tape, k.output, k.size, fun i hi => k.same i (Nat.lt_of_lt_of_le hi hB) (fun ho => by have := hO i ho; omega)⟩
theorem Below.only {O : Nat → Prop} {W W' : World} (h : Below W.heap.size W W') : Only O W W' := ⟨h.os, h.tape, h.output, h.size, fun k hk _ => h.block k hk⟩
theorem Keep.refl (O : Nat → Prop) (W : World) : Keep O W W := ⟨Nat.le_refl _, fun _ _ _ => rfl⟩
theorem Only.cell {O : Nat → Prop} {W W' : World} (h : Only O W W') {a : Addr} {v : Value} (hc : W.cell? a = some v) (ho : ¬ O a.block) : W'.cell? a = some v :=
  (World.cell?_of_block (h.same a.block (cell_lt hc) ho)).trans hc
theorem Only.frozen {O : Nat → Prop} {W W' : World} (h : Only O W W') {a : Addr} {v : Value} {b : Bool} (hc : W.cell? a = some v) (hf : W.frozen? a = b) (ho : ¬ O a.block) : W'.frozen? a = b :=
  (World.frozen?_of_block (h.same a.block (cell_lt hc) ho)).trans hf


end Go.Proofs.YtbicfaiabpcgfaaGreatDoor
namespace Go.Proofs.YtbicfaiabpcgfaaGreatDoor
open Go.RowKit

theorem Blk.only {q : IntKind} {w w' : World} {b : Nat} {T : TypeId} {l : List Int} {O : Nat → Prop} (h : Blk q w b T l) (ho : Only O w w') (hb : ¬ O b) : Blk q w' b T l := (ho.same b h.lt hb).trans h

theorem wpList_load_blk {P : Program} {ops : Array Oper} {rest : List Oper} {o : Oper} {a : Act} {w : World} {Q : Exit → Act → World → Prop} (hgd : o.guard = none) (ty : TypeId) (x : Operand) (ho : o.op = .load ty x)
    (b : Nat) (hx : a.eval x = .pointer (some ⟨b, 0, none⟩)) (q : IntKind) (T : TypeId) (l : List Int) (n : Nat) (e : TypeId) (hB : Blk q w b T l) (hu : P.underlying ty = some (.array n e)) (hi : (P.info? ty).map (·.size) = some l.length)
    (h : wpList P ops Q rest (a.put o.dst (.agg (l.map (Value.int q)).toArray)) w) : wpList P ops Q (o :: rest) a w :=
  wpList_load_row hgd ty x ho b hx T _ (0, 0) _ hB hu rfl (by simpa using hi) h

theorem setCells_heap (b : Nat) : ∀ (vs : List Value) (o : Nat) (w : World) (k : Nat), k ≠ b → (w.setCells b o vs).heap[k]? = w.heap[k]?
  | [], _, _, _, _ => rfl
  | v :: vs, o, w, k, h => by
    rw [World.setCells, setCells_heap b vs (o + 1) _ k h]
    exact Below.heap_setCell w ⟨b, o, none⟩ v k h
theorem setCells_rest (b : Nat) : ∀ (vs : List Value) (o : Nat) (w : World), (w.setCells b o vs).os = w.os ∧ (w.setCells b o vs).tape = w.tape ∧ (w.setCells b o vs).output = w.output ∧ (w.setCells b o vs).heap.size = w.heap.size
  | [], _, _ => ⟨rfl, rfl, rfl, rfl⟩
  | v :: vs, o, w => by
    obtain ⟨h1, h2, h3, h4⟩ := setCells_rest b vs (o + 1) (w.setCell ⟨b, o, none⟩ v)
    exact ⟨h1, h2, h3, h4.trans (by simp [World.setCell])⟩
theorem setCells_only (b o : Nat) (vs : List Value) (w : World) : Only (· = b) w (w.setCells b o vs) := by
  obtain ⟨h1, h2, h3, h4⟩ := setCells_rest b vs o w
  exact ⟨h1, h2, h3, Nat.le_of_eq h4.symm, fun k _ hk => setCells_heap b vs o w k hk⟩
theorem setCells_blk (b : Nat) (T : TypeId) : ∀ (vs pre rest : List Value) (w : World), w.heap[b]? = some (.cells (pre ++ rest).toArray T (0, 0)) → vs.length = rest.length → (w.setCells b pre.length vs).heap[b]? = some (.cells (pre ++ vs).toArray T (0, 0))
  | [], pre, rest, w, h, hl => by
    have : rest = [] := List.length_eq_zero_iff.1 (by simpa using hl.symm)
    subst this
    exact h
  | v :: vs, pre, r :: rest, w, h, hl => by
    have h2 : (w.setCell ⟨b, pre.length, none⟩ v).heap[b]? = some (.cells ((pre ++ [v]) ++ rest).toArray T (0, 0)) := by
      rw [heap_setCell_same w b pre.length _ T _ h]
      congr 2
      apply Array.ext'
      simp
    have := setCells_blk b T vs (pre ++ [v]) rest (w.setCell ⟨b, pre.length, none⟩ v) h2 (by simpa using hl)
    rw [World.setCells]
    simpa using this

theorem Blk.there {q : IntKind} {w : World} {b : Nat} {T : TypeId} {l : List Int} (h : Blk q w b T l) : w.there b 0 l.length := fun j hj => ⟨by rw [Nat.zero_add, h.cell j hj]; rfl, by rw [Nat.zero_add]; exact h.frozen j⟩

/-- A whole array is stored into its block. -/
theorem wp_store_blk {P : Program} {o : Oper} {a : Act} {w : World} {K : Act → World → Prop} {Q : Exit → Act → World → Prop} (ty : TypeId) (x y : Operand) (ho : o.op = .store ty x y)
    (b : Nat) (hx : a.eval x = .pointer (some ⟨b, 0, none⟩)) (q : IntKind) (T : TypeId) (l l' : List Int) (hB : Blk q w b T l) (hy : a.eval y = .agg (l'.map (Value.int q)).toArray) (hl : l'.length = l.length) (hi : (P.info? ty).map (·.size) = some l'.length)
    (h : ∀ w', Blk q w' b T l' → Only (· = b) w w' → K (a.put o.dst undef) w') : o.wp P a w K Q := by
  refine wp_store_mid ty x y ho b 0 _ hx hy (by simpa [hl] using hB.there) (by simpa using hi) (all_oneCell_toArray (by intro v hv; rw [List.mem_map] at hv; obtain ⟨z, _, rfl⟩ := hv; rfl)) (h _ ?_ (setCells_only _ _ _ _))
  have := setCells_blk b T (l'.map (Value.int q)) [] (l.map (Value.int q)) w (by simpa [Blk] using hB) (by simp [hl])
  simpa [Blk] using this
theorem wpList_store_blk {P : Program} {ops : Array Oper} {rest : List Oper} {o : Oper} {a : Act} {w : World} {Q : Exit → Act → World → Prop} (hgd : o.guard = none) (ty : TypeId) (x y : Operand) (ho : o.op = .store ty x y)
    (b : Nat) (hx : a.eval x = .pointer (some ⟨b, 0, none⟩)) (q : IntKind) (T : TypeId) (l l' : List Int) (hB : Blk q w b T l) (hy : a.eval y = .agg (l'.map (Value.int q)).toArray) (hl : l'.length = l.length) (hi : (P.info? ty).map (·.size) = some l'.length)
    (h : ∀ w', Blk q w' b T l' → Only (· = b) w w' → wpList P ops Q rest (a.put o.dst undef) w') : wpList P ops Q (o :: rest) a w :=
  wpList_plain hgd fun _ hK => wp_store_blk ty x y ho b hx q T l l' hB hy hl hi fun w' h1 h2 => hK _ _ (h w' h1 h2)

end Go.Proofs.YtbicfaiabpcgfaaGreatDoor
