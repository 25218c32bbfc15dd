/- Texts of this claim, merged; no condition. -/
import Derived.Test.YtbicfaiabpcgfaaGreatDoorD07
set_option linter.all false
namespace Go.Proofs.YtbicfaiabpcgfaaGreatDoor
open Go.RowKit

theorem entI_get (q : IntKind) : ∀ (l : List (Int × Value)) (i j : Nat) (h : j < l.length), (entI q i l)[j]? = some { key := .int q l[j].1, val := l[j].2, born := i + j }
  | x :: l, i, 0, _ => by simp [entI]
  | x :: l, i, j + 1, h => by
    rw [entI, List.getElem?_cons_succ, entI_get q l (i + 1) j (by simpa using h)]
    simp; omega
theorem entI_len (q : IntKind) : ∀ (l : List (Int × Value)) (i : Nat), (entI q i l).length = l.length
  | [], _ => rfl
  | x :: l, i => by rw [entI, List.length_cons, entI_len q l (i + 1), List.length_cons]
theorem entI_mem {q : IntKind} {l : List (Int × Value)} {e : MapEntry} (h : e ∈ entI q 0 l) : ∃ j, ∃ hj : j < l.length, e = { key := .int q l[j].1, val := l[j].2, born := j } := by
  obtain ⟨j, hj, he⟩ := List.getElem_of_mem h
  rw [entI_len] at hj
  have h2 := entI_get q l 0 j hj
  rw [List.getElem?_eq_getElem (by rw [entI_len]; exact hj), he] at h2
  refine ⟨j, hj, ?_⟩
  simpa using h2
theorem entI_find (q : IntKind) (s : Nat) : ∀ (l : List (Int × Value)) (i j : Nat) (h : j < l.length), s = i + j → (entI q i l).find? (fun e => e.born == s) = some { key := .int q l[j].1, val := l[j].2, born := s }
  | x :: l, i, 0, _, e => by subst e; simp [entI]
  | x :: l, i, j + 1, h, e => by
    have hne : (i == s) = false := by rw [beq_eq_false_iff_ne]; omega
    rw [entI, List.find?_cons]
    simp only [hne]
    rw [entI_find q s l (i + 1) j (by simpa using h) (by omega)]
    simp

/-- The iterator over the map in block bm that has handed out the entries of these places. -/
def itO (bm n : Nat) (seen : List Nat) : Obj := .mapIter (some bm) n seen.toArray n
/-- A place that has not been handed out comes, or none is left. -/
theorem next_mapI {P : Program} {q : IntKind} {l : List (Int × Value)} {W : World} {it bm : Nat} {seen : List Nat} (ty : TypeId) (hi : W.heap[it]? = some (itO bm l.length seen)) (hb : W.heap[bm]? = some (mapI q l)) :
    ((∀ j, j < l.length → j ∈ seen) ∧ (Instr.next (.pointer (some ⟨it, 0, none⟩)) false ty).run P W = .ok (.tuple #[.bool false]) W) ∨
    ∃ j, ∃ hj : j < l.length, j ∉ seen ∧ ∃ W', (Instr.next (.pointer (some ⟨it, 0, none⟩)) false ty).run P W = .ok (.tuple #[.bool true, .int q l[j].1, l[j].2]) W' ∧ Only (· = it) W W' ∧ W'.heap[it]? = some (itO bm l.length (seen ++ [j])) := by
  unfold mapI at hb
  unfold itO at hi
  have hlt : it < W.heap.size := (Array.getElem?_eq_some_iff.1 hi).1
  have hbornlt : ∀ e ∈ entI q 0 l, e.born < l.length := fun e he => by obtain ⟨j, hj, rfl⟩ := entI_mem he; exact hj
  have htest : (!seen.toArray.isEmpty && !(entI q 0 l).toArray.isEmpty && (entI q 0 l).toArray.all (fun x => decide (x.born ≥ l.length))) = false := by
    cases hL : entI q 0 l with
    | nil => simp
    | cons e r =>
      have := hbornlt e (by rw [hL]; simp)
      have h2 : decide (e.born ≥ l.length) = false := decide_eq_false (by omega)
      simp [h2]
  simp only [Instr.next, getObj, setObj, Sem.run_bind, Sem.run, hi, hb, Result.andThen, htest, Bool.false_eq_true, if_false]
  generalize hL : (entI q 0 l).toArray.filter (fun e => !seen.toArray.contains e.born) = L
  have hmem : ∀ x ∈ L.toList, x ∈ entI q 0 l ∧ x.born ∉ seen := fun x hx => by
    rw [← hL] at hx
    simp at hx
    exact hx
  have e1 : L.filter (fun x => decide (x.born < l.length)) = L := Array.filter_eq_self.2 fun x hx => by simpa using hbornlt x (hmem x (by simpa using hx)).1
  have e2 : L.filter (fun x => decide (x.born ≥ l.length)) = #[] := by
    rw [Array.filter_eq_empty_iff]
    intro x hx
    have := hbornlt x (hmem x (by simpa using hx)).1
    simp; omega
  simp only [e1, e2, Array.append_empty]
  by_cases h0 : L.size = 0
  · left
    have hLe : L = #[] := Array.eq_empty_of_size_eq_zero h0
    refine ⟨fun j hj => ?_, ?_⟩
    · by_cases hs : j ∈ seen
      · exact hs
      · have hin : ({ key := .int q l[j].1, val := l[j].2, born := j } : MapEntry) ∈ L := by
          rw [← hL, Array.mem_filter]
          refine ⟨?_, by simpa using hs⟩
          have := entI_get q l 0 j hj
          rw [Nat.zero_add] at this
          simpa using List.mem_of_getElem? this
        rw [hLe] at hin
        simp at hin
    · subst hLe
      simp [choose, Sem.run, Question.forced]
  · right
    have hne : L.isEmpty = false := by simp [Array.isEmpty, h0]
    simp only [hne, Bool.false_eq_true, if_false, Array.empty_append, Array.size_map]
    obtain ⟨k, W1, hk, hO, hh, hrun⟩ : ∃ (k : Nat) (W1 : World), k < L.size ∧ Only (fun _ => False) W W1 ∧ W1.heap = W.heap ∧ (choose (Question.mapNext L.size)).run P W = .ok k W1 := by
      by_cases hf : L.size ≤ 1
      · exact ⟨0, W, by omega, Only.refl _ _, rfl, by simp [choose, Sem.run, Question.forced, hf]⟩
      · exact ⟨_, W.drew, Nat.mod_lt _ (by omega), ⟨rfl, rfl, rfl, Nat.le_refl _, fun _ _ _ => rfl⟩, rfl, by
          simp only [choose, Sem.run, Question.forced, decide_eq_true_eq, hf, if_false, Question.cut]
          rfl⟩
    obtain ⟨hin, hns⟩ := hmem L[k] (by simp)
    obtain ⟨j, hj, he⟩ := entI_mem hin
    refine ⟨j, hj, by rw [he] at hns; exact hns, W1.putObj it (itO bm l.length (seen ++ [j])), ?_, ?_, World.putObj_heap_same (by rw [hh]; exact hlt)⟩
    · simp only [hrun, Array.getElem?_map, Array.getElem?_eq_getElem hk, Option.map_some, Sem.run_bind, Sem.run, Result.andThen, he]
      simp [itO, hh, hi, World.putObj]
    · exact (hO.mono fun k _ h => h.elim).putObj it _ rfl
theorem entry_mapI {P : Program} {q : IntKind} {l : List (Int × Value)} {W : World} {it bm j : Nat} {seen : List Nat} (hj : j < l.length) (hi : W.heap[it]? = some (itO bm l.length (seen ++ [j]))) (hb : W.heap[bm]? = some (mapI q l)) :
    (Instr.entry (.pointer (some ⟨it, 0, none⟩))).run P W = .ok (.tuple #[.int q l[j].1, l[j].2]) W := by
  unfold mapI at hb
  unfold itO at hi
  have hf := entI_find q j l 0 j hj (by omega)
  simp only [Instr.entry, getObj, Sem.run_bind, Sem.run, hi, hb, Result.andThen]
  simp [hf, hb, Sem.run, Result.andThen]
theorem range_mapI {P : Program} {q : IntKind} {l : List (Int × Value)} {W : World} {bm : Nat} {t k e : TypeId} (ht : P.underlying t = some (.map k e)) (hb : W.heap[bm]? = some (mapI q l)) :
    (Instr.range t (.map (some bm))).run P W = .ok (.pointer (some ⟨W.heap.size, 0, none⟩)) (W.alloc (itO bm l.length [])) := by
  unfold mapI at hb
  simp [Instr.range, run_underlying ht, Sem.run_bind, getObj, Sem.run, hb, itO, Result.andThen]
/-- How many have come. -/
def seenAt (W : World) (it : Nat) : Nat := match W.heap[it]? with | some (.mapIter _ _ s _) => s.size | _ => 0
theorem seenAt_eq {W : World} {it bm n : Nat} {seen : List Nat} (h : W.heap[it]? = some (itO bm n seen)) : seenAt W it = seen.length := by
  unfold seenAt; rw [h]; simp [itO]
/-- All places have come: what came is the whole, in some order. -/
theorem perm_seen {n : Nat} {seen : List Nat} (hn : seen.Nodup) (hl : ∀ j ∈ seen, j < n) (ha : ∀ j, j < n → j ∈ seen) : seen.Perm (List.range n) := by
  refine (List.perm_ext_iff_of_nodup hn List.nodup_range).2 fun j => ?_
  rw [List.mem_range]
  exact ⟨hl j, ha j⟩
theorem seen_le {n : Nat} {seen : List Nat} (hn : seen.Nodup) (hl : ∀ j ∈ seen, j < n) : seen.length ≤ n := by
  have := (List.nodup_range (n := n)).length_le_of_subset (l₂ := List.range n) (fun _ h => h)
  have h2 : seen.length ≤ (List.range n).length := hn.length_le_of_subset fun j hj => List.mem_range.2 (hl j hj)
  simpa using h2
theorem seen_lt {n : Nat} {seen : List Nat} (hn : seen.Nodup) (hl : ∀ j ∈ seen, j < n) {j : Nat} (hj : j < n) (h : j ∉ seen) : seen.length < n := by
  have := seen_le (seen := j :: seen) (List.nodup_cons.2 ⟨h, hn⟩) (by
    intro i hi
    rcases List.mem_cons.1 hi with rfl | hi
    · exact hj
    · exact hl i hi)
  simp at this
  omega
end Go.Proofs.YtbicfaiabpcgfaaGreatDoor
namespace Go.Proofs.YtbicfaiabpcgfaaGreatDoor
open Go.RowKit

/-- The entries of a map that was filled in the order of the list. -/
def entG : Nat → List (Value × Value) → List MapEntry
  | _, [] => []
  | i, x :: l => { key := x.1, val := x.2, born := i } :: entG (i + 1) l
def mapG (l : List (Value × Value)) : Obj := .map (entG 0 l).toArray l.length
theorem entG_append : ∀ (l l' : List (Value × Value)) (i : Nat), entG i (l ++ l') = entG i l ++ entG (i + l.length) l'
  | [], l', i => by simp [entG]
  | x :: l, l', i => by simp only [List.cons_append, entG, entG_append l l' (i + 1), List.length_cons]; rw [show i + 1 + l.length = i + (l.length + 1) by omega]
theorem checkKey_str' {P : Program} {k : TypeId} (hk : P.underlying k = some .string) (b : Bool) (s : ByteArray) (m : Nat) (w : World) : (Instr.checkKey b (m + 1) k (.string s)).run P w = .ok () w := by
  simp [Instr.checkKey, run_underlying hk, Sem.run_bind]
/-- A new entry with a text as its key. -/
theorem run_putS {P : Program} {t k e : TypeId} (ht : P.underlying t = some (.map k e)) (hk : P.underlying k = some .string) (s : ByteArray) (v : Value) (w : World) (b : Nat) (l : List (Value × Value)) (hb : w.heap[b]? = some (mapG l))
    (hn : Instr.findNow .string (.string s) (entG 0 l) 0 = some none) : (Instr.mapUpdate t (.map (some b)) (.string s) v).run P w = .ok () (w.putObj b (mapG (l ++ [(.string s, v)]))) := by
  unfold mapG at hb
  have hc : (Instr.checkKey false 10000 k (.string s)).run P w = .ok () w := checkKey_str' hk false s 9999 w
  have hf : (Instr.findKey k (.string s) (entG 0 l)).run P w = .ok none w := by
    simp [Instr.findKey, run_underlying hk, Sem.run_bind, hn]
  simp only [Instr.mapUpdate, run_underlying ht, Sem.run_bind, Result.andThen_ok, getObj, setObj, Sem.run, hb, hc, hf]
  show Result.ok () (w.putObj b _) = _
  congr 2
  simp [mapG, entG_append, entG]
theorem entG_get : ∀ (l : List (Value × Value)) (i j : Nat) (h : j < l.length), (entG i l)[j]? = some { key := l[j].1, val := l[j].2, born := i + j }
  | x :: l, i, 0, _ => by simp [entG]
  | x :: l, i, j + 1, h => by
    rw [entG, List.getElem?_cons_succ, entG_get l (i + 1) j (by simpa using h)]
    simp; omega
theorem entG_len : ∀ (l : List (Value × Value)) (i : Nat), (entG i l).length = l.length
  | [], _ => rfl
  | x :: l, i => by rw [entG, List.length_cons, entG_len l (i + 1), List.length_cons]
theorem entG_mem {l : List (Value × Value)} {e : MapEntry} (h : e ∈ entG 0 l) : ∃ j, ∃ hj : j < l.length, e = { key := l[j].1, val := l[j].2, born := j } := by
  obtain ⟨j, hj, he⟩ := List.getElem_of_mem h
  rw [entG_len] at hj
  have h2 := entG_get l 0 j hj
  rw [List.getElem?_eq_getElem (by rw [entG_len]; exact hj), he] at h2
  refine ⟨j, hj, ?_⟩
  simpa using h2
theorem entG_find (s : Nat) : ∀ (l : List (Value × Value)) (i j : Nat) (h : j < l.length), s = i + j → (entG i l).find? (fun e => e.born == s) = some { key := l[j].1, val := l[j].2, born := s }
  | x :: l, i, 0, _, e => by subst e; simp [entG]
  | x :: l, i, j + 1, h, e => by
    have hne : (i == s) = false := by rw [beq_eq_false_iff_ne]; omega
    rw [entG, List.find?_cons]
    simp only [hne]
    rw [entG_find s l (i + 1) j (by simpa using h) (by omega)]
    simp

/-- A place that has not been handed out comes, or none is left. -/
theorem next_mapG {P : Program} {l : List (Value × Value)} {W : World} {it bm : Nat} {seen : List Nat} (ty : TypeId) (hi : W.heap[it]? = some (itO bm l.length seen)) (hb : W.heap[bm]? = some (mapG l)) :
    ((∀ j, j < l.length → j ∈ seen) ∧ (Instr.next (.pointer (some ⟨it, 0, none⟩)) false ty).run P W = .ok (.tuple #[.bool false]) W) ∨
    ∃ j, ∃ hj : j < l.length, j ∉ seen ∧ ∃ W', (Instr.next (.pointer (some ⟨it, 0, none⟩)) false ty).run P W = .ok (.tuple #[.bool true, l[j].1, l[j].2]) W' ∧ Only (· = it) W W' ∧ W'.heap[it]? = some (itO bm l.length (seen ++ [j])) := by
  unfold mapG at hb
  unfold itO at hi
  have hlt : it < W.heap.size := (Array.getElem?_eq_some_iff.1 hi).1
  have hbornlt : ∀ e ∈ entG 0 l, e.born < l.length := fun e he => by obtain ⟨j, hj, rfl⟩ := entG_mem he; exact hj
  have htest : (!seen.toArray.isEmpty && !(entG 0 l).toArray.isEmpty && (entG 0 l).toArray.all (fun x => decide (x.born ≥ l.length))) = false := by
    cases hL : entG 0 l with
    | nil => simp
    | cons e r =>
      have := hbornlt e (by rw [hL]; simp)
      have h2 : decide (e.born ≥ l.length) = false := decide_eq_false (by omega)
      simp [h2]
  simp only [Instr.next, getObj, setObj, Sem.run_bind, Sem.run, hi, hb, Result.andThen, htest, Bool.false_eq_true, if_false]
  generalize hL : (entG 0 l).toArray.filter (fun e => !seen.toArray.contains e.born) = L
  have hmem : ∀ x ∈ L.toList, x ∈ entG 0 l ∧ x.born ∉ seen := fun x hx => by
    rw [← hL] at hx
    simp at hx
    exact hx
  have e1 : L.filter (fun x => decide (x.born < l.length)) = L := Array.filter_eq_self.2 fun x hx => by simpa using hbornlt x (hmem x (by simpa using hx)).1
  have e2 : L.filter (fun x => decide (x.born ≥ l.length)) = #[] := by
    rw [Array.filter_eq_empty_iff]
    intro x hx
    have := hbornlt x (hmem x (by simpa using hx)).1
    simp; omega
  simp only [e1, e2, Array.append_empty]
  by_cases h0 : L.size = 0
  · left
    have hLe : L = #[] := Array.eq_empty_of_size_eq_zero h0
    refine ⟨fun j hj => ?_, ?_⟩
    · by_cases hs : j ∈ seen
      · exact hs
      · have hin : ({ key := l[j].1, val := l[j].2, born := j } : MapEntry) ∈ L := by
          rw [← hL, Array.mem_filter]
          refine ⟨?_, by simpa using hs⟩
          have := entG_get l 0 j hj
          rw [Nat.zero_add] at this
          simpa using List.mem_of_getElem? this
        rw [hLe] at hin
        simp at hin
    · subst hLe
      simp [choose, Sem.run, Question.forced]
  · right
    have hne : L.isEmpty = false := by simp [Array.isEmpty, h0]
    simp only [hne, Bool.false_eq_true, if_false, Array.empty_append, Array.size_map]
    obtain ⟨k, W1, hk, hO, hh, hrun⟩ : ∃ (k : Nat) (W1 : World), k < L.size ∧ Only (fun _ => False) W W1 ∧ W1.heap = W.heap ∧ (choose (Question.mapNext L.size)).run P W = .ok k W1 := by
      by_cases hf : L.size ≤ 1
      · exact ⟨0, W, by omega, Only.refl _ _, rfl, by simp [choose, Sem.run, Question.forced, hf]⟩
      · exact ⟨_, W.drew, Nat.mod_lt _ (by omega), ⟨rfl, rfl, rfl, Nat.le_refl _, fun _ _ _ => rfl⟩, rfl, by
          simp only [choose, Sem.run, Question.forced, decide_eq_true_eq, hf, if_false, Question.cut]
          rfl⟩
    obtain ⟨hin, hns⟩ := hmem L[k] (by simp)
    obtain ⟨j, hj, he⟩ := entG_mem hin
    refine ⟨j, hj, by rw [he] at hns; exact hns, W1.putObj it (itO bm l.length (seen ++ [j])), ?_, ?_, World.putObj_heap_same (by rw [hh]; exact hlt)⟩
    · simp only [hrun, Array.getElem?_map, Array.getElem?_eq_getElem hk, Option.map_some, Sem.run_bind, Sem.run, Result.andThen, he]
      simp [itO, hh, hi, World.putObj]
    · exact (hO.mono fun k _ h => h.elim).putObj it _ rfl
theorem entry_mapG {P : Program} {l : List (Value × Value)} {W : World} {it bm j : Nat} {seen : List Nat} (hj : j < l.length) (hi : W.heap[it]? = some (itO bm l.length (seen ++ [j]))) (hb : W.heap[bm]? = some (mapG l)) :
    (Instr.entry (.pointer (some ⟨it, 0, none⟩))).run P W = .ok (.tuple #[l[j].1, l[j].2]) W := by
  unfold mapG at hb
  unfold itO at hi
  have hf := entG_find j l 0 j hj (by omega)
  simp only [Instr.entry, getObj, Sem.run_bind, Sem.run, hi, hb, Result.andThen]
  simp [hf, hb, Sem.run, Result.andThen]
theorem range_mapG {P : Program} {l : List (Value × Value)} {W : World} {bm : Nat} {t k e : TypeId} (ht : P.underlying t = some (.map k e)) (hb : W.heap[bm]? = some (mapG l)) :
    (Instr.range t (.map (some bm))).run P W = .ok (.pointer (some ⟨W.heap.size, 0, none⟩)) (W.alloc (itO bm l.length [])) := by
  unfold mapG at hb
  simp [Instr.range, run_underlying ht, Sem.run_bind, getObj, Sem.run, hb, itO, Result.andThen]
end Go.Proofs.YtbicfaiabpcgfaaGreatDoor
