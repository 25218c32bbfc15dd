/- Texts of this claim, merged; no condition. -/
import Derived.Test.YtijkdabmegbcjaaGreatDoorU03
import Derived.Test.YtijkdabmegbcjaaGreatDoorU00
import Derived.Test.YtijkdabmegbcjaaGreatDoorShelf
import Derived.Sort.OwnSortedInts
set_option linter.all false
namespace Go.Proofs.YtijkdabmegbcjaaGreatDoor
open Go.RowKit

/-- An entry: key, value, stamp. -/
def entQ (q : IntKind) (e : Int × Value × Nat) : MapEntry := { key := .int q e.1, val := e.2.1, born := e.2.2 }
def mapQ (q : IntKind) (E : List (Int × Value × Nat)) (clk : Nat) : Obj := .map (E.map (entQ q)).toArray clk
theorem findNow_Q (q : IntKind) (n : Int) : ∀ (E : List (Int × Value × Nat)) (j : Nat), ∃ r, Instr.findNow (.int q) (.int q n) (E.map (entQ q)) j = some r ∧
    ((r = none ∧ ∀ e ∈ E, e.1 ≠ n) ∨ ∃ d, ∃ h : d < E.length, r = some (j + d, E[d].2.1) ∧ E[d].1 = n ∧ ∀ i (hi : i < d), (E[i]'(by omega)).1 ≠ n)
  | [], j => ⟨none, rfl, .inl ⟨rfl, by simp⟩⟩
  | e :: E, j => by
    by_cases h : n = e.1
    · refine ⟨some (j, e.2.1), by simp [entQ, Instr.findNow, Instr.sameNow, h], .inr ⟨0, by simp, rfl, h.symm, fun i hi => absurd hi (by omega)⟩⟩
    · obtain ⟨r, h1, h2⟩ := findNow_Q q n E (j + 1)
      have hb : (n == e.1) = false := by simpa using h
      refine ⟨r, by simp [entQ, Instr.findNow, Instr.sameNow, hb]; exact h1, ?_⟩
      rcases h2 with ⟨h2, h3⟩ | ⟨d, hd, h2, h3, h4⟩
      · refine .inl ⟨h2, fun x hx => ?_⟩
        rcases List.mem_cons.1 hx with rfl | hx
        · exact fun e => h e.symm
        · exact h3 x hx
      · refine .inr ⟨d + 1, by simpa using hd, by rw [h2]; simp; omega, by simpa using h3, fun i hi => ?_⟩
        match i, hi with
        | 0, _ => exact fun e => h e.symm
        | i + 1, hi => simpa using h4 i (by omega)
theorem findKey_Q {P : Program} {k : TypeId} {q : IntKind} (hk : P.underlying k = some (.int q)) (n : Int) (E : List (Int × Value × Nat)) (w : World) {r : Option (Nat × Value)} (h : Instr.findNow (.int q) (.int q n) (E.map (entQ q)) 0 = some r) :
    (Instr.findKey k (.int q n) (E.map (entQ q))).run P w = .ok r w := by
  simp [Instr.findKey, run_underlying hk, Sem.run_bind, h]
def valQ (n : Int) (E : List (Int × Value × Nat)) : Option Value := (E.find? fun e => e.1 == n).map (·.2.1)
theorem valQ_none {n : Int} {E : List (Int × Value × Nat)} (h : ∀ e ∈ E, e.1 ≠ n) : valQ n E = none := by
  unfold valQ
  rw [List.find?_eq_none.2 fun e he => by simpa using h e he]; rfl
theorem valQ_get {n : Int} {E : List (Int × Value × Nat)} {d : Nat} (hd : d < E.length) (h : E[d].1 = n) (h2 : ∀ i (hi : i < d), (E[i]'(by omega)).1 ≠ n) : valQ n E = some E[d].2.1 := by
  unfold valQ
  rw [show E.find? (fun e => e.1 == n) = some E[d] from List.find?_eq_some_iff_getElem.2 ⟨by simpa using h, d, hd, rfl, fun i hi => by have := h2 i hi; simpa using this⟩]; rfl
section
variable {P : Program} {q : IntKind} {w : World} {b : Nat} {E : List (Int × Value × Nat)} {clk : Nat}
theorem run_lookQ {t k e : TypeId} (ht : P.underlying t = some (.map k e)) (hk : P.underlying k = some (.int q)) {z : Value} (hz : ∀ w, (zeroValue e).run P w = .ok z w) (n : Int) (c : Bool) (hb : w.heap[b]? = some (mapQ q E clk)) :
    (Instr.lookup t (.map (some b)) (.int q n) c).run P w = .ok (if c then .tuple #[(valQ n E).getD z, .bool (valQ n E).isSome] else (valQ n E).getD z) w := by
  obtain ⟨r, h1, h2⟩ := findNow_Q q n E 0
  unfold mapQ at hb
  simp only [Instr.lookup, run_underlying ht, Sem.run_bind, Result.andThen_ok, getObj, Sem.run, hb]
  simp [checkKey_int hk, findKey_Q hk n E w h1]
  rcases h2 with ⟨rfl, h3⟩ | ⟨d, hd, rfl, h3, h4⟩
  · rw [valQ_none h3]; simp [hz]
  · rw [valQ_get hd h3 h4]; simp
/-- An entry more. -/
theorem run_putQ_new {t k e : TypeId} (ht : P.underlying t = some (.map k e)) (hk : P.underlying k = some (.int q)) (n : Int) (v : Value) (hb : w.heap[b]? = some (mapQ q E clk)) (hn : ∀ e ∈ E, e.1 ≠ n) :
    (Instr.mapUpdate t (.map (some b)) (.int q n) v).run P w = .ok () (w.putObj b (mapQ q (E ++ [(n, v, clk)]) (clk + 1))) := by
  obtain ⟨r, h1, h2⟩ := findNow_Q q n E 0
  have hr : r = none := by
    rcases h2 with ⟨h2, -⟩ | ⟨d, hd, -, h3, -⟩
    · exact h2
    · exact absurd h3 (hn _ (List.getElem_mem hd))
  subst hr
  unfold mapQ at hb
  simp only [Instr.mapUpdate, run_underlying ht, Sem.run_bind, Result.andThen_ok, getObj, setObj, Sem.run, hb, checkKey_int hk, findKey_Q hk n E w h1]
  show Result.ok () (w.putObj b _) = _
  congr 2
  simp [mapQ, entQ]
/-- The value of an entry laid anew. -/
theorem run_putQ_old {t k e : TypeId} (ht : P.underlying t = some (.map k e)) (hk : P.underlying k = some (.int q)) (n : Int) (v : Value) (hb : w.heap[b]? = some (mapQ q E clk)) {d : Nat} (hd : d < E.length) (h3 : E[d].1 = n) (h4 : ∀ i (hi : i < d), (E[i]'(by omega)).1 ≠ n) :
    (Instr.mapUpdate t (.map (some b)) (.int q n) v).run P w = .ok () (w.putObj b (mapQ q (E.set d (n, v, E[d].2.2)) clk)) := by
  obtain ⟨r, h1, h2⟩ := findNow_Q q n E 0
  have hr : r = some (d, E[d].2.1) := by
    rcases h2 with ⟨-, h5⟩ | ⟨d', hd', h5, h6, h7⟩
    · exact absurd h3 (h5 _ (List.getElem_mem hd))
    · have e : d' = d := by
        rcases Nat.lt_trichotomy d' d with h | h | h
        · exact absurd h6 (h4 d' h)
        · exact h
        · exact absurd h3 (h7 d h)
      subst e
      rw [h5, Nat.zero_add]
  subst hr
  unfold mapQ at hb
  have hks : ∀ c : Value, (Instr.keyThatStays (.int q n) (.int q n)).run P w = .ok (.int q n) w := fun _ => by
    unfold Instr.keyThatStays
    rw [if_pos (by show Instr.sameBits (9999 + 1) _ _ = true; simp [Instr.sameBits])]
    simp
  have h3' : (Option.map (fun x => x.key) (E.map (entQ q)).toArray[d]?).getD (.int q n) = .int q n := by
    rw [List.getElem?_toArray, List.getElem?_map, List.getElem?_eq_getElem hd]
    simp [entQ, h3]
  simp only [Instr.mapUpdate, run_underlying ht, Sem.run_bind, Result.andThen_ok, getObj, setObj, Sem.run, hb, checkKey_int hk, findKey_Q hk n E w h1, h3', hks undef]
  show Result.ok () (w.putObj b _) = _
  congr 2
  unfold mapQ
  congr 1
  apply Array.ext'
  rw [Array.toList_modify]
  show (E.map (entQ q)).modify d _ = (E.set d _).map (entQ q)
  apply List.ext_getElem (by simp)
  intro i h5 h6
  rw [List.getElem_modify]
  simp only [List.getElem_map, List.getElem_set]
  by_cases e : d = i
  · subst e; simp [entQ]
  · simp [e]
theorem erase_filter {n : Int} : ∀ {E : List (Int × Value × Nat)} {d : Nat} (hd : d < E.length), (E.map (·.1)).Nodup → E[d].1 = n → E.eraseIdx d = E.filter fun e => decide (e.1 ≠ n)
  | x :: E, 0, hd, hn, h => by
    rw [List.eraseIdx_zero, List.tail_cons]
    rw [List.map_cons, List.nodup_cons] at hn
    simp only [List.getElem_cons_zero] at h
    rw [List.filter_cons_of_neg (by simp [h])]
    refine (List.filter_eq_self.2 fun e he => ?_).symm
    have : e.1 ≠ x.1 := fun h2 => hn.1 (List.mem_map.2 ⟨e, he, h2⟩)
    rw [h] at this
    simpa using this
  | x :: E, d + 1, hd, hn, h => by
    rw [List.map_cons, List.nodup_cons] at hn
    have hd' : d < E.length := by simpa using hd
    have h' : E[d].1 = n := by simpa using h
    have : x.1 ≠ n := fun e => hn.1 (List.mem_map.2 ⟨E[d], List.getElem_mem hd', by rw [h', e]⟩)
    rw [List.eraseIdx_cons_succ, List.filter_cons_of_pos (by simpa using this), erase_filter hd' hn.2 h']
theorem eraseIdx_ent (q : IntKind) : ∀ (E : List (Int × Value × Nat)) (d : Nat), (E.map (entQ q)).eraseIdx d = (E.eraseIdx d).map (entQ q)
  | [], _ => rfl
  | _ :: _, 0 => rfl
  | x :: E, d + 1 => by rw [List.map_cons, List.eraseIdx_cons_succ, List.eraseIdx_cons_succ, eraseIdx_ent q E d, List.map_cons]
/-- An entry goes. -/
theorem run_delQ {t k e ty : TypeId} (ht : P.underlying t = some (.map k e)) (hk : P.underlying k = some (.int q)) (n : Int) (hb : w.heap[b]? = some (mapQ q E clk)) (hn : (E.map (·.1)).Nodup) :
    (Builtin.delete_ #[t, k] ty #[.map (some b), .int q n]).run P w = .ok (.tuple #[]) (w.putObj b (mapQ q (E.filter fun e => decide (e.1 ≠ n)) clk)) := by
  obtain ⟨r, h1, h2⟩ := findNow_Q q n E 0
  unfold mapQ at hb
  rcases h2 with ⟨rfl, h3⟩ | ⟨d, hd, rfl, h3, h4⟩
  · have hf : E.filter (fun e => decide (e.1 ≠ n)) = E := List.filter_eq_self.2 fun e he => by simpa using h3 e he
    rw [hf]
    simp [Builtin.delete_, run_underlying ht, Sem.run_bind, getObj, setObj, Sem.run, hb, checkKey_int hk, findKey_Q hk n E w h1, Result.andThen]
    rfl
  · rw [← erase_filter hd hn h3]
    rw [Nat.zero_add] at h1
    simp [Builtin.delete_, run_underlying ht, Sem.run_bind, getObj, setObj, Sem.run, hb, checkKey_int hk, findKey_Q hk n E w h1, Result.andThen]
    show w.putObj b _ = w.putObj b _
    congr 1
    unfold mapQ
    congr 1
    apply Array.ext'
    simp [Array.eraseIdxIfInBounds, hd]
    exact eraseIdx_ent q E d
/-- The iterator over the map in block b, these stamps handed out. -/
def itQ (b clk : Nat) (S : List Nat) : Obj := .mapIter (some b) clk S.toArray clk
theorem range_Q {t k e : TypeId} (ht : P.underlying t = some (.map k e)) (hb : w.heap[b]? = some (mapQ q E clk)) :
    (Instr.range t (.map (some b))).run P w = .ok (.pointer (some ⟨w.heap.size, 0, none⟩)) (w.alloc (itQ b clk [])) := by
  unfold mapQ at hb
  simp [Instr.range, run_underlying ht, Sem.run_bind, getObj, Sem.run, hb, itQ, Result.andThen]
theorem next_Q {it : Nat} {S : List Nat} (ty : TypeId) (hi : w.heap[it]? = some (itQ b clk S)) (hb : w.heap[b]? = some (mapQ q E clk)) (hlt : ∀ e ∈ E, e.2.2 < clk) :
    ((∀ e ∈ E, e.2.2 ∈ S) ∧ (Instr.next (.pointer (some ⟨it, 0, none⟩)) false ty).run P w = .ok (.tuple #[.bool false]) w) ∨
    ∃ e ∈ E, e.2.2 ∉ S ∧ ∃ W', (Instr.next (.pointer (some ⟨it, 0, none⟩)) false ty).run P w = .ok (.tuple #[.bool true, .int q e.1, e.2.1]) W' ∧ Only (· = it) w W' ∧ W'.heap[it]? = some (itQ b clk (S ++ [e.2.2])) := by
  unfold mapQ at hb
  unfold itQ at hi
  have hit : it < w.heap.size := (Array.getElem?_eq_some_iff.1 hi).1
  have hent : ∀ x ∈ E.map (entQ q), x.born < clk := fun x hx => by
    obtain ⟨e, he, rfl⟩ := List.mem_map.1 hx
    exact hlt e he
  have htest : (!S.toArray.isEmpty && !(E.map (entQ q)).toArray.isEmpty && (E.map (entQ q)).toArray.all (fun x => decide (x.born ≥ clk))) = false := by
    cases hL : E.map (entQ q) with
    | nil => simp
    | cons e r =>
      have := hent e (by rw [hL]; simp)
      have h2 : decide (e.born ≥ clk) = false := decide_eq_false (by omega)
      simp [h2]
  simp only [Instr.next, getObj, setObj, Sem.run_bind, Sem.run, hi, hb, Result.andThen, htest, Bool.false_eq_true, if_false]
  generalize hL : (E.map (entQ q)).toArray.filter (fun e => !S.toArray.contains e.born) = L
  have hmem : ∀ x ∈ L.toList, x ∈ E.map (entQ q) ∧ x.born ∉ S := fun x hx => by
    rw [← hL] at hx
    simp only [List.filter_toArray, List.mem_filter] at hx
    exact ⟨hx.1, by simpa using hx.2⟩
  have e1 : L.filter (fun x => decide (x.born < clk)) = L := Array.filter_eq_self.2 fun x hx => by simpa using hent x (hmem x (by simpa using hx)).1
  have e2 : L.filter (fun x => decide (x.born ≥ clk)) = #[] := by
    rw [Array.filter_eq_empty_iff]
    intro x hx
    have := hent x (hmem x (by simpa using hx)).1
    simp; omega
  simp only [e1, e2, Array.append_empty]
  by_cases h0 : L.size = 0
  · left
    have hLe : L = #[] := Array.eq_empty_of_size_eq_zero h0
    refine ⟨fun e he => ?_, ?_⟩
    · by_cases hs : e.2.2 ∈ S
      · exact hs
      · have hin : entQ q e ∈ L := by
          rw [← hL, Array.mem_filter]
          refine ⟨by simpa using ⟨e.1, e.2.1, e.2.2, he, rfl⟩, by simpa [entQ] using hs⟩
        rw [hLe] at hin
        simp at hin
    · subst hLe
      simp [choose, Sem.run, Question.forced]
  · right
    have hne : L.isEmpty = false := by simp [Array.isEmpty, h0]
    simp only [hne, Bool.false_eq_true, if_false, Array.empty_append, Array.size_map]
    obtain ⟨k, W1, hk, hO, hh, hrun⟩ : ∃ (k : Nat) (W1 : World), k < L.size ∧ Only (fun _ => False) w W1 ∧ W1.heap = w.heap ∧ (choose (Question.mapNext L.size)).run P w = .ok k W1 := by
      by_cases hf : L.size ≤ 1
      · exact ⟨0, w, by omega, Only.refl _ _, rfl, by simp [choose, Sem.run, Question.forced, hf]⟩
      · exact ⟨_, w.drew, Nat.mod_lt _ (by omega), ⟨rfl, rfl, rfl, Nat.le_refl _, fun _ _ _ => rfl⟩, rfl, by
          simp only [choose, Sem.run, Question.forced, decide_eq_true_eq, hf, if_false, Question.cut]
          rfl⟩
    obtain ⟨hin, hns⟩ := hmem L[k] (by simp)
    obtain ⟨e, he, hee⟩ := List.mem_map.1 hin
    refine ⟨e, he, by rw [← hee] at hns; exact hns, W1.putObj it (itQ b clk (S ++ [e.2.2])), ?_, ?_, World.putObj_heap_same (by rw [hh]; exact hit)⟩
    · simp only [hrun, Array.getElem?_map, Array.getElem?_eq_getElem hk, Option.map_some, Sem.run_bind, Sem.run, Result.andThen, ← hee]
      simp [itQ, hh, hi, World.putObj, entQ]
    · exact (hO.mono fun k _ h => h.elim).putObj it _ rfl
theorem entry_Q {it : Nat} {S : List Nat} {e : Int × Value × Nat} (he : e ∈ E) (hn : (E.map (·.2.2)).Nodup) (hi : w.heap[it]? = some (itQ b clk (S ++ [e.2.2]))) (hb : w.heap[b]? = some (mapQ q E clk)) :
    (Instr.entry (.pointer (some ⟨it, 0, none⟩))).run P w = .ok (.tuple #[.int q e.1, e.2.1]) w := by
  unfold mapQ at hb
  unfold itQ at hi
  have hf : (E.map (entQ q)).find? (fun x => x.born == e.2.2) = some (entQ q e) := by
    clear hi hb
    induction E with
    | nil => cases he
    | cons x E ih =>
      rw [List.map_cons, List.nodup_cons] at hn
      rw [List.map_cons, List.find?_cons]
      rcases List.mem_cons.1 he with rfl | h
      · simp [entQ]
      · have : (x.2.2 == e.2.2) = false := by
          rw [beq_eq_false_iff_ne]
          intro h2
          exact hn.1 (List.mem_map.2 ⟨e, h, h2.symm⟩)
        simp only [entQ, this]
        exact ih h hn.2
  simp only [Instr.entry, getObj, Sem.run_bind, Sem.run, hi, hb, Result.andThen]
  simp [hf, hb, Sem.run, Result.andThen, entQ]
theorem run_lenQ {t k e : TypeId} (ht : P.underlying t = some (.map k e)) (T : TypeId) (hb : w.heap[b]? = some (mapQ q E clk)) : (Builtin.len_ #[t] T #[.map (some b)]).run P w = .ok (.int .i64 E.length) w := by
  unfold mapQ at hb
  simp only [Builtin.len_, List.getElem?_toArray, List.getElem?_cons_zero]
  simp only [run_underlying ht, Sem.run_bind, Result.andThen_ok, getObj, Sem.run, hb]
  simp [go_sem]
end
end Go.Proofs.YtijkdabmegbcjaaGreatDoor
namespace Go.Proofs.YtijkdabmegbcjaaGreatDoor
open Go.RowKit

theorem ai_only {O : Nat → Prop} {w w' : World} {base : Nat} {e : TypeId} {v : Value} {n : Nat} {xs : List Value} (h : w.ownsRow base e 1 v n xs) (ho : Only O w w') (hv : ∀ g, v.ownBlock = some g → ¬ O g) : w'.ownsRow base e 1 v n xs := by
  refine ⟨h.1, ?_⟩
  rcases h.2 with hn | ⟨g, cap, cur, rfl, hb, hg, r⟩
  · exact .inl hn
  · exact .inr ⟨g, cap, cur, rfl, hb, (ho.same g (Array.getElem?_eq_some_iff.1 hg).1 (hv g rfl)).trans hg, r⟩
theorem ai_lt {w : World} {base : Nat} {e : TypeId} {v : Value} {n : Nat} {xs : List Value} (h : w.ownsRow base e 1 v n xs) {g : Nat} (hv : v.ownBlock = some g) : base ≤ g ∧ g < w.heap.size := by
  rcases h.2 with ⟨rfl, -⟩ | ⟨g', cap, cur, rfl, hb, hg, r⟩
  · cases hv
  · obtain rfl : g' = g := Option.some.inj hv
    exact ⟨hb, (Array.getElem?_eq_some_iff.1 hg).1⟩
/-- The box in block B (of slices of type ST) holds a slice of the call's own with what has come; its block is none of the iterator's. -/
def AI {α : Type} (ST ET : TypeId) (enc : α → Value) (B : Nat) (w : World) (O : Nat → Prop) (pre : List α) (W : World) : Prop :=
  ∃ v, W.heap[B]? = some (.cells #[v] ST) ∧ W.ownsRow B ET 1 v pre.length (pre.map enc) ∧ (∀ g, v.ownBlock = some g → ¬ O g) ∧ Below w.heap.size w W
section
variable {α : Type} {ST ET : TypeId} {enc : α → Value} {B : Nat} {w W W' : World} {O O' : Nat → Prop} {pre : List α}
theorem ai_stable (M : Nat) (hB : B < M) (hw : w.heap.size ≤ M) : Stable M (AI ST ET enc B w) := by
  rintro O O' s W W' ⟨v, h1, h2, h3, h4⟩ hO hon hO'
  have n1 : ¬ O B := fun h => by have := hO _ h; omega
  refine ⟨v, (hon.same _ (Array.getElem?_eq_some_iff.1 h1).1 n1).trans h1, ai_only h2 hon h3, fun g hg h => ?_, hon.below h4 h4.size (fun i h => by have := hO i h; omega)⟩
  rcases hO' g h with h | h
  · exact h3 g hg h
  · have := (ai_lt h2 hg).2; omega
/-- One more has been appended, and stored back. -/
theorem ai_next {Rd : Nat → Prop} {W2 W3 W5 : World} (hT : ET ≠ ST) (m : α) {v V5 : Value} (hRd : ∀ k, Rd k → k < B) (hwB : w.heap.size ≤ B) (o2 : W2.ownsRow B ET 1 v pre.length (pre.map enc)) (hb : Below W2.heap.size W2 W3) (b3 : Below w.heap.size w W3) (hwl : B < W2.heap.size) (hg5 : W3.grownBy W5 v.ownBlock)
    (c5 : W5.heap[B]? = some (.cells #[v] ST)) (o5 : W5.ownsRow B ET 1 V5 (pre.length + 1) (pre.map enc ++ [enc m])) (hvb : V5.ownBlock = v.ownBlock ∨ ∀ k, V5.ownBlock = some k → W3.heap.size ≤ k)
    (h3 : ∀ g, v.ownBlock = some g → ¬ O g) (hO : ∀ k, O k → B < k ∧ k < W2.heap.size) :
    AI ST ET enc B w O (pre ++ [m]) (W5.setCell ⟨B, 0, none⟩ V5) ∧ Keep (fun k => O k ∨ Rd k) W2 (W5.setCell ⟨B, 0, none⟩ V5) := by
  have cs := boxed_set (u := V5) c5
  have hon : Only (· = B) W5 (W5.setCell ⟨B, 0, none⟩ V5) := (Only.refl _ _).setCell _ _ rfl
  have hne := boxed_ne o5 c5 hT
  refine ⟨⟨V5, cs, ?_, ?_, ?_⟩, ?_⟩
  · rw [List.length_append, List.map_append]
    exact ai_only o5 hon fun g hg e => hne (by rw [hg, e])
  · intro g hg ho
    rcases hvb with e | e
    · exact h3 g (by rw [← e]; exact hg) ho
    · have := e g hg; have := (hO g ho).2; have := hb.size; omega
  · refine hon.below (b3.grown hg5 b3.size fun j hj => ?_) (Nat.le_trans b3.size hg5.size) (by rintro i rfl; omega)
    have := (ai_lt o2 hj).1
    omega
  · refine ⟨Nat.le_trans hb.size (Nat.le_trans hg5.size hon.size), fun k hk h => ?_⟩
    have hkw : k ≠ B := by
      rcases h with h | h
      · have := (hO k h).1; omega
      · have := hRd k h; omega
    rw [hon.same k (Nat.lt_of_lt_of_le hk (Nat.le_trans hb.size hg5.size)) hkw, hg5.block k (Nat.lt_of_lt_of_le hk hb.size) ?_, hb.block k hk]
    intro e
    rcases h with h | h
    · exact h3 k e.symm h
    · have := (ai_lt o2 e.symm).1; have := hRd k h; omega
end
end Go.Proofs.YtijkdabmegbcjaaGreatDoor
namespace Go.Proofs.YtijkdabmegbcjaaGreatDoor
open Go.RowKit Go.Shelf Go.Sort
attribute [local go_sem] Oper.semAt_some

theorem ininfo : (Tryz.prog.info? 3).map (fun i => (i.zero, i.size, i.bytes)) = some (some (Value.int .i64 0), 1, 8) := by kernel_rfl
/-- What is asked of an iterator over integers that is gone over to its end. -/
structure SeqIn (gf : Nat) (lb : Array Value) (Rd : Nat → Prop) (S Sp : List Int → Prop) (N : Nat) (w : World) : Prop where
  en : ∀ args w, (callFunc gf args).run Tryz.prog w = .ok (.enter gf args) w
  seq : ∀ W, Below w.heap.size w W → SeqP Tryz.prog gf lb (fun x : Int => #[.int .i64 x]) Rd S Sp N false W
  rd : ∀ k, Rd k → k < w.heap.size
  le : N ≤ 1000000
theorem SeqIn.below {gf : Nat} {lb : Array Value} {Rd : Nat → Prop} {S Sp : List Int → Prop} {N : Nat} {w w' : World} (h : SeqIn gf lb Rd S Sp N w) (hb : Below w.heap.size w w') : SeqIn gf lb Rd S Sp N w' :=
  ⟨h.en, fun W hW => h.seq W (xtrans hb hW), fun k hk => Nat.lt_of_lt_of_le (h.rd k hk) hb.size, h.le⟩
set_option maxRecDepth 100000 in
set_option maxHeartbeats 1000000 in
theorem inappendSeq_any {gf : Nat} {lb : Array Value} {Rd : Nat → Prop} {S Sp : List Int → Prop} {N : Nat} (w : World) (h : SeqIn gf lb Rd S Sp N w) (hSp : ∀ pre, Sp pre → pre.length ≤ N) (hSl : ∀ xs, S xs → xs.length ≤ N) :
    Calls Tryz.prog 122 #[.slice none 0 0, .func (.func gf) #[] lb] w fun e w' => ∃ v xs, e = .returned v ∧ S xs ∧ w'.ownsRow w.heap.size 3 1 v xs.length (xs.map (Value.int .i64)) ∧ Below w.heap.size w w' := by
  obtain ⟨i0, hi, hz0, hz1, hz2⟩ := info_parts ininfo
  have hle := h.le
  have hrd := h.rd
  have hbw : Below w.heap.size w (w.alloc (.cells #[.slice none 0 0] 42)) := xalloc (xrefl w) _
  have h1 := Lib.hid (h.below hbw)
  have h00 : AI (α := Int) 42 3 (Value.int .i64) w.heap.size w (fun _ => False) [] (w.alloc (.cells #[.slice none 0 0] 42)) :=
    ⟨.slice none 0 0, World.alloc_heap_new w _, ⟨rfl, .inl ⟨rfl, rfl⟩⟩, (fun g h => by cases h), hbw⟩
  replace h00 := Lib.hid h00
  replace hSp := Lib.hid hSp
  clear h
  refine (callsIn_wide (n := 0)).1 ?_
  refine callsIn_of_wp_marks Tryz.func122 rfl trivial ?_ rfl
  simp only [Tryz.ntmps122, List.size_toArray, List.length_cons, List.length_nil, Nat.reduceAdd, Nat.reduceSub, Array.replicate_succ, Array.replicate_zero, List.push_toArray, List.append_toArray, List.nil_append, List.cons_append]
  refine wpIn_wide.2 ?_
  go_wp2
  have hsz : (w.alloc (.cells #[.slice none 0 0] 42)).heap.size = w.heap.size + 1 := World.size_alloc _ _
  generalize w.alloc (.cells #[.slice none 0 0] 42) = w1 at h1 h00 hsz hbw ⊢
  have hst := ai_stable (α := Int) (ST := 42) (ET := 3) (enc := Value.int .i64) (w := w) (B := w.heap.size) w1.heap.size (by omega) (by omega)
  refine (wpIn_wide (n := 0)).1 ?_
  refine wp_rangeP (gf := gf) (lb := lb) rfl h1.out.en (encs := fun x : Int => #[.int .i64 x]) (Rd := Rd)
    (S := S) (Sp := Sp) (N := N) (inf := false) h1.out.rd h1.out.seq (fun x => rfl) (AI 42 3 (Value.int .i64) w.heap.size w) (fun _ _ _ _ => False) hst (fun _ _ _ _ _ _ h _ _ _ => h) h00.out (fun h => by cases h) ?round ?done ?stop
  case round =>
    rintro l1 O pre m W1 hOl hO ⟨v, g1, g2, g3, g4⟩ hlen hsp
    gi_wp2
    refine ⟨Keep.refl _ _, fun W2 hon => ?_⟩
    have hl4 : w1.heap.size ≤ l1 := (hO l1 hOl).1
    have hlW := (hO l1 hOl).2
    have n1 : ¬ (w.heap.size = l1) := by omega
    have c1 : W2.heap[w.heap.size]? = some (.cells #[v] 42) := (hon.same _ (Array.getElem?_eq_some_iff.1 g1).1 n1).trans g1
    have o1 := ai_only g2 hon (fun g hg e => g3 g hg (by rw [e]; exact hOl))
    have b1 := hon.below g4 g4.size (by rintro i rfl; omega)
    have hs2 := hon.size
    have hOs : Hid (∀ k, O k → w.heap.size < k ∧ k < W2.heap.size) := Lib.hid fun k h => by have := hO k h; omega
    have hwl : w.heap.size < W2.heap.size := by omega
    replace g3 := Lib.hid g3
    clear hon g1 g2 g4 hO
    have cv := boxed_cell c1
    replace o1 := Lib.hid o1
    replace b1 := Lib.hid b1
    replace c1 := Lib.hid c1
    have hbW : Below W2.heap.size W2 (W2.alloc (.cells #[.int .i64 m] 3)) := xalloc (xrefl W2) _
    have c3 := (hbW.block _ hwl).trans c1.out
    have o3 := own_keep o1.out hbW
    have b3 := xtrans b1.out hbW
    have hq1 : (W2.alloc (.cells #[.int .i64 m] 3)).cell? ⟨W2.heap.size, 0, none⟩ = some (.int .i64 m) := boxed_cell (World.alloc_heap_new W2 _)
    have hne := boxed_ne o3 c3 (by decide)
    have hmid := fun (V5 : Value) (W5 : World) hg5 c5 o5 hvb => ai_next (ST := 42) (ET := 3) (V5 := V5) (W5 := W5) (show 3 ≠ 42 by decide) m hrd (Nat.le_refl _) o1.out hbW b3 hwl hg5 c5 o5 hvb g3.out hOs.out
    obtain ⟨W3, hW3⟩ : ∃ W3, W2.alloc (.cells #[.int .i64 m] 3) = W3 := ⟨_, rfl⟩
    rw [hW3] at hmid hq1 b3 o3 c3 hbW
    replace hmid := Lib.hid hmid
    replace hbW := Lib.hid hbW
    gi_wp2_with (refine wpListIn_append_blk W3 rfl _ _ 42 rfl w.heap.size 3 i0 (.int .i64 0) 8 Tryz.underlying42 hi hz0 hz1 hz2 rfl v pre.length _ rfl o3 ⟨W2.heap.size, 0, none⟩ 1 1 [.int .i64 m] rfl rfl (by intro j u hj; match j, hj with | 0, hj => (injection hj with hj; subst hj; exact hq1)) (by intro u hu; rw [List.mem_singleton.1 hu]; rfl) (by unfold maxLen; omega) (by omega) b3.size ?_; intro v5 W5 ho5 hg5 hvb5; have c5 : W5.heap[w.heap.size]? = some (.cells #[v] 42) := (hg5.block _ (Array.getElem?_eq_some_iff.1 c3).1 (fun e => hne e.symm)).trans c3; have cc5 := boxed_cell c5; have cf5 := boxed_free c5; obtain ⟨a5, e5, rfl⟩ := own_slice ho5; have hfin := hmid.out _ W5 hg5 c5 ho5 hvb5; replace hfin := Lib.hid hfin; clear ho5 hg5 hvb5 c5)
    exact ⟨hfin.out.2, hfin.out.1⟩
  case done =>
    rintro D xs O W hD hOD hO hS ⟨v, g1, g2, g3, g4⟩ hK
    have cv := boxed_cell g1
    have hKl := (Array.getElem?_eq_some_iff.1 hK).1
    replace hK := Lib.hid hK
    replace g1 := Lib.hid g1
    replace g2 := Lib.hid g2
    replace g4 := Lib.hid g4
    go_wp2
    have hput := (Only.refl (· = D) W).putObj D (.deferred none) rfl
    refine ⟨by simp [Act.put], .inl ⟨_, _, rfl, run_takeDeferred hK.out, ?_⟩⟩
    refine ⟨_, results_tmp rfl _ _ _, v, xs, rfl, hS, ai_only g2.out hput (fun g hg e => ?_), hput.below g4.out g4.out.size (by rintro i rfl; omega)⟩
    exact g3 g hg (by rw [e]; exact hOD)
  case stop =>
    rintro D c pre O W hD hOD hO _ h
    exact h.elim
theorem incollect_any {gf : Nat} {lb : Array Value} {Rd : Nat → Prop} {S Sp : List Int → Prop} {N : Nat} (w : World) (h : SeqIn gf lb Rd S Sp N w) (hSp : ∀ pre, Sp pre → pre.length ≤ N) (hSl : ∀ xs, S xs → xs.length ≤ N) :
    Calls Tryz.prog 92 #[.func (.func gf) #[] lb] w fun e w' => ∃ v xs, e = .returned v ∧ S xs ∧ w'.ownsRow w.heap.size 3 1 v xs.length (xs.map (Value.int .i64)) ∧ Below w.heap.size w w' := by
  have ha := Lib.hid (inappendSeq_any w h hSp hSl)
  clear h hSp hSl
  go_enter Tryz.func92, Tryz.ntmps92
  go_wp2_with (go_at_call 122; refine ha.out.mono ?_; rintro e w1 ⟨v, xs, rfl, hS, hown, hb⟩; replace hown := Lib.hid hown; replace hb := Lib.hid hb; replace hS := Lib.hid hS)
  go_ret
  exact ⟨v, xs, rfl, hS.out, hown.out, hb.out⟩

theorem insorted_any {gf : Nat} {lb : Array Value} {Rd : Nat → Prop} {S Sp : List Int → Prop} {N : Nat} (w : World) (h : SeqIn gf lb Rd S Sp N w) (hSp : ∀ pre, Sp pre → pre.length ≤ N) (hSl : ∀ xs, S xs → xs.length ≤ N) :
    Calls Tryz.prog 60 #[.func (.func gf) #[] lb] w fun e w' => ∃ v xs, e = .returned v ∧ S xs ∧ w'.ownsRow w.heap.size 3 1 v xs.length ((xs.mergeSort fun x y => decide (x ≤ y)).map (Value.int .i64)) ∧ Below w.heap.size w w' := by
  have hc := Lib.hid (incollect_any w h hSp hSl)
  have hle := h.le
  have hSl' := Lib.hid hSl
  clear h hSp hSl
  go_enter Tryz.func60, Tryz.ntmps60
  go_upto_region 2 with (go_at_call 92; refine hc.out.mono ?_; rintro e w1 ⟨v, xs, rfl, hS, hown, hb⟩; have hlen := hSl'.out xs hS; replace hS := Lib.hid hS)
  rcases hown.2 with ⟨rfl, hz⟩ | ⟨gb, cap, cur, rfl, hbase, hgb, r1, r2, r3, r4⟩
  · have hxs : xs = [] := List.eq_nil_of_length_eq_zero hz
    subst hxs
    have hs0 := Tryz.slices_Sort_none_93 none 0 w1
    replace hown := Lib.hid hown
    replace hb := Lib.hid hb
    replace hs0 := Lib.hid hs0
    clear hz
    go_wp2_with (go_at_call 93; refine hs0.out.mono ?_; rintro e w' ⟨rfl, rfl⟩)
    go_ret
    exact ⟨_, [], rfl, hS.out, by simpa using hown.out, hb.out⟩
  · have hH : Holds (Value.int .i64) w1 gb 0 xs.toArray := Go.holds_of_blockI hgb (by simpa using r4)
    have hgl : gb < w1.heap.size := (Array.getElem?_eq_some_iff.1 hgb).1
    have hsz : xs.length < 4611686018427387904 := by omega
    have cS := Lib.hid (Tryz.slices_Sort_93 gb 0 cap xs w1 hH hgl hsz)
    clear hH
    replace hb := Lib.hid hb
    replace r4 := Lib.hid r4
    replace r3 := Lib.hid r3
    replace r2 := Lib.hid r2
    replace r1 := Lib.hid r1
    replace hown := Lib.hid hown
    replace hgb := Lib.hid hgb
    go_wp2_with (go_at_call 93; refine cS.out.mono ?_; rintro e w' ⟨rfl, nn, os, hw'⟩; replace hw' := Lib.hid hw')
    go_ret
    refine ⟨_, xs, rfl, hS.out, ?_, ?_⟩
    · rw [hw'.out]; exact Go.ownsRow_sortedI (by simp) hbase hgb.out r1.out r2.out r3.out
    · rw [hw'.out]; exact hb.out.grown (Go.grownBy_sortedI _) hb.out.size (fun j hj => by cases hj; exact hbase)

end Go.Proofs.YtijkdabmegbcjaaGreatDoor
namespace Go.Proofs.YtijkdabmegbcjaaGreatDoor
open Go.RowKit Go.Shelf
attribute [local go_sem] Oper.semAt_some

theorem ibkeys_any (bm : Nat) (w : World) : Calls Tryz.prog 61 #[.map (some bm)] w fun e w' => e = .returned (.func (.func 94) #[] #[.pointer (some ⟨w.heap.size, 0, none⟩)]) ∧ w.alloc (.cells #[.map (some bm)] 95) = w' := by
  go_enter Tryz.func61, Tryz.ntmps61
  go_wp2
  go_ret
  exact ⟨rfl, rfl⟩
/-- The keys of the places. -/
def ibkeyAt (l : List (Int × Value)) (seen : List Nat) : List Int := seen.map fun j => (l[j]?.map (·.1)).getD 0
theorem ibkeyAt_snoc (l : List (Int × Value)) (seen : List Nat) (j : Nat) (hj : j < l.length) : ibkeyAt l (seen ++ [j]) = ibkeyAt l seen ++ [l[j].1] := by
  unfold ibkeyAt; simp [hj]
theorem ibkeyAt_all (l : List (Int × Value)) : ibkeyAt l (List.range l.length) = l.map (·.1) := by
  unfold ibkeyAt
  apply List.ext_getElem (by simp)
  intro i h1 h2
  simp at h1
  simp [h1]
set_option maxRecDepth 100000 in
set_option maxHeartbeats 1000000 in
theorem ibkeys_seq (l : List (Int × Value)) (bx bm : Nat) (W : World) (hx : W.cell? ⟨bx, 0, none⟩ = some (.map (some bm))) (hm : W.heap[bm]? = some (mapI .i64 l)) :
    SeqP Tryz.prog 94 #[.pointer (some ⟨bx, 0, none⟩)] (fun x : Int => #[.int .i64 x]) (fun k => k = bm) (fun xs => xs.Perm (l.map (·.1))) (fun pre => ∃ seen : List Nat, seen.Nodup ∧ (∀ j ∈ seen, j < l.length) ∧ pre = ibkeyAt l seen) l.length false W := by
  intro l0 J Jx hJ hJx hY h0 _
  replace hJ := Lib.hid hJ
  replace hJx := Lib.hid hJx
  replace hY := Lib.hid hY
  have hrg := range_mapI (P := Tryz.prog) (t := 95) Tryz.underlying95 hm
  have hml : bm < W.heap.size := (Array.getElem?_eq_some_iff.1 hm).1
  replace hm := Lib.hid hm
  replace h0 := Lib.hid h0
  refine callsIn_of_wp Tryz.func94 rfl trivial ?_ rfl
  simp only [Tryz.ntmps94, List.size_toArray, List.length_cons, List.length_nil, Nat.reduceAdd, Nat.reduceSub, Array.replicate_succ, Array.replicate_zero, List.push_toArray, List.append_toArray, List.nil_append, List.cons_append]
  gi_wp2
  obtain ⟨it, hit⟩ : ∃ it, it = W.heap.size := ⟨_, rfl⟩
  have hb1 : Below W.heap.size W (W.alloc (itO bm l.length [])) := xalloc (xrefl W) _
  have hi1 : (W.alloc (itO bm l.length [])).heap[it]? = some (itO bm l.length []) := by rw [hit]; exact World.alloc_heap_new W _
  have hm1 : (W.alloc (itO bm l.length [])).heap[bm]? = some (mapI .i64 l) := (hb1.block bm hml).trans hm.out
  have hJ1 : J (fun k => k = it) [] (W.alloc (itO bm l.length [])) := hJ.out _ _ _ W _ h0.out (fun k h => h.elim) (Below.only hb1) (fun k e => .inr (by omega))
  have hle := hb1.size
  rw [← hit]
  generalize W.alloc (itO bm l.length []) = W1 at hi1 hm1 hJ1 hle ⊢
  replace hi1 := Lib.hid hi1
  replace hm1 := Lib.hid hm1
  replace hJ1 := Lib.hid hJ1
  clear hb1 hrg
  have hbi : ¬ bm = it := by omega
  replace hit := Lib.hid hit
  gi_loopw [3] (fun _ wr => ∃ seen : List Nat, Hid (seen.Nodup ∧ ∀ j ∈ seen, j < l.length) ∧ Hid (wr.heap[it]? = some (itO bm l.length seen)) ∧ Hid (wr.heap[bm]? = some (mapI .i64 l)) ∧ Hid (J (fun k => k = it) (ibkeyAt l seen) wr)) (fun _ wr => l.length - seenAt wr it)
  case atStart => exact ⟨[], Lib.hid ⟨List.nodup_nil, fun j h => by cases h⟩, hi1, hm1, hJ1⟩
  case round =>
    clear hi1 hm1 hJ1
    obtain ⟨seen, hs, hi, hm1, hJs⟩ := hrel
    rcases next_mapI (P := Tryz.prog) 0 hi.out hm1.out with ⟨hall, hrun⟩ | ⟨j, hj, hns, W2, hrun, hon, hi2⟩
    · have hrun' : ∀ ty, (Instr.next (.pointer (some ⟨it, 0, none⟩)) false ty).run Tryz.prog wr = _ := fun ty => hrun
      clear hrun
      replace hall := Lib.hid hall
      gi_wp2
      go_end0
      have hp := perm_seen hs.out.1 hs.out.2 hall.out
      refine ⟨⟨_, rfl⟩, .inl ⟨_, _, ?_, fun k e => by have := hit.out; omega, hJs.out⟩⟩
      have := hp.map fun j => (l[j]?.map (·.1)).getD 0
      have e := ibkeyAt_all l
      unfold ibkeyAt at e ⊢
      rwa [e] at this
    · have hrun' : ∀ ty, (Instr.next (.pointer (some ⟨it, 0, none⟩)) false ty).run Tryz.prog wr = _ := fun ty => hrun
      have hm2 : W2.heap[bm]? = some (mapI .i64 l) := (hon.same bm (Array.getElem?_eq_some_iff.1 hm1.out).1 hbi).trans hm1.out
      have hen := entry_mapI (P := Tryz.prog) hj hi2 hm2
      have hJ2 : J (fun k => k = it) (ibkeyAt l seen) W2 := hJ.out _ _ _ wr W2 hJs.out (fun k e => by have := hit.out; omega) hon (fun k e => .inl e)
      have hlt := seen_lt hs.out.1 hs.out.2 hj hns
      have hlen : (ibkeyAt l seen).length < l.length := by unfold ibkeyAt; rw [List.length_map]; exact hlt
      have hsn : Hid ((seen ++ [j]).Nodup ∧ ∀ i ∈ seen ++ [j], i < l.length) := Lib.hid ⟨by rw [List.nodup_append]; exact ⟨hs.out.1, by simp, fun a ha b hb e => hns (by simp at hb; subst hb; rw [← e]; exact ha)⟩, fun i hi => by
        rcases List.mem_append.1 hi with h | h
        · exact hs.out.2 i h
        · simp at h; omega⟩
      have hsnoc := ibkeyAt_snoc l seen j hj
      have h2l : it < W2.heap.size := (Array.getElem?_eq_some_iff.1 hi2).1
      obtain ⟨fnc, tmps, assign, body, hy, hR⟩ := hY.out (fun k => k = it) (ibkeyAt l seen) l[j].1 W2 (fun k e => by have := hit.out; omega) hJ2 hlen ⟨seen ++ [j], hsn.out.1, hsn.out.2, hsnoc.symm⟩
      have hsl : seenAt wr it = seen.length := seenAt_eq hi.out
      rw [← hsnoc] at hR
      clear hrun hJ2 hsnoc hlen
      generalize l[j].1 = key at *
      replace hi2 := Lib.hid hi2
      replace hm2 := Lib.hid hm2
      replace hns := Lib.hid hns
      replace hR := Lib.hid hR
      replace hsl := Lib.hid hsl
      clear hon hJs hs
      gi_wp2
      refine ⟨rfl, hR.out.mono ?_⟩
      rintro e W3 (⟨rfl, hJ3, hk3⟩ | ⟨rfl, hJx3, hk3⟩)
      · have hi3 := Lib.hid ((hk3.same it (Array.getElem?_eq_some_iff.1 hi2.out).1 (.inl rfl)).trans hi2.out)
        have hm3 := Lib.hid ((hk3.same bm (Array.getElem?_eq_some_iff.1 hm2.out).1 (.inr rfl)).trans hm2.out)
        replace hJ3 := Lib.hid hJ3
        have hlt3 : l.length - seenAt W3 it < l.length - seenAt wr it := by
          rw [hsl.out, seenAt_eq hi3.out, List.length_append]; simp; omega
        replace hlt3 := Lib.hid hlt3
        clear hk3
        gi_wp2
        exact ⟨⟨seen ++ [j], hsn, hi3, hm3, hJ3⟩, hlt3.out⟩
      · gi_wp2
        refine bodyPost_ret (results_none rfl _ _ _) rfl ?_
        exact ⟨⟨_, rfl⟩, .inr ⟨_, _, ⟨seen ++ [j], hsn.out.1, hsn.out.2, rfl⟩, fun k e => by have := hit.out; omega, hJx3⟩⟩
end Go.Proofs.YtijkdabmegbcjaaGreatDoor
namespace Go.Proofs.YtijkdabmegbcjaaGreatDoor
open Go.RowKit Go.Shelf
attribute [local go_sem] Oper.semAt_some

end Go.Proofs.YtijkdabmegbcjaaGreatDoor
