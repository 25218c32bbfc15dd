/- Texts of this claim, merged; no condition. -/
import Derived.Test.YtijkdabmegbcjaaGreatDoorT18
import Derived.Test.YtijkdabmegbcjaaGreatDoorT19
import Derived.Test.YtijkdabmegbcjaaGreatDoorTA
set_option linter.all false
namespace Go.Proofs.YtijkdabmegbcjaaGreatDoor
section
open Go.RowKit
def entG : Nat → List (Value × Value) → List MapEntry
  | _, [] => []
  | i, x :: l => { key := x.1, val := x.2, born := i } :: entG (i + 1) l
def mapG (l : List (Value × Value)) : Obj := .map (entG 0 l).toArray l.length
theorem entG_append : ∀ (l l' : List (Value × Value)) (i : Nat), entG i (l ++ l') = entG i l ++ entG (i + l.length) l'
  | [], l', i => by simp [entG]
  | x :: l, l', i => by simp only [List.cons_append, entG, entG_append l l' (i + 1), List.length_cons]; rw [show i + 1 + l.length = i + (l.length + 1) by omega]
theorem checkKey_str' {P : Program} {k : TypeId} (hk : P.underlying k = some .string) (b : Bool) (s : ByteArray) (m : Nat) (w : World) : (Instr.checkKey b (m + 1) k (.string s)).run P w = .ok () w := by
  simp [Instr.checkKey, run_underlying hk, Sem.run_bind]
theorem run_putS {P : Program} {t k e : TypeId} (ht : P.underlying t = some (.map k e)) (hk : P.underlying k = some .string) (s : ByteArray) (v : Value) (w : World) (b : Nat) (l : List (Value × Value)) (hb : w.heap[b]? = some (mapG l))
    (hn : Instr.findNow .string (.string s) (entG 0 l) 0 = some none) : (Instr.mapUpdate t (.map (some b)) (.string s) v).run P w = .ok () (w.putObj b (mapG (l ++ [(.string s, v)]))) := by
  unfold mapG at hb
  have hc : (Instr.checkKey false 10000 k (.string s)).run P w = .ok () w := checkKey_str' hk false s 9999 w
  have hf : (Instr.findKey k (.string s) (entG 0 l)).run P w = .ok none w := by
    simp [Instr.findKey, run_underlying hk, Sem.run_bind, hn]
  simp only [Instr.mapUpdate, run_underlying ht, Sem.run_bind, Result.andThen_ok, getObj, setObj, Sem.run, hb, hc, hf]
  show Result.ok () (w.putObj b _) = _
  congr 2
  simp [mapG, entG_append, entG]
theorem entG_get : ∀ (l : List (Value × Value)) (i j : Nat) (h : j < l.length), (entG i l)[j]? = some { key := l[j].1, val := l[j].2, born := i + j }
  | x :: l, i, 0, _ => by simp [entG]
  | x :: l, i, j + 1, h => by
    rw [entG, List.getElem?_cons_succ, entG_get l (i + 1) j (by simpa using h)]
    simp; omega
theorem entG_len : ∀ (l : List (Value × Value)) (i : Nat), (entG i l).length = l.length
  | [], _ => rfl
  | x :: l, i => by rw [entG, List.length_cons, entG_len l (i + 1), List.length_cons]
theorem entG_mem {l : List (Value × Value)} {e : MapEntry} (h : e ∈ entG 0 l) : ∃ j, ∃ hj : j < l.length, e = { key := l[j].1, val := l[j].2, born := j } := by
  obtain ⟨j, hj, he⟩ := List.getElem_of_mem h
  rw [entG_len] at hj
  have h2 := entG_get l 0 j hj
  rw [List.getElem?_eq_getElem (by rw [entG_len]; exact hj), he] at h2
  refine ⟨j, hj, ?_⟩
  simpa using h2
theorem entG_find (s : Nat) : ∀ (l : List (Value × Value)) (i j : Nat) (h : j < l.length), s = i + j → (entG i l).find? (fun e => e.born == s) = some { key := l[j].1, val := l[j].2, born := s }
  | x :: l, i, 0, _, e => by subst e; simp [entG]
  | x :: l, i, j + 1, h, e => by
    have hne : (i == s) = false := by rw [beq_eq_false_iff_ne]; omega
    rw [entG, List.find?_cons]
    simp only [hne]
    rw [entG_find s l (i + 1) j (by simpa using h) (by omega)]
    simp
theorem next_mapG {P : Program} {l : List (Value × Value)} {W : World} {it bm : Nat} {seen : List Nat} (ty : TypeId) (hi : W.heap[it]? = some (itO bm l.length seen)) (hb : W.heap[bm]? = some (mapG l)) :
    ((∀ j, j < l.length → j ∈ seen) ∧ (Instr.next (.pointer (some ⟨it, 0, none⟩)) false ty).run P W = .ok (.tuple #[.bool false]) W) ∨
    ∃ j, ∃ hj : j < l.length, j ∉ seen ∧ ∃ W', (Instr.next (.pointer (some ⟨it, 0, none⟩)) false ty).run P W = .ok (.tuple #[.bool true, l[j].1, l[j].2]) W' ∧ Only (· = it) W W' ∧ W'.heap[it]? = some (itO bm l.length (seen ++ [j])) := by
  unfold mapG at hb
  unfold itO at hi
  have hlt : it < W.heap.size := (Array.getElem?_eq_some_iff.1 hi).1
  have hbornlt : ∀ e ∈ entG 0 l, e.born < l.length := fun e he => by obtain ⟨j, hj, rfl⟩ := entG_mem he; exact hj
  have htest : (!seen.toArray.isEmpty && !(entG 0 l).toArray.isEmpty && (entG 0 l).toArray.all (fun x => decide (x.born ≥ l.length))) = false := by
    cases hL : entG 0 l with
    | nil => simp
    | cons e r =>
      have := hbornlt e (by rw [hL]; simp)
      have h2 : decide (e.born ≥ l.length) = false := decide_eq_false (by omega)
      simp [h2]
  simp only [Instr.next, getObj, setObj, Sem.run_bind, Sem.run, hi, hb, Result.andThen, htest, Bool.false_eq_true, if_false]
  generalize hL : (entG 0 l).toArray.filter (fun e => !seen.toArray.contains e.born) = L
  have hmem : ∀ x ∈ L.toList, x ∈ entG 0 l ∧ x.born ∉ seen := fun x hx => by
    rw [← hL] at hx
    simp at hx
    exact hx
  have e1 : L.filter (fun x => decide (x.born < l.length)) = L := Array.filter_eq_self.2 fun x hx => by simpa using hbornlt x (hmem x (by simpa using hx)).1
  have e2 : L.filter (fun x => decide (x.born ≥ l.length)) = #[] := by
    rw [Array.filter_eq_empty_iff]
    intro x hx
    have := hbornlt x (hmem x (by simpa using hx)).1
    simp; omega
  simp only [e1, e2, Array.append_empty]
  by_cases h0 : L.size = 0
  · left
    have hLe : L = #[] := Array.eq_empty_of_size_eq_zero h0
    refine ⟨fun j hj => ?_, ?_⟩
    · by_cases hs : j ∈ seen
      · exact hs
      · have hin : ({ key := l[j].1, val := l[j].2, born := j } : MapEntry) ∈ L := by
          rw [← hL, Array.mem_filter]
          refine ⟨?_, by simpa using hs⟩
          have := entG_get l 0 j hj
          rw [Nat.zero_add] at this
          simpa using List.mem_of_getElem? this
        rw [hLe] at hin
        simp at hin
    · subst hLe
      simp [choose, Sem.run, Question.forced]
  · right
    have hne : L.isEmpty = false := by simp [Array.isEmpty, h0]
    simp only [hne, Bool.false_eq_true, if_false, Array.empty_append, Array.size_map]
    obtain ⟨k, W1, hk, hO, hh, hrun⟩ : ∃ (k : Nat) (W1 : World), k < L.size ∧ Only (fun _ => False) W W1 ∧ W1.heap = W.heap ∧ (choose (Question.mapNext L.size)).run P W = .ok k W1 := by
      by_cases hf : L.size ≤ 1
      · exact ⟨0, W, by omega, Only.refl _ _, rfl, by simp [choose, Sem.run, Question.forced, hf]⟩
      · exact ⟨_, W.drew, Nat.mod_lt _ (by omega), ⟨rfl, rfl, rfl, Nat.le_refl _, fun _ _ _ => rfl⟩, rfl, by
          simp only [choose, Sem.run, Question.forced, decide_eq_true_eq, hf, if_false, Question.cut]
          rfl⟩
    obtain ⟨hin, hns⟩ := hmem L[k] (by simp)
    obtain ⟨j, hj, he⟩ := entG_mem hin
    refine ⟨j, hj, by rw [he] at hns; exact hns, W1.putObj it (itO bm l.length (seen ++ [j])), ?_, ?_, World.putObj_heap_same (by rw [hh]; exact hlt)⟩
    · simp only [hrun, Array.getElem?_map, Array.getElem?_eq_getElem hk, Option.map_some, Sem.run_bind, Sem.run, Result.andThen, he]
      simp [itO, hh, hi, World.putObj]
    · exact (hO.mono fun k _ h => h.elim).putObj it _ rfl
theorem entry_mapG {P : Program} {l : List (Value × Value)} {W : World} {it bm j : Nat} {seen : List Nat} (hj : j < l.length) (hi : W.heap[it]? = some (itO bm l.length (seen ++ [j]))) (hb : W.heap[bm]? = some (mapG l)) :
    (Instr.entry (.pointer (some ⟨it, 0, none⟩))).run P W = .ok (.tuple #[l[j].1, l[j].2]) W := by
  unfold mapG at hb
  unfold itO at hi
  have hf := entG_find j l 0 j hj (by omega)
  simp only [Instr.entry, getObj, Sem.run_bind, Sem.run, hi, hb, Result.andThen]
  simp [hf, hb, Sem.run, Result.andThen]
theorem range_mapG {P : Program} {l : List (Value × Value)} {W : World} {bm : Nat} {t k e : TypeId} (ht : P.underlying t = some (.map k e)) (hb : W.heap[bm]? = some (mapG l)) :
    (Instr.range t (.map (some bm))).run P W = .ok (.pointer (some ⟨W.heap.size, 0, none⟩)) (W.alloc (itO bm l.length [])) := by
  unfold mapG at hb
  simp [Instr.range, run_underlying ht, Sem.run_bind, getObj, Sem.run, hb, itO, Result.andThen]
end
section
open Go.RowKit Go.Shelf
theorem wpList_insertS {P : Program} {ops : Array Oper} {rest : List Oper} {o : Oper} {a : Act} {w : World} {Q : Exit → Act → World → Prop} (hgd : o.guard = none) (t k e : TypeId) (x y z : Operand) (ho : o.op = .insert t x y z)
    (ht : P.underlying t = some (.map k e)) (hk : P.underlying k = some .string) (b : Nat) (s : ByteArray) (v : Value) (l : List (Value × Value)) (hx : a.eval x = .map (some b)) (hy : a.eval y = .string s) (hz : a.eval z = v)
    (hb : w.heap[b]? = some (mapG l)) (hn : Instr.findNow .string (.string s) (entG 0 l) 0 = some none)
    (h : ∀ w', w'.heap[b]? = some (mapG (l ++ [(.string s, v)])) → Only (· = b) w w' → wpList P ops Q rest (a.put o.dst undef) w') : wpList P ops Q (o :: rest) a w := by
  refine wpList_plain hgd fun _ hK => ?_
  unfold Oper.wp execOp
  simp only [ho, hx, hy, hz, Sem.run_bind, run_putS ht hk s v w b l hb hn, Result.andThen_ok, Sem.run_pure]
  have hlt : b < w.heap.size := (Array.getElem?_eq_some_iff.1 hb).1
  exact hK _ _ (h _ (World.putObj_heap_same hlt) ((Only.refl _ _).putObj b _ rfl))
theorem dec_size {n : Nat} (h : n < 100) : (⟨(Lib.decDigits n).toArray⟩ : ByteArray).size ≤ 2 := by
  rw [← dig_dec n h]
  show (digN n).toArray.size ≤ 2
  unfold digN
  split <;> simp
set_option maxRecDepth 100000 in
theorem fam1_any (m : Int) (w : World) (h0 : 0 ≤ m) (h1 : m ≤ 100) : Calls Tryz.prog 153 #[.int .i64 m] w fun e w' => e = .returned (.agg #[.string ⟨#[]⟩, .int .i64 0, .int .i64 1, .int .u64 3, .bool true, .int .i64 m]) ∧ Below w.heap.size w w' := by
  have hB0 : Hid (BlkG (w.alloc (.cells info0.toArray 113)) w.heap.size 113 info0) := qh (BlkG.new w _ _)
  have hb0 : Hid (Below w.heap.size w (w.alloc (.cells info0.toArray 113))) := qh (xalloc (xrefl w) _)
  go_enter Tryz.func153, Tryz.ntmps153
  go_wp2_with (refine wpList_store_blkG rfl 113 _ _ rfl w.heap.size rfl 113 info0 [.string ⟨#[]⟩, .int .i64 0, .int .i64 1, .int .u64 3, .bool true, .int .i64 m] hB0.out rfl rfl (by kernel_rfl) rfl ?_; intro w2 hB2 ho2; have hB3 := qh hB2; have hb3 := qh (ho2.below hb0.out hb0.out.size (by rintro k rfl; exact Nat.le_refl _)); clear hB2 ho2)
  exact bodyPost_ret (results_blkG (p := 2) rfl _ _ w.heap.size 113 _ _ rfl hB3.out Tryz.underlying113 rfl (by kernel_rfl)) rfl ⟨rfl, hb3.out⟩
set_option maxRecDepth 100000 in
theorem fam2_any (m : Int) (w : World) (h0 : 0 ≤ m) (h1 : m ≤ 100) : Calls Tryz.prog 154 #[.int .i64 m] w fun e w' => e = .returned (.agg #[.string ⟨#[]⟩, .int .i64 m, .int .i64 (m + 1), .int .u64 3, .bool true, .int .i64 0]) ∧ Below w.heap.size w w' := by
  have hB0 : Hid (BlkG (w.alloc (.cells info0.toArray 113)) w.heap.size 113 info0) := qh (BlkG.new w _ _)
  have hb0 : Hid (Below w.heap.size w (w.alloc (.cells info0.toArray 113))) := qh (xalloc (xrefl w) _)
  go_enter Tryz.func154, Tryz.ntmps154
  go_wp2_with (refine wpList_store_blkG rfl 113 _ _ rfl w.heap.size rfl 113 info0 [.string ⟨#[]⟩, .int .i64 m, .int .i64 (m + 1), .int .u64 3, .bool true, .int .i64 0] hB0.out rfl rfl (by kernel_rfl) rfl ?_; intro w2 hB2 ho2; have hB3 := qh hB2; have hb3 := qh (ho2.below hb0.out hb0.out.size (by rintro k rfl; exact Nat.le_refl _)); clear hB2 ho2)
  exact bodyPost_ret (results_blkG (p := 2) rfl _ _ w.heap.size 113 _ _ rfl hB3.out Tryz.underlying113 rfl (by kernel_rfl)) rfl ⟨rfl, hb3.out⟩
set_option maxRecDepth 100000 in
theorem fam3_any (m : Int) (w : World) (h0 : 0 ≤ m) (h1 : m ≤ 100) : Calls Tryz.prog 155 #[.int .i64 m] w fun e w' => e = .returned (.agg #[.string ⟨#[]⟩, .int .i64 (m + 1), .int .i64 (m + 1), .int .u64 3, .bool true, .int .i64 0]) ∧ Below w.heap.size w w' := by
  have hB0 : Hid (BlkG (w.alloc (.cells info0.toArray 113)) w.heap.size 113 info0) := qh (BlkG.new w _ _)
  have hb0 : Hid (Below w.heap.size w (w.alloc (.cells info0.toArray 113))) := qh (xalloc (xrefl w) _)
  go_enter Tryz.func155, Tryz.ntmps155
  go_wp2_with (refine wpList_store_blkG rfl 113 _ _ rfl w.heap.size rfl 113 info0 [.string ⟨#[]⟩, .int .i64 (m + 1), .int .i64 (m + 1), .int .u64 3, .bool true, .int .i64 0] hB0.out rfl rfl (by kernel_rfl) rfl ?_; intro w2 hB2 ho2; have hB3 := qh hB2; have hb3 := qh (ho2.below hb0.out hb0.out.size (by rintro k rfl; exact Nat.le_refl _)); clear hB2 ho2)
  exact bodyPost_ret (results_blkG (p := 2) rfl _ _ w.heap.size 113 _ _ rfl hB3.out Tryz.underlying113 rfl (by kernel_rfl)) rfl ⟨rfl, hb3.out⟩
set_option maxRecDepth 100000 in
theorem fam4_any (m : Int) (w : World) (h0 : 0 ≤ m) (h1 : m ≤ 100) : Calls Tryz.prog 156 #[.int .i64 m] w fun e w' => e = .returned (.agg #[.string ⟨#[]⟩, .int .i64 (m + 1), .int .i64 0, .int .u64 (375 * m), .bool false, .int .i64 0]) ∧ Below w.heap.size w w' := by
  have hB0 : Hid (BlkG (w.alloc (.cells info0.toArray 113)) w.heap.size 113 info0) := qh (BlkG.new w _ _)
  have hb0 : Hid (Below w.heap.size w (w.alloc (.cells info0.toArray 113))) := qh (xalloc (xrefl w) _)
  go_enter Tryz.func156, Tryz.ntmps156
  go_wp2_with (refine wpList_store_blkG rfl 113 _ _ rfl w.heap.size rfl 113 info0 [.string ⟨#[]⟩, .int .i64 (m + 1), .int .i64 0, .int .u64 (375 * m), .bool false, .int .i64 0] hB0.out rfl rfl (by kernel_rfl) rfl ?_; intro w2 hB2 ho2; have hB3 := qh hB2; have hb3 := qh (ho2.below hb0.out hb0.out.size (by rintro k rfl; exact Nat.le_refl _)); clear hB2 ho2)
  exact bodyPost_ret (results_blkG (p := 2) rfl _ _ w.heap.size 113 _ _ rfl hB3.out Tryz.underlying113 rfl (by kernel_rfl)) rfl ⟨rfl, hb3.out⟩
theorem famI1 (i : Nat) (h : i < 32) : infoN (96 + i) = ⟨[80, 85, 83, 72] ++ digN (i + 1), 0, 1, 3, true, i + 1⟩ := by
  have e : famN (96 + i) = some ⟨[80, 85, 83, 72] ++ digN (i + 1), 0, 1, 3, true, i + 1⟩ := by
    unfold famN
    rw [if_pos (by omega)]
    rw [show 96 + i - 95 = i + 1 by omega]
  unfold infoN
  rw [e]
set_option maxRecDepth 100000 in
set_option maxHeartbeats 2000000 in
theorem faminfo1_any (i : Nat) (w : World) (h : i < 32) : Calls Tryz.prog 134 #[.agg #[.int .i64 96, .int .i64 32, .func (.func 153) #[] #[]], .string ⟨#[80, 85, 83, 72]⟩, .int .i64 i] w fun e w' => e = .returned (infoV (infoN (96 + i))) ∧ Below w.heap.size w w' := by
  rw [famI1 i h]
  have hB0 : Hid (BlkG ((w.alloc (.cells #[.int .i64 96, .int .i64 32, .func (.func 153) #[] #[]] 190)).alloc (.cells info0.toArray 113)) (w.heap.size + 1) 113 info0) := qh (by
    have := BlkG.new (w.alloc (.cells #[.int .i64 96, .int .i64 32, .func (.func 153) #[] #[]] 190)) 113 info0
    rwa [World.size_alloc] at this)
  have hb0 : Hid (Below w.heap.size w ((w.alloc (.cells #[.int .i64 96, .int .i64 32, .func (.func 153) #[] #[]] 190)).alloc (.cells info0.toArray 113))) := qh (xalloc (xalloc (xrefl w) _) _)
  have hfam := qh fun W => fam1_any ((i : Int) + 1) W (by omega) (by omega)
  have hit := qh fun W => Tryz.strconv_Itoa_small (i + 1) (by omega) W
  have hdg := qh (dig_dec (i + 1) (by omega))
  have hu := Tryz.underlying113
  have ci : ((i : Nat) : Int) + 1 = ((i + 1 : Nat) : Int) := by omega
  go_enter Tryz.func134, Tryz.ntmps134
  replace ci := qh ci
  obtain ⟨T1, hT1, hS1, hitt⟩ : ∃ T1 : ByteArray, T1 = ⟨(Lib.decDigits (i + 1)).toArray⟩ ∧ T1.size ≤ 2 ∧ ∀ W, Calls Tryz.prog 157 #[.int .i64 ((i : Int) + 1)] W fun e w' => e = .returned (.string T1) ∧ w' = W := ⟨_, rfl, dec_size (by omega), fun W => by rw [ci.out]; exact hit.out W⟩
  replace hT1 := qh hT1
  replace hitt := qh hitt
  go_wp2_with (first
    | (go_at_call 153; refine (hfam.out _).mono ?_; rintro e w1 ⟨rfl, hb1⟩; have hR := qh (hB0.out.below hb1); replace hb1 := qh (xtrans hb0.out hb1); clear hfam)
    | (refine wpList_store_blkG rfl 113 _ _ rfl w1.heap.size rfl 113 info0 [.string ⟨#[]⟩, .int .i64 0, .int .i64 1, .int .u64 3, .bool true, .int .i64 ((i : Int) + 1)] (BlkG.new w1 _ _) rfl rfl (by kernel_rfl) rfl ?_; intro w2 hX2 ho2; have hb2 := ho2.below (xalloc (xrefl w1) _) (by rw [World.size_alloc]; omega) (by rintro k rfl; exact Nat.le_refl _); have hR2 := qh (hR.out.below hb2); replace hb2 := qh (xtrans hb1.out hb2); replace hX2 := qh hX2; clear ho2)
    | (go_at_call 157; (first | (with_reducible refine (hitt.out _).mono ?_)); rintro e w' ⟨rfl, rfl⟩)
    | (refine wpList_store_at rfl 9 _ _ rfl w1.heap.size 0 rfl 113 _ (.string (⟨#[80, 85, 83, 72]⟩ ++ T1)) hX2.out (by show 0 < 6; omega) rfl (by kernel_rfl) rfl ?_; intro w3 hX3 ho3; have hR3 := qh (hR2.out.only ho3 (by have := hR.out.lt; omega)); have hb3 := qh (ho3.below hb2.out hb2.out.size (by rintro k rfl; exact hb1.out.size)); replace hX3 := qh hX3; clear ho3 hX2)
    | (refine wpList_load_blkG rfl 113 _ rfl w1.heap.size rfl 113 _ _ hX3.out hu rfl (by kernel_rfl) ?_)
    | (refine wpList_store_blkG rfl 113 _ _ rfl (w.heap.size + 1) rfl 113 info0 [.string (⟨#[80, 85, 83, 72]⟩ ++ T1), .int .i64 0, .int .i64 1, .int .u64 3, .bool true, .int .i64 ((i : Int) + 1)] hR3.out rfl rfl (by kernel_rfl) rfl ?_; intro w9 hX9 ho9; have hR9 := qh hX9; have hb9 := qh (ho9.below hb3.out hb3.out.size (by rintro k rfl; omega)); clear hX9 ho9))
  refine bodyPost_ret (results_blkG (p := 6) rfl _ _ (w.heap.size + 1) 113 _ _ rfl hR9.out hu rfl (by kernel_rfl)) rfl ⟨?_, hb9.out⟩
  have e : (⟨#[80, 85, 83, 72]⟩ : ByteArray) ++ T1 = ⟨([80, 85, 83, 72] ++ digN (i + 1)).toArray⟩ := by rw [hT1.out, hdg.out]; exact str_add [80, 85, 83, 72] _
  rw [e]
  rfl
theorem famI2 (i : Nat) (h : i < 16) : infoN (128 + i) = ⟨[68, 85, 80] ++ digN (i + 1), i + 1, i + 1 + 1, 3, true, 0⟩ := by
  have e : famN (128 + i) = some ⟨[68, 85, 80] ++ digN (i + 1), i + 1, i + 1 + 1, 3, true, 0⟩ := by
    unfold famN
    rw [if_neg (by omega)]
    rw [if_pos (by omega)]
    rw [show 128 + i - 127 = i + 1 by omega, show 128 + i - 126 = i + 1 + 1 by omega]
  unfold infoN
  rw [e]
set_option maxRecDepth 100000 in
set_option maxHeartbeats 2000000 in
theorem faminfo2_any (i : Nat) (w : World) (h : i < 16) : Calls Tryz.prog 134 #[.agg #[.int .i64 128, .int .i64 16, .func (.func 154) #[] #[]], .string ⟨#[68, 85, 80]⟩, .int .i64 i] w fun e w' => e = .returned (infoV (infoN (128 + i))) ∧ Below w.heap.size w w' := by
  rw [famI2 i h]
  have hB0 : Hid (BlkG ((w.alloc (.cells #[.int .i64 128, .int .i64 16, .func (.func 154) #[] #[]] 190)).alloc (.cells info0.toArray 113)) (w.heap.size + 1) 113 info0) := qh (by
    have := BlkG.new (w.alloc (.cells #[.int .i64 128, .int .i64 16, .func (.func 154) #[] #[]] 190)) 113 info0
    rwa [World.size_alloc] at this)
  have hb0 : Hid (Below w.heap.size w ((w.alloc (.cells #[.int .i64 128, .int .i64 16, .func (.func 154) #[] #[]] 190)).alloc (.cells info0.toArray 113))) := qh (xalloc (xalloc (xrefl w) _) _)
  have hfam := qh fun W => fam2_any ((i : Int) + 1) W (by omega) (by omega)
  have hit := qh fun W => Tryz.strconv_Itoa_small (i + 1) (by omega) W
  have hdg := qh (dig_dec (i + 1) (by omega))
  have hu := Tryz.underlying113
  have ci : ((i : Nat) : Int) + 1 = ((i + 1 : Nat) : Int) := by omega
  go_enter Tryz.func134, Tryz.ntmps134
  replace ci := qh ci
  obtain ⟨T1, hT1, hS1, hitt⟩ : ∃ T1 : ByteArray, T1 = ⟨(Lib.decDigits (i + 1)).toArray⟩ ∧ T1.size ≤ 2 ∧ ∀ W, Calls Tryz.prog 157 #[.int .i64 ((i : Int) + 1)] W fun e w' => e = .returned (.string T1) ∧ w' = W := ⟨_, rfl, dec_size (by omega), fun W => by rw [ci.out]; exact hit.out W⟩
  replace hT1 := qh hT1
  replace hitt := qh hitt
  go_wp2_with (first
    | (go_at_call 154; refine (hfam.out _).mono ?_; rintro e w1 ⟨rfl, hb1⟩; have hR := qh (hB0.out.below hb1); replace hb1 := qh (xtrans hb0.out hb1); clear hfam)
    | (refine wpList_store_blkG rfl 113 _ _ rfl w1.heap.size rfl 113 info0 [.string ⟨#[]⟩, .int .i64 ((i : Int) + 1), .int .i64 (((i : Int) + 1) + 1), .int .u64 3, .bool true, .int .i64 0] (BlkG.new w1 _ _) rfl rfl (by kernel_rfl) rfl ?_; intro w2 hX2 ho2; have hb2 := ho2.below (xalloc (xrefl w1) _) (by rw [World.size_alloc]; omega) (by rintro k rfl; exact Nat.le_refl _); have hR2 := qh (hR.out.below hb2); replace hb2 := qh (xtrans hb1.out hb2); replace hX2 := qh hX2; clear ho2)
    | (go_at_call 157; (first | (with_reducible refine (hitt.out _).mono ?_)); rintro e w' ⟨rfl, rfl⟩)
    | (refine wpList_store_at rfl 9 _ _ rfl w1.heap.size 0 rfl 113 _ (.string (⟨#[68, 85, 80]⟩ ++ T1)) hX2.out (by show 0 < 6; omega) rfl (by kernel_rfl) rfl ?_; intro w3 hX3 ho3; have hR3 := qh (hR2.out.only ho3 (by have := hR.out.lt; omega)); have hb3 := qh (ho3.below hb2.out hb2.out.size (by rintro k rfl; exact hb1.out.size)); replace hX3 := qh hX3; clear ho3 hX2)
    | (refine wpList_load_blkG rfl 113 _ rfl w1.heap.size rfl 113 _ _ hX3.out hu rfl (by kernel_rfl) ?_)
    | (refine wpList_store_blkG rfl 113 _ _ rfl (w.heap.size + 1) rfl 113 info0 [.string (⟨#[68, 85, 80]⟩ ++ T1), .int .i64 ((i : Int) + 1), .int .i64 (((i : Int) + 1) + 1), .int .u64 3, .bool true, .int .i64 0] hR3.out rfl rfl (by kernel_rfl) rfl ?_; intro w9 hX9 ho9; have hR9 := qh hX9; have hb9 := qh (ho9.below hb3.out hb3.out.size (by rintro k rfl; omega)); clear hX9 ho9))
  refine bodyPost_ret (results_blkG (p := 6) rfl _ _ (w.heap.size + 1) 113 _ _ rfl hR9.out hu rfl (by kernel_rfl)) rfl ⟨?_, hb9.out⟩
  have e : (⟨#[68, 85, 80]⟩ : ByteArray) ++ T1 = ⟨([68, 85, 80] ++ digN (i + 1)).toArray⟩ := by rw [hT1.out, hdg.out]; exact str_add [68, 85, 80] _
  rw [e]
  rfl
theorem famI3 (i : Nat) (h : i < 16) : infoN (144 + i) = ⟨[83, 87, 65, 80] ++ digN (i + 1), i + 1 + 1, i + 1 + 1, 3, true, 0⟩ := by
  have e : famN (144 + i) = some ⟨[83, 87, 65, 80] ++ digN (i + 1), i + 1 + 1, i + 1 + 1, 3, true, 0⟩ := by
    unfold famN
    rw [if_neg (by omega)]
    rw [if_neg (by omega)]
    rw [if_pos (by omega)]
    rw [show 144 + i - 143 = i + 1 by omega, show 144 + i - 142 = i + 1 + 1 by omega]
  unfold infoN
  rw [e]
set_option maxRecDepth 100000 in
set_option maxHeartbeats 2000000 in
theorem faminfo3_any (i : Nat) (w : World) (h : i < 16) : Calls Tryz.prog 134 #[.agg #[.int .i64 144, .int .i64 16, .func (.func 155) #[] #[]], .string ⟨#[83, 87, 65, 80]⟩, .int .i64 i] w fun e w' => e = .returned (infoV (infoN (144 + i))) ∧ Below w.heap.size w w' := by
  rw [famI3 i h]
  have hB0 : Hid (BlkG ((w.alloc (.cells #[.int .i64 144, .int .i64 16, .func (.func 155) #[] #[]] 190)).alloc (.cells info0.toArray 113)) (w.heap.size + 1) 113 info0) := qh (by
    have := BlkG.new (w.alloc (.cells #[.int .i64 144, .int .i64 16, .func (.func 155) #[] #[]] 190)) 113 info0
    rwa [World.size_alloc] at this)
  have hb0 : Hid (Below w.heap.size w ((w.alloc (.cells #[.int .i64 144, .int .i64 16, .func (.func 155) #[] #[]] 190)).alloc (.cells info0.toArray 113))) := qh (xalloc (xalloc (xrefl w) _) _)
  have hfam := qh fun W => fam3_any ((i : Int) + 1) W (by omega) (by omega)
  have hit := qh fun W => Tryz.strconv_Itoa_small (i + 1) (by omega) W
  have hdg := qh (dig_dec (i + 1) (by omega))
  have hu := Tryz.underlying113
  have ci : ((i : Nat) : Int) + 1 = ((i + 1 : Nat) : Int) := by omega
  go_enter Tryz.func134, Tryz.ntmps134
  replace ci := qh ci
  obtain ⟨T1, hT1, hS1, hitt⟩ : ∃ T1 : ByteArray, T1 = ⟨(Lib.decDigits (i + 1)).toArray⟩ ∧ T1.size ≤ 2 ∧ ∀ W, Calls Tryz.prog 157 #[.int .i64 ((i : Int) + 1)] W fun e w' => e = .returned (.string T1) ∧ w' = W := ⟨_, rfl, dec_size (by omega), fun W => by rw [ci.out]; exact hit.out W⟩
  replace hT1 := qh hT1
  replace hitt := qh hitt
  go_wp2_with (first
    | (go_at_call 155; refine (hfam.out _).mono ?_; rintro e w1 ⟨rfl, hb1⟩; have hR := qh (hB0.out.below hb1); replace hb1 := qh (xtrans hb0.out hb1); clear hfam)
    | (refine wpList_store_blkG rfl 113 _ _ rfl w1.heap.size rfl 113 info0 [.string ⟨#[]⟩, .int .i64 (((i : Int) + 1) + 1), .int .i64 (((i : Int) + 1) + 1), .int .u64 3, .bool true, .int .i64 0] (BlkG.new w1 _ _) rfl rfl (by kernel_rfl) rfl ?_; intro w2 hX2 ho2; have hb2 := ho2.below (xalloc (xrefl w1) _) (by rw [World.size_alloc]; omega) (by rintro k rfl; exact Nat.le_refl _); have hR2 := qh (hR.out.below hb2); replace hb2 := qh (xtrans hb1.out hb2); replace hX2 := qh hX2; clear ho2)
    | (go_at_call 157; (first | (with_reducible refine (hitt.out _).mono ?_)); rintro e w' ⟨rfl, rfl⟩)
    | (refine wpList_store_at rfl 9 _ _ rfl w1.heap.size 0 rfl 113 _ (.string (⟨#[83, 87, 65, 80]⟩ ++ T1)) hX2.out (by show 0 < 6; omega) rfl (by kernel_rfl) rfl ?_; intro w3 hX3 ho3; have hR3 := qh (hR2.out.only ho3 (by have := hR.out.lt; omega)); have hb3 := qh (ho3.below hb2.out hb2.out.size (by rintro k rfl; exact hb1.out.size)); replace hX3 := qh hX3; clear ho3 hX2)
    | (refine wpList_load_blkG rfl 113 _ rfl w1.heap.size rfl 113 _ _ hX3.out hu rfl (by kernel_rfl) ?_)
    | (refine wpList_store_blkG rfl 113 _ _ rfl (w.heap.size + 1) rfl 113 info0 [.string (⟨#[83, 87, 65, 80]⟩ ++ T1), .int .i64 (((i : Int) + 1) + 1), .int .i64 (((i : Int) + 1) + 1), .int .u64 3, .bool true, .int .i64 0] hR3.out rfl rfl (by kernel_rfl) rfl ?_; intro w9 hX9 ho9; have hR9 := qh hX9; have hb9 := qh (ho9.below hb3.out hb3.out.size (by rintro k rfl; omega)); clear hX9 ho9))
  refine bodyPost_ret (results_blkG (p := 6) rfl _ _ (w.heap.size + 1) 113 _ _ rfl hR9.out hu rfl (by kernel_rfl)) rfl ⟨?_, hb9.out⟩
  have e : (⟨#[83, 87, 65, 80]⟩ : ByteArray) ++ T1 = ⟨([83, 87, 65, 80] ++ digN (i + 1)).toArray⟩ := by rw [hT1.out, hdg.out]; exact str_add [83, 87, 65, 80] _
  rw [e]
  rfl
theorem famI4 (i : Nat) (h : i < 5) : infoN (160 + i) = ⟨[76, 79, 71] ++ digN i, i + 1 + 1, 0, 375 * (i + 1), false, 0⟩ := by
  have e : famN (160 + i) = some ⟨[76, 79, 71] ++ digN i, i + 1 + 1, 0, 375 * (i + 1), false, 0⟩ := by
    unfold famN
    rw [if_neg (by omega)]
    rw [if_neg (by omega)]
    rw [if_neg (by omega)]
    rw [if_pos (by omega)]
    rw [show 160 + i - 160 = i by omega, show 160 + i - 158 = i + 1 + 1 by omega, show 160 + i - 159 = i + 1 by omega]
  unfold infoN
  rw [e]
set_option maxRecDepth 100000 in
set_option maxHeartbeats 2000000 in
theorem faminfo4_any (i : Nat) (w : World) (h : i < 5) : Calls Tryz.prog 134 #[.agg #[.int .i64 160, .int .i64 5, .func (.func 156) #[] #[]], .string ⟨#[76, 79, 71]⟩, .int .i64 i] w fun e w' => e = .returned (infoV (infoN (160 + i))) ∧ Below w.heap.size w w' := by
  rw [famI4 i h]
  have hB0 : Hid (BlkG ((w.alloc (.cells #[.int .i64 160, .int .i64 5, .func (.func 156) #[] #[]] 190)).alloc (.cells info0.toArray 113)) (w.heap.size + 1) 113 info0) := qh (by
    have := BlkG.new (w.alloc (.cells #[.int .i64 160, .int .i64 5, .func (.func 156) #[] #[]] 190)) 113 info0
    rwa [World.size_alloc] at this)
  have hb0 : Hid (Below w.heap.size w ((w.alloc (.cells #[.int .i64 160, .int .i64 5, .func (.func 156) #[] #[]] 190)).alloc (.cells info0.toArray 113))) := qh (xalloc (xalloc (xrefl w) _) _)
  have hfam := qh fun W => fam4_any ((i : Int) + 1) W (by omega) (by omega)
  have hit := qh fun W => Tryz.strconv_Itoa_small (i + 1) (by omega) W
  have hit2 := qh fun W => Tryz.strconv_Itoa_small i (by omega) W
  have hdg := qh (dig_dec (i) (by omega))
  have hu := Tryz.underlying113
  have ci : ((i : Nat) : Int) + 1 = ((i + 1 : Nat) : Int) := by omega
  go_enter Tryz.func134, Tryz.ntmps134
  replace ci := qh ci
  obtain ⟨T1, hT1, hS1, hitt⟩ : ∃ T1 : ByteArray, T1 = ⟨(Lib.decDigits (i + 1)).toArray⟩ ∧ T1.size ≤ 2 ∧ ∀ W, Calls Tryz.prog 157 #[.int .i64 ((i : Int) + 1)] W fun e w' => e = .returned (.string T1) ∧ w' = W := ⟨_, rfl, dec_size (by omega), fun W => by rw [ci.out]; exact hit.out W⟩
  replace hT1 := qh hT1
  replace hitt := qh hitt
  obtain ⟨T2, hT2, hS2, hitt2⟩ : ∃ T2 : ByteArray, T2 = ⟨(Lib.decDigits i).toArray⟩ ∧ T2.size ≤ 2 ∧ ∀ W, Calls Tryz.prog 157 #[.int .i64 (i : Int)] W fun e w' => e = .returned (.string T2) ∧ w' = W := ⟨_, rfl, dec_size (by omega), fun W => hit2.out W⟩
  replace hT2 := qh hT2
  replace hitt2 := qh hitt2
  go_wp2_with (first
    | (go_at_call 156; refine (hfam.out _).mono ?_; rintro e w1 ⟨rfl, hb1⟩; have hR := qh (hB0.out.below hb1); replace hb1 := qh (xtrans hb0.out hb1); clear hfam)
    | (refine wpList_store_blkG rfl 113 _ _ rfl w1.heap.size rfl 113 info0 [.string ⟨#[]⟩, .int .i64 (((i : Int) + 1) + 1), .int .i64 0, .int .u64 (375 * ((i : Int) + 1)), .bool false, .int .i64 0] (BlkG.new w1 _ _) rfl rfl (by kernel_rfl) rfl ?_; intro w2 hX2 ho2; have hb2 := ho2.below (xalloc (xrefl w1) _) (by rw [World.size_alloc]; omega) (by rintro k rfl; exact Nat.le_refl _); have hR2 := qh (hR.out.below hb2); replace hb2 := qh (xtrans hb1.out hb2); replace hX2 := qh hX2; clear ho2)
    | (go_at_call 157; (first | (with_reducible refine (hitt.out _).mono ?_) | (with_reducible refine (hitt2.out _).mono ?_)); rintro e w' ⟨rfl, rfl⟩)
    | (refine wpList_store_at rfl 9 _ _ rfl w1.heap.size 0 rfl 113 _ (.string (⟨#[76, 79, 71]⟩ ++ T1)) hX2.out (by show 0 < 6; omega) rfl (by kernel_rfl) rfl ?_; intro w3 hX3 ho3; have hR3 := qh (hR2.out.only ho3 (by have := hR.out.lt; omega)); have hb3 := qh (ho3.below hb2.out hb2.out.size (by rintro k rfl; exact hb1.out.size)); replace hX3 := qh hX3; clear ho3 hX2)
    | (refine wpList_store_at rfl 9 _ _ rfl w1.heap.size 0 rfl 113 _ (.string (⟨#[76, 79, 71]⟩ ++ T2)) hX3.out (by show 0 < 6; omega) rfl (by kernel_rfl) rfl ?_; intro w4 hX4 ho4; have hR4 := qh (hR3.out.only ho4 (by have := hR.out.lt; omega)); have hb4 := qh (ho4.below hb3.out hb3.out.size (by rintro k rfl; exact hb1.out.size)); replace hX4 := qh hX4; clear ho4 hX3)
    | (refine wpList_load_blkG rfl 113 _ rfl w1.heap.size rfl 113 _ _ hX4.out hu rfl (by kernel_rfl) ?_)
    | (refine wpList_store_blkG rfl 113 _ _ rfl (w.heap.size + 1) rfl 113 info0 [.string (⟨#[76, 79, 71]⟩ ++ T2), .int .i64 (((i : Int) + 1) + 1), .int .i64 0, .int .u64 (375 * ((i : Int) + 1)), .bool false, .int .i64 0] hR4.out rfl rfl (by kernel_rfl) rfl ?_; intro w9 hX9 ho9; have hR9 := qh hX9; have hb9 := qh (ho9.below hb4.out hb4.out.size (by rintro k rfl; omega)); clear hX9 ho9))
  refine bodyPost_ret (results_blkG (p := 6) rfl _ _ (w.heap.size + 1) 113 _ _ rfl hR9.out hu rfl (by kernel_rfl)) rfl ⟨?_, hb9.out⟩
  have e : (⟨#[76, 79, 71]⟩ : ByteArray) ++ T2 = ⟨([76, 79, 71] ++ digN (i)).toArray⟩ := by rw [hT2.out, hdg.out]; exact str_add [76, 79, 71] _
  rw [e]
  rfl
end
end Go.Proofs.YtijkdabmegbcjaaGreatDoor
