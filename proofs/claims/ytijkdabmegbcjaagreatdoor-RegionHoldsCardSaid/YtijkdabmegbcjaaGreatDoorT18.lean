/- Texts of this claim, merged; no condition. -/
import Derived.Test.YtijkdabmegbcjaaGreatDoorTS
import Derived.Sort.OwnSortedInts
import Derived.Test.YtijkdabmegbcjaaGreatDoorT17
import Derived.Test.YtijkdabmegbcjaaGreatDoorT14
import Derived.Test.YtijkdabmegbcjaaGreatDoorTA
set_option linter.all false
namespace Go.Proofs.YtijkdabmegbcjaaGreatDoor
section
open Go.RowKit Go.Shelf Go.Sort
attribute [local go_sem] Oper.semAt_some
theorem ininfo : (Tryz.prog.info? 3).map (fun i => (i.zero, i.size, i.bytes)) = some (some (Value.int .i64 0), 1, 8) := by kernel_rfl
structure SeqIn (gf : Nat) (lb : Array Value) (Rd : Nat → Prop) (S Sp : List Int → Prop) (N : Nat) (w : World) : Prop where
  en : ∀ args w, (callFunc gf args).run Tryz.prog w = .ok (.enter gf args) w
  seq : ∀ W, Below w.heap.size w W → SeqP Tryz.prog gf lb (fun x : Int => #[.int .i64 x]) Rd S Sp N false W
  rd : ∀ k, Rd k → k < w.heap.size
  le : N ≤ 1000000
theorem SeqIn.below {gf : Nat} {lb : Array Value} {Rd : Nat → Prop} {S Sp : List Int → Prop} {N : Nat} {w w' : World} (h : SeqIn gf lb Rd S Sp N w) (hb : Below w.heap.size w w') : SeqIn gf lb Rd S Sp N w' :=
  ⟨h.en, fun W hW => h.seq W (xtrans hb hW), fun k hk => Nat.lt_of_lt_of_le (h.rd k hk) hb.size, h.le⟩
set_option maxRecDepth 100000 in
set_option maxHeartbeats 1000000 in
theorem inappendSeq_any {gf : Nat} {lb : Array Value} {Rd : Nat → Prop} {S Sp : List Int → Prop} {N : Nat} (w : World) (h : SeqIn gf lb Rd S Sp N w) (hSp : ∀ pre, Sp pre → pre.length ≤ N) (hSl : ∀ xs, S xs → xs.length ≤ N) :
    Calls Tryz.prog 122 #[.slice none 0 0, .func (.func gf) #[] lb] w fun e w' => ∃ v xs, e = .returned v ∧ S xs ∧ w'.ownsRow w.heap.size 3 1 v xs.length (xs.map (Value.int .i64)) ∧ Below w.heap.size w w' := by
  obtain ⟨i0, hi, hz0, hz1, hz2⟩ := info_parts ininfo
  have hle := h.le
  have hrd := h.rd
  have hbw : Below w.heap.size w (w.alloc (.cells #[.slice none 0 0] 42)) := xalloc (xrefl w) _
  have h1 := qh (h.below hbw)
  have h00 : AI (α := Int) 42 3 (Value.int .i64) w.heap.size w (fun _ => False) [] (w.alloc (.cells #[.slice none 0 0] 42)) :=
    ⟨.slice none 0 0, World.alloc_heap_new w _, ⟨rfl, .inl ⟨rfl, rfl⟩⟩, (fun g h => by cases h), hbw⟩
  replace h00 := qh h00
  replace hSp := qh hSp
  clear h
  refine (callsIn_wide (n := 0)).1 ?_
  refine callsIn_of_wp_marks Tryz.func122 rfl trivial ?_ rfl
  simp only [Tryz.ntmps122, List.size_toArray, List.length_cons, List.length_nil, Nat.reduceAdd, Nat.reduceSub, Array.replicate_succ, Array.replicate_zero, List.push_toArray, List.append_toArray, List.nil_append, List.cons_append]
  refine wpIn_wide.2 ?_
  go_wp2
  have hsz : (w.alloc (.cells #[.slice none 0 0] 42)).heap.size = w.heap.size + 1 := World.size_alloc _ _
  generalize w.alloc (.cells #[.slice none 0 0] 42) = w1 at h1 h00 hsz hbw ⊢
  have hst := ai_stable (α := Int) (ST := 42) (ET := 3) (enc := Value.int .i64) (w := w) (B := w.heap.size) w1.heap.size (by omega) (by omega)
  refine (wpIn_wide (n := 0)).1 ?_
  refine wp_rangeP (gf := gf) (lb := lb) rfl h1.out.en (encs := fun x : Int => #[.int .i64 x]) (Rd := Rd)
    (S := S) (Sp := Sp) (N := N) (inf := false) h1.out.rd h1.out.seq (fun x => rfl) (AI 42 3 (Value.int .i64) w.heap.size w) (fun _ _ _ _ => False) hst (fun _ _ _ _ _ _ h _ _ _ => h) h00.out (fun h => by cases h) ?round ?done ?stop
  case round =>
    rintro l1 O pre m W1 hOl hO ⟨v, g1, g2, g3, g4⟩ hlen hsp
    gi_wp2
    refine ⟨Keep.refl _ _, fun W2 hon => ?_⟩
    have hl4 : w1.heap.size ≤ l1 := (hO l1 hOl).1
    have hlW := (hO l1 hOl).2
    have n1 : ¬ (w.heap.size = l1) := by omega
    have c1 : W2.heap[w.heap.size]? = some (.cells #[v] 42) := (hon.same _ (Array.getElem?_eq_some_iff.1 g1).1 n1).trans g1
    have o1 := ai_only g2 hon (fun g hg e => g3 g hg (by rw [e]; exact hOl))
    have b1 := hon.below g4 g4.size (by rintro i rfl; omega)
    have hs2 := hon.size
    have hOs : Hid (∀ k, O k → w.heap.size < k ∧ k < W2.heap.size) := qh fun k h => by have := hO k h; omega
    have hwl : w.heap.size < W2.heap.size := by omega
    replace g3 := qh g3
    clear hon g1 g2 g4 hO
    have cv := boxed_cell c1
    replace o1 := qh o1
    replace b1 := qh b1
    replace c1 := qh c1
    have hbW : Below W2.heap.size W2 (W2.alloc (.cells #[.int .i64 m] 3)) := xalloc (xrefl W2) _
    have c3 := (hbW.block _ hwl).trans c1.out
    have o3 := own_keep o1.out hbW
    have b3 := xtrans b1.out hbW
    have hq1 : (W2.alloc (.cells #[.int .i64 m] 3)).cell? ⟨W2.heap.size, 0, none⟩ = some (.int .i64 m) := boxed_cell (World.alloc_heap_new W2 _)
    have hne := boxed_ne o3 c3 (by decide)
    have hmid := fun (V5 : Value) (W5 : World) hg5 c5 o5 hvb => ai_next (ST := 42) (ET := 3) (V5 := V5) (W5 := W5) (show 3 ≠ 42 by decide) m hrd (Nat.le_refl _) o1.out hbW b3 hwl hg5 c5 o5 hvb g3.out hOs.out
    obtain ⟨W3, hW3⟩ : ∃ W3, W2.alloc (.cells #[.int .i64 m] 3) = W3 := ⟨_, rfl⟩
    rw [hW3] at hmid hq1 b3 o3 c3 hbW
    replace hmid := qh hmid
    replace hbW := qh hbW
    gi_wp2_with (refine wpListIn_append_blk W3 rfl _ _ 42 rfl w.heap.size 3 i0 (.int .i64 0) 8 Tryz.underlying42 hi hz0 hz1 hz2 rfl v pre.length _ rfl o3 ⟨W2.heap.size, 0, none⟩ 1 1 [.int .i64 m] rfl rfl (by intro j u hj; match j, hj with | 0, hj => (injection hj with hj; subst hj; exact hq1)) (by intro u hu; rw [List.mem_singleton.1 hu]; rfl) (by unfold maxLen; omega) (by omega) b3.size ?_; intro v5 W5 ho5 hg5 hvb5; have c5 : W5.heap[w.heap.size]? = some (.cells #[v] 42) := (hg5.block _ (Array.getElem?_eq_some_iff.1 c3).1 (fun e => hne e.symm)).trans c3; have cc5 := boxed_cell c5; have cf5 := boxed_free c5; obtain ⟨a5, e5, rfl⟩ := own_slice ho5; have hfin := hmid.out _ W5 hg5 c5 ho5 hvb5; replace hfin := qh hfin; clear ho5 hg5 hvb5 c5)
    exact ⟨hfin.out.2, hfin.out.1⟩
  case done =>
    rintro D xs O W hD hOD hO hS ⟨v, g1, g2, g3, g4⟩ hK
    have cv := boxed_cell g1
    have hKl := (Array.getElem?_eq_some_iff.1 hK).1
    replace hK := qh hK
    replace g1 := qh g1
    replace g2 := qh g2
    replace g4 := qh g4
    go_wp2
    have hput := (Only.refl (· = D) W).putObj D (.deferred none) rfl
    refine ⟨by simp [Act.put], .inl ⟨_, _, rfl, run_takeDeferred hK.out, ?_⟩⟩
    refine ⟨_, results_tmp rfl _ _ _, v, xs, rfl, hS, ai_only g2.out hput (fun g hg e => ?_), hput.below g4.out g4.out.size (by rintro i rfl; omega)⟩
    exact g3 g hg (by rw [e]; exact hOD)
  case stop =>
    rintro D c pre O W hD hOD hO _ h
    exact h.elim
theorem incollect_any {gf : Nat} {lb : Array Value} {Rd : Nat → Prop} {S Sp : List Int → Prop} {N : Nat} (w : World) (h : SeqIn gf lb Rd S Sp N w) (hSp : ∀ pre, Sp pre → pre.length ≤ N) (hSl : ∀ xs, S xs → xs.length ≤ N) :
    Calls Tryz.prog 92 #[.func (.func gf) #[] lb] w fun e w' => ∃ v xs, e = .returned v ∧ S xs ∧ w'.ownsRow w.heap.size 3 1 v xs.length (xs.map (Value.int .i64)) ∧ Below w.heap.size w w' := by
  have ha := qh (inappendSeq_any w h hSp hSl)
  clear h hSp hSl
  go_enter Tryz.func92, Tryz.ntmps92
  go_wp2_with (go_at_call 122; refine ha.out.mono ?_; rintro e w1 ⟨v, xs, rfl, hS, hown, hb⟩; replace hown := qh hown; replace hb := qh hb; replace hS := qh hS)
  go_ret
  exact ⟨v, xs, rfl, hS.out, hown.out, hb.out⟩
theorem insorted_any {gf : Nat} {lb : Array Value} {Rd : Nat → Prop} {S Sp : List Int → Prop} {N : Nat} (w : World) (h : SeqIn gf lb Rd S Sp N w) (hSp : ∀ pre, Sp pre → pre.length ≤ N) (hSl : ∀ xs, S xs → xs.length ≤ N) :
    Calls Tryz.prog 60 #[.func (.func gf) #[] lb] w fun e w' => ∃ v xs, e = .returned v ∧ S xs ∧ w'.ownsRow w.heap.size 3 1 v xs.length ((xs.mergeSort fun x y => decide (x ≤ y)).map (Value.int .i64)) ∧ Below w.heap.size w w' := by
  have hc := qh (incollect_any w h hSp hSl)
  have hle := h.le
  have hSl' := qh hSl
  clear h hSp hSl
  go_enter Tryz.func60, Tryz.ntmps60
  go_upto_region 2 with (go_at_call 92; refine hc.out.mono ?_; rintro e w1 ⟨v, xs, rfl, hS, hown, hb⟩; have hlen := hSl'.out xs hS; replace hS := qh hS)
  rcases hown.2 with ⟨rfl, hz⟩ | ⟨gb, cap, cur, rfl, hbase, hgb, r1, r2, r3, r4⟩
  · have hxs : xs = [] := List.eq_nil_of_length_eq_zero hz
    subst hxs
    have hs0 := Tryz.slices_Sort_none_93 none 0 w1
    replace hown := qh hown
    replace hb := qh hb
    replace hs0 := qh hs0
    clear hz
    go_wp2_with (go_at_call 93; refine hs0.out.mono ?_; rintro e w' ⟨rfl, rfl⟩)
    go_ret
    exact ⟨_, [], rfl, hS.out, by simpa using hown.out, hb.out⟩
  · have hH : Holds (Value.int .i64) w1 gb 0 xs.toArray := Go.holds_of_blockI hgb (by simpa using r4)
    have hgl : gb < w1.heap.size := (Array.getElem?_eq_some_iff.1 hgb).1
    have hsz : xs.length < 4611686018427387904 := by omega
    have cS := qh (Tryz.slices_Sort_93 gb 0 cap xs w1 hH hgl hsz)
    clear hH
    replace hb := qh hb
    replace r4 := qh r4
    replace r3 := qh r3
    replace r2 := qh r2
    replace r1 := qh r1
    replace hown := qh hown
    replace hgb := qh hgb
    go_wp2_with (go_at_call 93; refine cS.out.mono ?_; rintro e w' ⟨rfl, nn, os, hw'⟩; replace hw' := qh hw')
    go_ret
    refine ⟨_, xs, rfl, hS.out, ?_, ?_⟩
    · rw [hw'.out]; exact Go.ownsRow_sortedI (by simp) hbase hgb.out r1.out r2.out r3.out
    · rw [hw'.out]; exact hb.out.grown (Go.grownBy_sortedI _) hb.out.size (fun j hj => by cases hj; exact hbase)
end
section
open Go.RowKit
theorem entI_get (q : IntKind) : ∀ (l : List (Int × Value)) (i j : Nat) (h : j < l.length), (entI q i l)[j]? = some { key := .int q l[j].1, val := l[j].2, born := i + j }
  | x :: l, i, 0, _ => by simp [entI]
  | x :: l, i, j + 1, h => by
    rw [entI, List.getElem?_cons_succ, entI_get q l (i + 1) j (by simpa using h)]
    simp; omega
theorem entI_len (q : IntKind) : ∀ (l : List (Int × Value)) (i : Nat), (entI q i l).length = l.length
  | [], _ => rfl
  | x :: l, i => by rw [entI, List.length_cons, entI_len q l (i + 1), List.length_cons]
theorem entI_mem {q : IntKind} {l : List (Int × Value)} {e : MapEntry} (h : e ∈ entI q 0 l) : ∃ j, ∃ hj : j < l.length, e = { key := .int q l[j].1, val := l[j].2, born := j } := by
  obtain ⟨j, hj, he⟩ := List.getElem_of_mem h
  rw [entI_len] at hj
  have h2 := entI_get q l 0 j hj
  rw [List.getElem?_eq_getElem (by rw [entI_len]; exact hj), he] at h2
  refine ⟨j, hj, ?_⟩
  simpa using h2
theorem entI_find (q : IntKind) (s : Nat) : ∀ (l : List (Int × Value)) (i j : Nat) (h : j < l.length), s = i + j → (entI q i l).find? (fun e => e.born == s) = some { key := .int q l[j].1, val := l[j].2, born := s }
  | x :: l, i, 0, _, e => by subst e; simp [entI]
  | x :: l, i, j + 1, h, e => by
    have hne : (i == s) = false := by rw [beq_eq_false_iff_ne]; omega
    rw [entI, List.find?_cons]
    simp only [hne]
    rw [entI_find q s l (i + 1) j (by simpa using h) (by omega)]
    simp
def itO (bm n : Nat) (seen : List Nat) : Obj := .mapIter (some bm) n seen.toArray n
theorem next_mapI {P : Program} {q : IntKind} {l : List (Int × Value)} {W : World} {it bm : Nat} {seen : List Nat} (ty : TypeId) (hi : W.heap[it]? = some (itO bm l.length seen)) (hb : W.heap[bm]? = some (mapI q l)) :
    ((∀ j, j < l.length → j ∈ seen) ∧ (Instr.next (.pointer (some ⟨it, 0, none⟩)) false ty).run P W = .ok (.tuple #[.bool false]) W) ∨
    ∃ j, ∃ hj : j < l.length, j ∉ seen ∧ ∃ W', (Instr.next (.pointer (some ⟨it, 0, none⟩)) false ty).run P W = .ok (.tuple #[.bool true, .int q l[j].1, l[j].2]) W' ∧ Only (· = it) W W' ∧ W'.heap[it]? = some (itO bm l.length (seen ++ [j])) := by
  unfold mapI at hb
  unfold itO at hi
  have hlt : it < W.heap.size := (Array.getElem?_eq_some_iff.1 hi).1
  have hbornlt : ∀ e ∈ entI q 0 l, e.born < l.length := fun e he => by obtain ⟨j, hj, rfl⟩ := entI_mem he; exact hj
  have htest : (!seen.toArray.isEmpty && !(entI q 0 l).toArray.isEmpty && (entI q 0 l).toArray.all (fun x => decide (x.born ≥ l.length))) = false := by
    cases hL : entI q 0 l with
    | nil => simp
    | cons e r =>
      have := hbornlt e (by rw [hL]; simp)
      have h2 : decide (e.born ≥ l.length) = false := decide_eq_false (by omega)
      simp [h2]
  simp only [Instr.next, getObj, setObj, Sem.run_bind, Sem.run, hi, hb, Result.andThen, htest, Bool.false_eq_true, if_false]
  generalize hL : (entI q 0 l).toArray.filter (fun e => !seen.toArray.contains e.born) = L
  have hmem : ∀ x ∈ L.toList, x ∈ entI q 0 l ∧ x.born ∉ seen := fun x hx => by
    rw [← hL] at hx
    simp at hx
    exact hx
  have e1 : L.filter (fun x => decide (x.born < l.length)) = L := Array.filter_eq_self.2 fun x hx => by simpa using hbornlt x (hmem x (by simpa using hx)).1
  have e2 : L.filter (fun x => decide (x.born ≥ l.length)) = #[] := by
    rw [Array.filter_eq_empty_iff]
    intro x hx
    have := hbornlt x (hmem x (by simpa using hx)).1
    simp; omega
  simp only [e1, e2, Array.append_empty]
  by_cases h0 : L.size = 0
  · left
    have hLe : L = #[] := Array.eq_empty_of_size_eq_zero h0
    refine ⟨fun j hj => ?_, ?_⟩
    · by_cases hs : j ∈ seen
      · exact hs
      · have hin : ({ key := .int q l[j].1, val := l[j].2, born := j } : MapEntry) ∈ L := by
          rw [← hL, Array.mem_filter]
          refine ⟨?_, by simpa using hs⟩
          have := entI_get q l 0 j hj
          rw [Nat.zero_add] at this
          simpa using List.mem_of_getElem? this
        rw [hLe] at hin
        simp at hin
    · subst hLe
      simp [choose, Sem.run, Question.forced]
  · right
    have hne : L.isEmpty = false := by simp [Array.isEmpty, h0]
    simp only [hne, Bool.false_eq_true, if_false, Array.empty_append, Array.size_map]
    obtain ⟨k, W1, hk, hO, hh, hrun⟩ : ∃ (k : Nat) (W1 : World), k < L.size ∧ Only (fun _ => False) W W1 ∧ W1.heap = W.heap ∧ (choose (Question.mapNext L.size)).run P W = .ok k W1 := by
      by_cases hf : L.size ≤ 1
      · exact ⟨0, W, by omega, Only.refl _ _, rfl, by simp [choose, Sem.run, Question.forced, hf]⟩
      · exact ⟨_, W.drew, Nat.mod_lt _ (by omega), ⟨rfl, rfl, rfl, Nat.le_refl _, fun _ _ _ => rfl⟩, rfl, by
          simp only [choose, Sem.run, Question.forced, decide_eq_true_eq, hf, if_false, Question.cut]
          rfl⟩
    obtain ⟨hin, hns⟩ := hmem L[k] (by simp)
    obtain ⟨j, hj, he⟩ := entI_mem hin
    refine ⟨j, hj, by rw [he] at hns; exact hns, W1.putObj it (itO bm l.length (seen ++ [j])), ?_, ?_, World.putObj_heap_same (by rw [hh]; exact hlt)⟩
    · simp only [hrun, Array.getElem?_map, Array.getElem?_eq_getElem hk, Option.map_some, Sem.run_bind, Sem.run, Result.andThen, he]
      simp [itO, hh, hi, World.putObj]
    · exact (hO.mono fun k _ h => h.elim).putObj it _ rfl
theorem entry_mapI {P : Program} {q : IntKind} {l : List (Int × Value)} {W : World} {it bm j : Nat} {seen : List Nat} (hj : j < l.length) (hi : W.heap[it]? = some (itO bm l.length (seen ++ [j]))) (hb : W.heap[bm]? = some (mapI q l)) :
    (Instr.entry (.pointer (some ⟨it, 0, none⟩))).run P W = .ok (.tuple #[.int q l[j].1, l[j].2]) W := by
  unfold mapI at hb
  unfold itO at hi
  have hf := entI_find q j l 0 j hj (by omega)
  simp only [Instr.entry, getObj, Sem.run_bind, Sem.run, hi, hb, Result.andThen]
  simp [hf, hb, Sem.run, Result.andThen]
theorem range_mapI {P : Program} {q : IntKind} {l : List (Int × Value)} {W : World} {bm : Nat} {t k e : TypeId} (ht : P.underlying t = some (.map k e)) (hb : W.heap[bm]? = some (mapI q l)) :
    (Instr.range t (.map (some bm))).run P W = .ok (.pointer (some ⟨W.heap.size, 0, none⟩)) (W.alloc (itO bm l.length [])) := by
  unfold mapI at hb
  simp [Instr.range, run_underlying ht, Sem.run_bind, getObj, Sem.run, hb, itO, Result.andThen]
def seenAt (W : World) (it : Nat) : Nat := match W.heap[it]? with | some (.mapIter _ _ s _) => s.size | _ => 0
theorem seenAt_eq {W : World} {it bm n : Nat} {seen : List Nat} (h : W.heap[it]? = some (itO bm n seen)) : seenAt W it = seen.length := by
  unfold seenAt; rw [h]; simp [itO]
theorem perm_seen {n : Nat} {seen : List Nat} (hn : seen.Nodup) (hl : ∀ j ∈ seen, j < n) (ha : ∀ j, j < n → j ∈ seen) : seen.Perm (List.range n) := by
  refine (List.perm_ext_iff_of_nodup hn List.nodup_range).2 fun j => ?_
  rw [List.mem_range]
  exact ⟨hl j, ha j⟩
theorem seen_le {n : Nat} {seen : List Nat} (hn : seen.Nodup) (hl : ∀ j ∈ seen, j < n) : seen.length ≤ n := by
  have := (List.nodup_range (n := n)).length_le_of_subset (l₂ := List.range n) (fun _ h => h)
  have h2 : seen.length ≤ (List.range n).length := hn.length_le_of_subset fun j hj => List.mem_range.2 (hl j hj)
  simpa using h2
theorem seen_lt {n : Nat} {seen : List Nat} (hn : seen.Nodup) (hl : ∀ j ∈ seen, j < n) {j : Nat} (hj : j < n) (h : j ∉ seen) : seen.length < n := by
  have := seen_le (seen := j :: seen) (List.nodup_cons.2 ⟨h, hn⟩) (by
    intro i hi
    rcases List.mem_cons.1 hi with rfl | hi
    · exact hj
    · exact hl i hi)
  simp at this
  omega
end
section
open Go.RowKit Go.Shelf
attribute [local go_sem] Oper.semAt_some
theorem ibkeys_any (bm : Nat) (w : World) : Calls Tryz.prog 61 #[.map (some bm)] w fun e w' => e = .returned (.func (.func 94) #[] #[.pointer (some ⟨w.heap.size, 0, none⟩)]) ∧ w.alloc (.cells #[.map (some bm)] 95) = w' := by
  go_enter Tryz.func61, Tryz.ntmps61
  go_wp2
  go_ret
  exact ⟨rfl, rfl⟩
def ibkeyAt (l : List (Int × Value)) (seen : List Nat) : List Int := seen.map fun j => (l[j]?.map (·.1)).getD 0
theorem ibkeyAt_snoc (l : List (Int × Value)) (seen : List Nat) (j : Nat) (hj : j < l.length) : ibkeyAt l (seen ++ [j]) = ibkeyAt l seen ++ [l[j].1] := by
  unfold ibkeyAt; simp [hj]
theorem ibkeyAt_all (l : List (Int × Value)) : ibkeyAt l (List.range l.length) = l.map (·.1) := by
  unfold ibkeyAt
  apply List.ext_getElem (by simp)
  intro i h1 h2
  simp at h1
  simp [h1]
set_option maxRecDepth 100000 in
set_option maxHeartbeats 1000000 in
theorem ibkeys_seq (l : List (Int × Value)) (bx bm : Nat) (W : World) (hx : W.cell? ⟨bx, 0, none⟩ = some (.map (some bm))) (hm : W.heap[bm]? = some (mapI .i64 l)) :
    SeqP Tryz.prog 94 #[.pointer (some ⟨bx, 0, none⟩)] (fun x : Int => #[.int .i64 x]) (fun k => k = bm) (fun xs => xs.Perm (l.map (·.1))) (fun pre => ∃ seen : List Nat, seen.Nodup ∧ (∀ j ∈ seen, j < l.length) ∧ pre = ibkeyAt l seen) l.length false W := by
  intro l0 J Jx hJ hJx hY h0 _
  replace hJ := qh hJ
  replace hJx := qh hJx
  replace hY := qh hY
  have hrg := range_mapI (P := Tryz.prog) (t := 95) Tryz.underlying95 hm
  have hml : bm < W.heap.size := (Array.getElem?_eq_some_iff.1 hm).1
  replace hm := qh hm
  replace h0 := qh h0
  refine callsIn_of_wp Tryz.func94 rfl trivial ?_ rfl
  simp only [Tryz.ntmps94, List.size_toArray, List.length_cons, List.length_nil, Nat.reduceAdd, Nat.reduceSub, Array.replicate_succ, Array.replicate_zero, List.push_toArray, List.append_toArray, List.nil_append, List.cons_append]
  gi_wp2
  obtain ⟨it, hit⟩ : ∃ it, it = W.heap.size := ⟨_, rfl⟩
  have hb1 : Below W.heap.size W (W.alloc (itO bm l.length [])) := xalloc (xrefl W) _
  have hi1 : (W.alloc (itO bm l.length [])).heap[it]? = some (itO bm l.length []) := by rw [hit]; exact World.alloc_heap_new W _
  have hm1 : (W.alloc (itO bm l.length [])).heap[bm]? = some (mapI .i64 l) := (hb1.block bm hml).trans hm.out
  have hJ1 : J (fun k => k = it) [] (W.alloc (itO bm l.length [])) := hJ.out _ _ _ W _ h0.out (fun k h => h.elim) (Below.only hb1) (fun k e => .inr (by omega))
  have hle := hb1.size
  rw [← hit]
  generalize W.alloc (itO bm l.length []) = W1 at hi1 hm1 hJ1 hle ⊢
  replace hi1 := qh hi1
  replace hm1 := qh hm1
  replace hJ1 := qh hJ1
  clear hb1 hrg
  have hbi : ¬ bm = it := by omega
  replace hit := qh hit
  gi_loopw [3] (fun _ wr => ∃ seen : List Nat, Hid (seen.Nodup ∧ ∀ j ∈ seen, j < l.length) ∧ Hid (wr.heap[it]? = some (itO bm l.length seen)) ∧ Hid (wr.heap[bm]? = some (mapI .i64 l)) ∧ Hid (J (fun k => k = it) (ibkeyAt l seen) wr)) (fun _ wr => l.length - seenAt wr it)
  case atStart => exact ⟨[], qh ⟨List.nodup_nil, fun j h => by cases h⟩, hi1, hm1, hJ1⟩
  case round =>
    clear hi1 hm1 hJ1
    obtain ⟨seen, hs, hi, hm1, hJs⟩ := hrel
    rcases next_mapI (P := Tryz.prog) 0 hi.out hm1.out with ⟨hall, hrun⟩ | ⟨j, hj, hns, W2, hrun, hon, hi2⟩
    · have hrun' : ∀ ty, (Instr.next (.pointer (some ⟨it, 0, none⟩)) false ty).run Tryz.prog wr = _ := fun ty => hrun
      clear hrun
      replace hall := qh hall
      gi_wp2
      go_end0
      have hp := perm_seen hs.out.1 hs.out.2 hall.out
      refine ⟨⟨_, rfl⟩, .inl ⟨_, _, ?_, fun k e => by have := hit.out; omega, hJs.out⟩⟩
      have := hp.map fun j => (l[j]?.map (·.1)).getD 0
      have e := ibkeyAt_all l
      unfold ibkeyAt at e ⊢
      rwa [e] at this
    · have hrun' : ∀ ty, (Instr.next (.pointer (some ⟨it, 0, none⟩)) false ty).run Tryz.prog wr = _ := fun ty => hrun
      have hm2 : W2.heap[bm]? = some (mapI .i64 l) := (hon.same bm (Array.getElem?_eq_some_iff.1 hm1.out).1 hbi).trans hm1.out
      have hen := entry_mapI (P := Tryz.prog) hj hi2 hm2
      have hJ2 : J (fun k => k = it) (ibkeyAt l seen) W2 := hJ.out _ _ _ wr W2 hJs.out (fun k e => by have := hit.out; omega) hon (fun k e => .inl e)
      have hlt := seen_lt hs.out.1 hs.out.2 hj hns
      have hlen : (ibkeyAt l seen).length < l.length := by unfold ibkeyAt; rw [List.length_map]; exact hlt
      have hsn : Hid ((seen ++ [j]).Nodup ∧ ∀ i ∈ seen ++ [j], i < l.length) := qh ⟨by rw [List.nodup_append]; exact ⟨hs.out.1, by simp, fun a ha b hb e => hns (by simp at hb; subst hb; rw [← e]; exact ha)⟩, fun i hi => by
        rcases List.mem_append.1 hi with h | h
        · exact hs.out.2 i h
        · simp at h; omega⟩
      have hsnoc := ibkeyAt_snoc l seen j hj
      have h2l : it < W2.heap.size := (Array.getElem?_eq_some_iff.1 hi2).1
      obtain ⟨fnc, tmps, assign, body, hy, hR⟩ := hY.out (fun k => k = it) (ibkeyAt l seen) l[j].1 W2 (fun k e => by have := hit.out; omega) hJ2 hlen ⟨seen ++ [j], hsn.out.1, hsn.out.2, hsnoc.symm⟩
      have hsl : seenAt wr it = seen.length := seenAt_eq hi.out
      rw [← hsnoc] at hR
      clear hrun hJ2 hsnoc hlen
      generalize l[j].1 = key at *
      replace hi2 := qh hi2
      replace hm2 := qh hm2
      replace hns := qh hns
      replace hR := qh hR
      replace hsl := qh hsl
      clear hon hJs hs
      gi_wp2
      refine ⟨rfl, hR.out.mono ?_⟩
      rintro e W3 (⟨rfl, hJ3, hk3⟩ | ⟨rfl, hJx3, hk3⟩)
      · have hi3 := qh ((hk3.same it (Array.getElem?_eq_some_iff.1 hi2.out).1 (.inl rfl)).trans hi2.out)
        have hm3 := qh ((hk3.same bm (Array.getElem?_eq_some_iff.1 hm2.out).1 (.inr rfl)).trans hm2.out)
        replace hJ3 := qh hJ3
        have hlt3 : l.length - seenAt W3 it < l.length - seenAt wr it := by
          rw [hsl.out, seenAt_eq hi3.out, List.length_append]; simp; omega
        replace hlt3 := qh hlt3
        clear hk3
        gi_wp2
        exact ⟨⟨seen ++ [j], hsn, hi3, hm3, hJ3⟩, hlt3.out⟩
      · gi_wp2
        refine bodyPost_ret (results_none rfl _ _ _) rfl ?_
        exact ⟨⟨_, rfl⟩, .inr ⟨_, _, ⟨seen ++ [j], hsn.out.1, hsn.out.2, rfl⟩, fun k e => by have := hit.out; omega, hJx3⟩⟩
end
section
open Go.RowKit Go.Shelf
attribute [local go_sem] Oper.semAt_some
end
end Go.Proofs.YtijkdabmegbcjaaGreatDoor
