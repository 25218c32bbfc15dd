/- Texts of this claim, merged; no condition. -/
import Derived.Test.YtijkdabmegbcjaaGreatDoorU02
set_option linter.all false
namespace Go.Proofs.YtijkdabmegbcjaaGreatDoor
open Go.RowKit Go.Shelf

/-- What an iterator does (it hands on only what Sp allows): function gf with captured lb, from world W on. 'encs x': what it hands to yield. 'Rd': the blocks that it reads. 'inf': it never ends by itself, and N is not reached. 'S xs': all have come; 'Sp pre': a part has come, a round having left. -/
def SeqP {α : Type} (P : Program) (gf : Nat) (lb : Array Value) (encs : α → Array Value) (Rd : Nat → Prop) (S Sp : List α → Prop) (N : Nat) (inf : Bool) (W : World) : Prop :=
  ∀ (l : Nat) (J Jx : (Nat → Prop) → List α → World → Prop), Stable W.heap.size J → Stable W.heap.size Jx →
    (∀ O pre x X, (∀ k, O k → W.heap.size ≤ k ∧ k < X.heap.size) → J O pre X → pre.length < N → Sp (pre ++ [x]) → YieldAt Fence.wide 0 P l (encs x) X fun e X' =>
      (e = .returned (.bool true) ∧ J O (pre ++ [x]) X' ∧ Keep (fun k => O k ∨ Rd k) X X') ∨ (e = .returned (.bool false) ∧ Jx O (pre ++ [x]) X' ∧ Keep (fun k => O k ∨ Rd k) X X')) →
    J (fun _ => False) [] W → (inf = true → ∀ O pre X, J O pre X → pre.length < N) →
    CallsIn Fence.wide 0 P gf (#[.func (.yield l) #[] #[]] ++ lb) W fun e W' => (∃ v, e = .returned v) ∧ ((∃ xs O, S xs ∧ (∀ k, O k → W.heap.size ≤ k) ∧ J O xs W') ∨ (∃ pre O, Sp pre ∧ (∀ k, O k → W.heap.size ≤ k) ∧ Jx O pre W'))

/-- The law of the loop. 'O' in I and Ix: the blocks that the loop's own record and the iterator own. -/
theorem wp_rangeP {P : Program} {α : Type} {g : Operand} {ps : Array Tmp} {assign body : Code} {Q : Exit → Act → World → Prop} {a : Act} {w : World}
    {gf : Nat} {lb : Array Value} (hg : a.eval g = .func (.func gf) #[] lb) (eg : ∀ args w, (callFunc gf args).run P w = .ok (.enter gf args) w)
    {encs : α → Array Value} {Rd : Nat → Prop} {S Sp : List α → Prop} {N : Nat} {inf : Bool} (hRd : ∀ k, Rd k → k < w.heap.size)
    (hseq : ∀ W, Below w.heap.size w W → SeqP P gf lb encs Rd S Sp N inf W) (hps : ∀ x, (encs x).size = ps.size)
    (I : (Nat → Prop) → List α → World → Prop) (Ix : Code → (Nat → Prop) → List α → World → Prop) (hI : Stable w.heap.size I) (hIx : ∀ c, Stable w.heap.size (Ix c)) (h0 : I (fun _ => False) [] w) (hinf : inf = true → ∀ O pre X, I O pre X → pre.length < N)
    (hround : ∀ (l : Nat) (O : Nat → Prop) (pre : List α) (x : α) (W : World), O l → (∀ k, O k → w.heap.size ≤ k ∧ k < W.heap.size) → I O pre W → pre.length < N → Sp (pre ++ [x]) →
      assign.wpIn (Fence.wide.inRound l) 0 P (Exit.then (fun a₁ W₁ => Keep (fun k => O k ∨ Rd k) W W₁ ∧ ∀ W₂, Only (· = l) W₁ W₂ → body.wpIn (Fence.wide.inRound l) 0 P (postB O I Ix (fun k => O k ∨ Rd k) (pre ++ [x]) W₂) a₁ W₂) (fun _ _ _ => False))
        { tmps := (ps.zip (encs x)).foldl (fun t (p, v) => t.setIfInBounds p v) a.tmps, defers := [] } W)
    (hdone : ∀ (D : Nat) (xs : List α) (O : Nat → Prop) (W : World), w.heap.size ≤ D → O D → (∀ k, O k → w.heap.size ≤ k) → S xs → I O xs W → W.heap[D]? = some (.deferred (some [])) → Q .normal { a with defers := { target := .collected D, args := #[] } :: a.defers } W)
    (hstop : ∀ (D : Nat) (c : Code) (pre : List α) (O : Nat → Prop) (W : World), w.heap.size ≤ D → O D → (∀ k, O k → w.heap.size ≤ k) → Sp pre → Ix c O pre W → W.heap[D]? = some (.deferred (some [])) → c.wpIn Fence.wide 0 P Q { a with defers := { target := .collected D, args := #[] } :: a.defers } W) :
    (Code.rangeFunc g ps assign body).wpIn Fence.wide 0 P Q a w := by
  refine wpIn_rangeFunc ?_
  intro fn hfn
  rw [Fence.wide_round]
  obtain ⟨rec, hrec⟩ : ∃ rec : LoopState → Option Code → Loop, rec = fun st pe => { state := st, pending := pe, fn, tmps := a.tmps, params := ps, assign, body, defers := w.heap.size } := ⟨_, rfl⟩
  obtain ⟨W1, hW1⟩ : ∃ W1, (w.alloc (.deferred (some []))).alloc (.loop (rec .ready none)) = W1 := ⟨_, rfl⟩
  have hs1 : W1.heap.size = w.heap.size + 2 := by rw [← hW1]; simp
  have hL1 : W1.heap[w.heap.size + 1]? = some (.loop (rec .ready none)) := by
    rw [← hW1]; have := World.alloc_heap_new (w.alloc (.deferred (some []))) (.loop (rec .ready none)); rwa [World.size_alloc] at this
  have hK1 : W1.heap[w.heap.size]? = some (.deferred (some [])) := by
    rw [← hW1]; exact (Below.heap_alloc _ _ _ (by simp)).trans (World.alloc_heap_new w _)
  have hb1 : Below w.heap.size w W1 := by rw [← hW1]; exact xalloc (xalloc (xrefl w) _) _
  refine ⟨w.heap.size + 1, [{ target := .collected w.heap.size, args := #[] }], W1, { target := .fn (.func gf) lb, args := #[.func (.yield (w.heap.size + 1)) #[] #[]] }, W1, gf,
    #[.func (.yield (w.heap.size + 1)) #[] #[]] ++ lb, W1, ?_, ?_, fun _ _ => trivial, ?_, (fun h => by cases h), ?_⟩
  · rw [← hW1, hrec]; exact run_enterLoop_outer _ _ _ _ _
  · simp only [resolve, hg]
    simp [go_sem]
  · simp [invoke, go_sem, eg]
  · have two : ∀ (O : Nat → Prop), (∀ k, O k → W1.heap.size ≤ k) → (∀ k, (O k ∨ k = w.heap.size ∨ k = w.heap.size + 1) → w.heap.size ≤ k) := fun O hO k hk => by
      rcases hk with h | h | h
      · have := hO k h; omega
      · omega
      · omega
    have stab : ∀ (R : Loop) (J : (Nat → Prop) → List α → World → Prop), Stable w.heap.size J →
        Stable W1.heap.size (fun O pre W => J (fun k => O k ∨ k = w.heap.size ∨ k = w.heap.size + 1) pre W ∧ w.heap.size + 1 < W.heap.size ∧ W.heap[w.heap.size + 1]? = some (.loop R) ∧ W.heap[w.heap.size]? = some (.deferred (some []))) := by
      rintro R J hJ O O' s W W' ⟨hj, hlt, hl, hk⟩ hO hon hO'
      refine ⟨hJ _ _ s W W' hj (two O hO) (hon.mono fun k _ h => .inl h) (fun k h => ?_), Nat.lt_of_lt_of_le hlt hon.size, ?_, ?_⟩
      · rcases h with h | h
        · rcases hO' k h with h | h
          · exact .inl (.inl h)
          · exact .inr h
        · exact .inl (.inr h)
      · rw [hon.same _ hlt (fun h => by have := hO _ h; omega)]; exact hl
      · rw [hon.same _ (by omega) (fun h => by have := hO _ h; omega)]; exact hk
    refine (hseq W1 hb1 (w.heap.size + 1)
      (fun O pre W => I (fun k => O k ∨ k = w.heap.size ∨ k = w.heap.size + 1) pre W ∧ w.heap.size + 1 < W.heap.size ∧ W.heap[w.heap.size + 1]? = some (.loop (rec .ready none)) ∧ W.heap[w.heap.size]? = some (.deferred (some [])))
      (fun O pre W => ∃ c, Ix c (fun k => O k ∨ k = w.heap.size ∨ k = w.heap.size + 1) pre W ∧ w.heap.size + 1 < W.heap.size ∧ W.heap[w.heap.size + 1]? = some (.loop (rec .done (some c))) ∧ W.heap[w.heap.size]? = some (.deferred (some [])))
      (stab _ I hI)
      (by
        rintro O O' s W W' ⟨c, h⟩ hO hon hO'
        exact ⟨c, stab (rec .done (some c)) (Ix c) (hIx c) O O' s W W' h hO hon hO'⟩)
      ?_ ⟨hI _ _ [] w W1 h0 (fun k h => h.elim) ⟨hb1.os, hb1.tape, hb1.output, hb1.size, fun k hk _ => hb1.block k hk⟩ (fun k h => .inr (by rcases h with h | h | h <;> first | exact h.elim | omega)), by omega, hL1, hK1⟩ (fun hi O pre X h => hinf hi _ pre X h.1)).mono ?_
    · rintro O pre x W hO ⟨hi, hlt, hl, hk⟩ hlen hsp
      have hy := run_yield (P := P) (args := encs x) hl (by rw [hrec]; exact hps x)
      rw [hrec] at hy
      obtain ⟨T, hT⟩ : ∃ T : Nat → Prop, T = fun k => O k ∨ k = w.heap.size ∨ k = w.heap.size + 1 := ⟨_, rfl⟩
      have hTl : T (w.heap.size + 1) := by rw [hT]; exact .inr (.inr rfl)
      have hTD : T w.heap.size := by rw [hT]; exact .inr (.inl rfl)
      have hTk : ∀ k, T k → w.heap.size ≤ k ∧ k < W.heap.size := fun k h => by
        rw [hT] at h
        rcases h with h | h | h
        · have := hO k h; exact ⟨by omega, this.2⟩
        · exact ⟨by omega, by omega⟩
        · exact ⟨by omega, by omega⟩
      refine ⟨fn, _, assign, body, hy, roundIn_of_wpIn hfn (wpIn_mono (hround (w.heap.size + 1) T pre x W hTl hTk (by rw [hT]; exact hi) hlen hsp) ?_)⟩
      rintro e a₁ W₁ hp
      cases e with
      | normal =>
        obtain ⟨hkp, hb⟩ := hp
        have hl1 : W₁.heap[w.heap.size + 1]? = some (.loop (rec .ready none)) := (hkp.same _ hlt (.inl hTl)).trans hl
        have hk1 : W₁.heap[w.heap.size]? = some (.deferred (some [])) := (hkp.same _ (by omega) (.inl hTD)).trans hk
        have hlt1 : w.heap.size + 1 < W₁.heap.size := Nat.lt_of_lt_of_le hlt hkp.size
        refine ⟨_, run_beginRound hl1 (by rw [hrec]), ?_⟩
        have hl2 : (W₁.putObj (w.heap.size + 1) (.loop { rec .ready none with state := .busy })).heap[w.heap.size + 1]? = some (.loop { rec .ready none with state := .busy }) := World.putObj_heap_same hlt1
        have hk2 : (W₁.putObj (w.heap.size + 1) (.loop { rec .ready none with state := .busy })).heap[w.heap.size]? = some (.deferred (some [])) := (World.putObj_heap_other (by omega)).trans hk1
        have hsz2 : (W₁.putObj (w.heap.size + 1) (.loop { rec .ready none with state := .busy })).heap.size = W₁.heap.size := World.putObj_size
        have hon : Only (· = w.heap.size + 1) W₁ (W₁.putObj (w.heap.size + 1) (.loop { rec .ready none with state := .busy })) := (Only.refl _ _).putObj _ _ rfl
        refine wpIn_mono (hb _ hon) ?_
        have fin : ∀ (jump : Option Code) (W3 : World), Keep (fun k => T k ∨ Rd k) (W₁.putObj (w.heap.size + 1) (.loop { rec .ready none with state := .busy })) W3 →
            (Instr.endRound (w.heap.size + 1) jump).run P W3 = .ok (.bool jump.isNone) (W3.putObj (w.heap.size + 1) (.loop (rec (if jump.isNone then .ready else .done) jump))) ∧
            w.heap.size + 1 < W3.heap.size ∧ W3.heap[w.heap.size]? = some (.deferred (some [])) := fun jump W3 hk3 => by
          have hl3 := (hk3.same _ (by rw [hsz2]; exact hlt1) (.inl hTl)).trans hl2
          have hA := Nat.lt_of_lt_of_le (by rw [hsz2]; exact hlt1) hk3.size
          have hB := (hk3.same _ (by rw [hsz2]; omega) (.inl hTD)).trans hk2
          refine ⟨?_, hA, hB⟩
          have := run_endRound (P := P) jump hl3
          rw [hrec] at this ⊢
          exact this
        have kept : ∀ W3 o', Keep (fun k => T k ∨ Rd k) (W₁.putObj (w.heap.size + 1) (.loop { rec .ready none with state := .busy })) W3 → Keep (fun k => O k ∨ Rd k) W (W3.putObj (w.heap.size + 1) o') := fun W3 o' hk3 => by
          have nl : ∀ k, k < W.heap.size → (O k ∨ Rd k) → k ≠ w.heap.size + 1 := fun k hk h e => by
            rcases h with h | h
            · have := hO k h; omega
            · have := hRd k h; omega
          refine ⟨by rw [World.putObj_size]; exact Nat.le_trans hkp.size (Nat.le_trans (Nat.le_of_eq hsz2.symm) hk3.size), fun k hk h => ?_⟩
          have hTo : T k ∨ Rd k := by rw [hT]; rcases h with h | h; exact .inl (.inl h); exact .inr h
          rw [World.putObj_heap_other (nl k hk h), hk3.same k (by rw [hsz2]; exact Nat.lt_of_lt_of_le hk hkp.size) hTo, World.putObj_heap_other (nl k hk h), hkp.same k hk hTo]
        have stabT : ∀ (J : (Nat → Prop) → List α → World → Prop), Stable w.heap.size J → ∀ xs W3 o', J T xs W3 → J (fun k => O k ∨ k = w.heap.size ∨ k = w.heap.size + 1) xs (W3.putObj (w.heap.size + 1) o') := fun J hJ xs W3 o' hj => by
          rw [← hT]
          exact hJ T T xs W3 _ hj (fun k h => (hTk k h).1) ((Only.refl _ _).putObj _ _ hTl) (fun k h => .inl h)
        rintro e a3 W3 hp
        cases e with
        | normal =>
          obtain ⟨hk3, hi3⟩ := hp
          obtain ⟨hr, hlt3, hk4⟩ := fin none W3 hk3
          exact ⟨_, _, hr, .inl ⟨rfl, ⟨stabT I hI _ _ _ hi3, by rw [World.putObj_size]; exact hlt3, World.putObj_heap_same hlt3, (World.putObj_heap_other (by omega)).trans hk4⟩, kept _ _ hk3⟩⟩
        | ret =>
          obtain ⟨hk3, hi3⟩ := hp
          obtain ⟨hr, hlt3, hk4⟩ := fin (some .ret) W3 hk3
          exact ⟨_, _, hr, .inr ⟨rfl, ⟨.ret, stabT _ (hIx _) _ _ _ hi3, by rw [World.putObj_size]; exact hlt3, World.putObj_heap_same hlt3, (World.putObj_heap_other (by omega)).trans hk4⟩, kept _ _ hk3⟩⟩
        | exit id =>
          obtain ⟨hk3, hi3⟩ := hp
          obtain ⟨hr, hlt3, hk4⟩ := fin (some (.exit id)) W3 hk3
          exact ⟨_, _, hr, .inr ⟨rfl, ⟨.exit id, stabT _ (hIx _) _ _ _ hi3, by rw [World.putObj_size]; exact hlt3, World.putObj_heap_same hlt3, (World.putObj_heap_other (by omega)).trans hk4⟩, kept _ _ hk3⟩⟩
        | goto t =>
          obtain ⟨hk3, hi3⟩ := hp
          obtain ⟨hr, hlt3, hk4⟩ := fin (some (.goto t)) W3 hk3
          exact ⟨_, _, hr, .inr ⟨rfl, ⟨.goto t, stabT _ (hIx _) _ _ _ hi3, by rw [World.putObj_size]; exact hlt3, World.putObj_heap_same hlt3, (World.putObj_heap_other (by omega)).trans hk4⟩, kept _ _ hk3⟩⟩
        | panic ch => exact hp.elim
        | outgrown => exact hp.elim
      | _ => exact hp.elim
    · rintro e W2 ⟨⟨v, rfl⟩, (⟨xs, O, hS, hO, hi, hlt, hl, hk⟩ | ⟨pre, O, hSp, hO, c, hi, hlt, hl, hk⟩)⟩
      · exact ⟨none, _, by have := run_endLoop (P := P) hl (by rw [hrec]; simp); rw [hrec] at this; exact this,
          hdone _ xs (fun k => O k ∨ k = w.heap.size ∨ k = w.heap.size + 1) _ (Nat.le_refl _) (.inr (.inl rfl)) (two O hO) hS
            (hI _ _ xs W2 _ hi (two O hO) ((Only.refl _ _).putObj _ _ (.inr (.inr rfl))) (fun k h => .inl h)) ((World.putObj_heap_other (by omega)).trans hk)⟩
      · exact ⟨some c, _, by have := run_endLoop (P := P) hl (by rw [hrec]; simp); rw [hrec] at this; exact this,
          hstop _ c pre (fun k => O k ∨ k = w.heap.size ∨ k = w.heap.size + 1) _ (Nat.le_refl _) (.inr (.inl rfl)) (two O hO) hSp
            (hIx c _ _ pre W2 _ hi (two O hO) ((Only.refl _ _).putObj _ _ (.inr (.inr rfl))) (fun k h => .inl h)) ((World.putObj_heap_other (by omega)).trans hk)⟩

end Go.Proofs.YtijkdabmegbcjaaGreatDoor
namespace Go.Proofs.YtijkdabmegbcjaaGreatDoor
open Go.RowKit

/-- R hangs on the blocks of S alone. -/
def RdOn (S : Nat → Prop) (R : World → Prop) : Prop := ∀ W W', R W → W.heap.size ≤ W'.heap.size → (∀ k, S k → k < W.heap.size → W'.heap[k]? = W.heap[k]?) → R W'
theorem RdOn.only {S O : Nat → Prop} {R : World → Prop} {W W' : World} (h : RdOn S R) (hR : R W) (ho : Only O W W') (hO : ∀ k, S k → ¬ O k) : R W' := h W W' hR ho.size fun k hk hl => ho.same k hl (hO k hk)
theorem RdOn.below {S : Nat → Prop} {R : World → Prop} {W W' : World} (h : RdOn S R) (hR : R W) (hb : Below W.heap.size W W') : R W' := h W W' hR hb.size fun k _ hl => hb.block k hl
/-- A fact that hangs on blocks that are there. -/
structure Fac (S : Nat → Prop) (R : World → Prop) : Prop where
  on : RdOn S R
  lt : ∀ W, R W → ∀ k, S k → k < W.heap.size
theorem Fac.below {S : Nat → Prop} {R : World → Prop} {W W' : World} (h : Fac S R) (hR : R W) (hb : Below W.heap.size W W') : R W' := h.on.below hR hb

section
variable {α : Type} {brk : Nat} {w : World} {F : World → Prop} {S : Nat → Prop} {rc p8 : Nat} {x : Int} {t M : Nat}
end
end Go.Proofs.YtijkdabmegbcjaaGreatDoor
namespace Go.Proofs.YtijkdabmegbcjaaGreatDoor
open Go.RowKit

theorem entI_get (q : IntKind) : ∀ (l : List (Int × Value)) (i j : Nat) (h : j < l.length), (entI q i l)[j]? = some { key := .int q l[j].1, val := l[j].2, born := i + j }
  | x :: l, i, 0, _ => by simp [entI]
  | x :: l, i, j + 1, h => by
    rw [entI, List.getElem?_cons_succ, entI_get q l (i + 1) j (by simpa using h)]
    simp; omega
theorem entI_len (q : IntKind) : ∀ (l : List (Int × Value)) (i : Nat), (entI q i l).length = l.length
  | [], _ => rfl
  | x :: l, i => by rw [entI, List.length_cons, entI_len q l (i + 1), List.length_cons]
theorem entI_mem {q : IntKind} {l : List (Int × Value)} {e : MapEntry} (h : e ∈ entI q 0 l) : ∃ j, ∃ hj : j < l.length, e = { key := .int q l[j].1, val := l[j].2, born := j } := by
  obtain ⟨j, hj, he⟩ := List.getElem_of_mem h
  rw [entI_len] at hj
  have h2 := entI_get q l 0 j hj
  rw [List.getElem?_eq_getElem (by rw [entI_len]; exact hj), he] at h2
  refine ⟨j, hj, ?_⟩
  simpa using h2
theorem entI_find (q : IntKind) (s : Nat) : ∀ (l : List (Int × Value)) (i j : Nat) (h : j < l.length), s = i + j → (entI q i l).find? (fun e => e.born == s) = some { key := .int q l[j].1, val := l[j].2, born := s }
  | x :: l, i, 0, _, e => by subst e; simp [entI]
  | x :: l, i, j + 1, h, e => by
    have hne : (i == s) = false := by rw [beq_eq_false_iff_ne]; omega
    rw [entI, List.find?_cons]
    simp only [hne]
    rw [entI_find q s l (i + 1) j (by simpa using h) (by omega)]
    simp

/-- The iterator over the map in block bm that has handed out the entries of these places. -/
def itO (bm n : Nat) (seen : List Nat) : Obj := .mapIter (some bm) n seen.toArray n
/-- A place that has not been handed out comes, or none is left. -/
theorem next_mapI {P : Program} {q : IntKind} {l : List (Int × Value)} {W : World} {it bm : Nat} {seen : List Nat} (ty : TypeId) (hi : W.heap[it]? = some (itO bm l.length seen)) (hb : W.heap[bm]? = some (mapI q l)) :
    ((∀ j, j < l.length → j ∈ seen) ∧ (Instr.next (.pointer (some ⟨it, 0, none⟩)) false ty).run P W = .ok (.tuple #[.bool false]) W) ∨
    ∃ j, ∃ hj : j < l.length, j ∉ seen ∧ ∃ W', (Instr.next (.pointer (some ⟨it, 0, none⟩)) false ty).run P W = .ok (.tuple #[.bool true, .int q l[j].1, l[j].2]) W' ∧ Only (· = it) W W' ∧ W'.heap[it]? = some (itO bm l.length (seen ++ [j])) := by
  unfold mapI at hb
  unfold itO at hi
  have hlt : it < W.heap.size := (Array.getElem?_eq_some_iff.1 hi).1
  have hbornlt : ∀ e ∈ entI q 0 l, e.born < l.length := fun e he => by obtain ⟨j, hj, rfl⟩ := entI_mem he; exact hj
  have htest : (!seen.toArray.isEmpty && !(entI q 0 l).toArray.isEmpty && (entI q 0 l).toArray.all (fun x => decide (x.born ≥ l.length))) = false := by
    cases hL : entI q 0 l with
    | nil => simp
    | cons e r =>
      have := hbornlt e (by rw [hL]; simp)
      have h2 : decide (e.born ≥ l.length) = false := decide_eq_false (by omega)
      simp [h2]
  simp only [Instr.next, getObj, setObj, Sem.run_bind, Sem.run, hi, hb, Result.andThen, htest, Bool.false_eq_true, if_false]
  generalize hL : (entI q 0 l).toArray.filter (fun e => !seen.toArray.contains e.born) = L
  have hmem : ∀ x ∈ L.toList, x ∈ entI q 0 l ∧ x.born ∉ seen := fun x hx => by
    rw [← hL] at hx
    simp at hx
    exact hx
  have e1 : L.filter (fun x => decide (x.born < l.length)) = L := Array.filter_eq_self.2 fun x hx => by simpa using hbornlt x (hmem x (by simpa using hx)).1
  have e2 : L.filter (fun x => decide (x.born ≥ l.length)) = #[] := by
    rw [Array.filter_eq_empty_iff]
    intro x hx
    have := hbornlt x (hmem x (by simpa using hx)).1
    simp; omega
  simp only [e1, e2, Array.append_empty]
  by_cases h0 : L.size = 0
  · left
    have hLe : L = #[] := Array.eq_empty_of_size_eq_zero h0
    refine ⟨fun j hj => ?_, ?_⟩
    · by_cases hs : j ∈ seen
      · exact hs
      · have hin : ({ key := .int q l[j].1, val := l[j].2, born := j } : MapEntry) ∈ L := by
          rw [← hL, Array.mem_filter]
          refine ⟨?_, by simpa using hs⟩
          have := entI_get q l 0 j hj
          rw [Nat.zero_add] at this
          simpa using List.mem_of_getElem? this
        rw [hLe] at hin
        simp at hin
    · subst hLe
      simp [choose, Sem.run, Question.forced]
  · right
    have hne : L.isEmpty = false := by simp [Array.isEmpty, h0]
    simp only [hne, Bool.false_eq_true, if_false, Array.empty_append, Array.size_map]
    obtain ⟨k, W1, hk, hO, hh, hrun⟩ : ∃ (k : Nat) (W1 : World), k < L.size ∧ Only (fun _ => False) W W1 ∧ W1.heap = W.heap ∧ (choose (Question.mapNext L.size)).run P W = .ok k W1 := by
      by_cases hf : L.size ≤ 1
      · exact ⟨0, W, by omega, Only.refl _ _, rfl, by simp [choose, Sem.run, Question.forced, hf]⟩
      · exact ⟨_, W.drew, Nat.mod_lt _ (by omega), ⟨rfl, rfl, rfl, Nat.le_refl _, fun _ _ _ => rfl⟩, rfl, by
          simp only [choose, Sem.run, Question.forced, decide_eq_true_eq, hf, if_false, Question.cut]
          rfl⟩
    obtain ⟨hin, hns⟩ := hmem L[k] (by simp)
    obtain ⟨j, hj, he⟩ := entI_mem hin
    refine ⟨j, hj, by rw [he] at hns; exact hns, W1.putObj it (itO bm l.length (seen ++ [j])), ?_, ?_, World.putObj_heap_same (by rw [hh]; exact hlt)⟩
    · simp only [hrun, Array.getElem?_map, Array.getElem?_eq_getElem hk, Option.map_some, Sem.run_bind, Sem.run, Result.andThen, he]
      simp [itO, hh, hi, World.putObj]
    · exact (hO.mono fun k _ h => h.elim).putObj it _ rfl
theorem entry_mapI {P : Program} {q : IntKind} {l : List (Int × Value)} {W : World} {it bm j : Nat} {seen : List Nat} (hj : j < l.length) (hi : W.heap[it]? = some (itO bm l.length (seen ++ [j]))) (hb : W.heap[bm]? = some (mapI q l)) :
    (Instr.entry (.pointer (some ⟨it, 0, none⟩))).run P W = .ok (.tuple #[.int q l[j].1, l[j].2]) W := by
  unfold mapI at hb
  unfold itO at hi
  have hf := entI_find q j l 0 j hj (by omega)
  simp only [Instr.entry, getObj, Sem.run_bind, Sem.run, hi, hb, Result.andThen]
  simp [hf, hb, Sem.run, Result.andThen]
theorem range_mapI {P : Program} {q : IntKind} {l : List (Int × Value)} {W : World} {bm : Nat} {t k e : TypeId} (ht : P.underlying t = some (.map k e)) (hb : W.heap[bm]? = some (mapI q l)) :
    (Instr.range t (.map (some bm))).run P W = .ok (.pointer (some ⟨W.heap.size, 0, none⟩)) (W.alloc (itO bm l.length [])) := by
  unfold mapI at hb
  simp [Instr.range, run_underlying ht, Sem.run_bind, getObj, Sem.run, hb, itO, Result.andThen]
/-- How many have come. -/
def seenAt (W : World) (it : Nat) : Nat := match W.heap[it]? with | some (.mapIter _ _ s _) => s.size | _ => 0
theorem seenAt_eq {W : World} {it bm n : Nat} {seen : List Nat} (h : W.heap[it]? = some (itO bm n seen)) : seenAt W it = seen.length := by
  unfold seenAt; rw [h]; simp [itO]
/-- All places have come: what came is the whole, in some order. -/
theorem perm_seen {n : Nat} {seen : List Nat} (hn : seen.Nodup) (hl : ∀ j ∈ seen, j < n) (ha : ∀ j, j < n → j ∈ seen) : seen.Perm (List.range n) := by
  refine (List.perm_ext_iff_of_nodup hn List.nodup_range).2 fun j => ?_
  rw [List.mem_range]
  exact ⟨hl j, ha j⟩
theorem seen_le {n : Nat} {seen : List Nat} (hn : seen.Nodup) (hl : ∀ j ∈ seen, j < n) : seen.length ≤ n := by
  have := (List.nodup_range (n := n)).length_le_of_subset (l₂ := List.range n) (fun _ h => h)
  have h2 : seen.length ≤ (List.range n).length := hn.length_le_of_subset fun j hj => List.mem_range.2 (hl j hj)
  simpa using h2
theorem seen_lt {n : Nat} {seen : List Nat} (hn : seen.Nodup) (hl : ∀ j ∈ seen, j < n) {j : Nat} (hj : j < n) (h : j ∉ seen) : seen.length < n := by
  have := seen_le (seen := j :: seen) (List.nodup_cons.2 ⟨h, hn⟩) (by
    intro i hi
    rcases List.mem_cons.1 hi with rfl | hi
    · exact hj
    · exact hl i hi)
  simp at this
  omega
end Go.Proofs.YtijkdabmegbcjaaGreatDoor
namespace Go.Proofs.YtijkdabmegbcjaaGreatDoor
open Go.RowKit

/-- What a map has when a key has been given a value. -/
def updI (n : Int) (v : Value) : List (Int × Value) → List (Int × Value)
  | [] => [(n, v)]
  | x :: l => if n = x.1 then (n, v) :: l else x :: updI n v l
theorem updI_new {n : Int} {v : Value} {l : List (Int × Value)} (h : ∀ x ∈ l, x.1 ≠ n) : updI n v l = l ++ [(n, v)] := by
  induction l with
  | nil => rfl
  | cons x l ih =>
    rw [updI, if_neg (fun e => h x (by simp) e.symm), ih fun y hy => h y (by simp [hy])]
    rfl
theorem findI_key {n : Int} {l : List (Int × Value)} (h : n ∉ l.map (·.1)) : findI n l = none := by
  induction l with
  | nil => rfl
  | cons x l ih =>
    simp at h
    unfold findI
    rw [if_neg h.1]
    exact ih (by simpa using h.2)
theorem findNow_put (q : IntKind) (n : Int) (v : Value) : ∀ (l : List (Int × Value)) (i j : Nat),
    (Instr.findNow (.int q) (.int q n) (entI q i l) j = some none ∧ updI n v l = l ++ [(n, v)]) ∨
    ∃ d u, Instr.findNow (.int q) (.int q n) (entI q i l) j = some (some (j + d, u)) ∧ d < l.length ∧ (entI q i l)[d]?.map (·.key) = some (.int q n) ∧ (updI n v l).length = l.length ∧ (entI q i l).modify d (fun e => { e with key := .int q n, val := v }) = entI q i (updI n v l)
  | [], i, j => .inl ⟨rfl, rfl⟩
  | (m, u) :: l, i, j => by
    by_cases h : n = m
    · subst h
      exact .inr ⟨0, u, by simp [entI, Instr.findNow, Instr.sameNow], by simp, by simp [entI], by simp [updI], by simp [entI, updI]⟩
    · have hb : (n == m) = false := by simpa using h
      rcases findNow_put q n v l (i + 1) (j + 1) with ⟨h1, h2⟩ | ⟨d, u', h1, h2, h3, h4, h5⟩
      · exact .inl ⟨by simp [entI, Instr.findNow, Instr.sameNow, hb, h1], by simp [updI, h, h2]⟩
      · refine .inr ⟨d + 1, u', ?_, by simpa using h2, ?_, by simp [updI, h, h4], ?_⟩
        · simp only [entI, Instr.findNow, Instr.sameNow, if_true, hb, h1]
          rw [show j + 1 + d = j + (d + 1) by omega]
        · simpa [entI] using h3
        · simp [entI, updI, h, h5]
theorem run_putI {P : Program} {t k e : TypeId} {q : IntKind} (ht : P.underlying t = some (.map k e)) (hk : P.underlying k = some (.int q)) (n : Int) (v : Value) (w : World) (b : Nat) (l : List (Int × Value)) (hb : w.heap[b]? = some (mapI q l)) :
    (Instr.mapUpdate t (.map (some b)) (.int q n) v).run P w = .ok () (w.putObj b (mapI q (updI n v l))) := by
  unfold mapI at hb
  rcases findNow_put q n v l 0 0 with ⟨h1, h2⟩ | ⟨d, u, h1, h2, h3, h4, h5⟩
  · have hf : (Instr.findKey k (.int q n) (entI q 0 l)).run P w = .ok none w := by
      simp [Instr.findKey, run_underlying hk, Sem.run_bind, h1]
    simp only [Instr.mapUpdate, run_underlying ht, Sem.run_bind, Result.andThen_ok, getObj, setObj, Sem.run, hb, checkKey_int hk, hf]
    show Result.ok () (w.putObj b _) = _
    rw [h2]
    congr 2
    simp [mapI, entI_append, entI]
  · rw [Nat.zero_add] at h1
    have hf : (Instr.findKey k (.int q n) (entI q 0 l)).run P w = .ok (some (d, u)) w := by
      simp [Instr.findKey, run_underlying hk, Sem.run_bind, h1]
    have hks : ∀ c : Value, (Instr.keyThatStays (.int q n) (.int q n)).run P w = .ok (.int q n) w := fun _ => by
      unfold Instr.keyThatStays
      rw [if_pos (by show Instr.sameBits (9999 + 1) _ _ = true; simp [Instr.sameBits])]
      simp
    have h3' : (Option.map (fun x => x.key) (entI q 0 l).toArray[d]?).getD (.int q n) = .int q n := by
      rw [List.getElem?_toArray, h3]; rfl
    simp only [Instr.mapUpdate, run_underlying ht, Sem.run_bind, Result.andThen_ok, getObj, setObj, Sem.run, hb, checkKey_int hk, hf, h3', hks undef]
    show Result.ok () (w.putObj b _) = _
    congr 2
    unfold mapI
    rw [h4]
    congr 1
    apply Array.ext'
    rw [Array.toList_modify, h5]
end Go.Proofs.YtijkdabmegbcjaaGreatDoor
