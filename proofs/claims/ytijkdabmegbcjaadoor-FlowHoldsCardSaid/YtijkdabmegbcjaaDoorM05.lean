/- Loops over functions, whose rounds know that what has come is a beginning of what comes. Facts that hang on some blocks alone; a loop that goes over a function twice, the first time leaving it early. What a loop over a function has appended to a slice in a box of its own. -/
import Derived.Test.YtijkdabmegbcjaaDoorM04
set_option linter.all false
namespace Go.Proofs.YtijkdabmegbcjaaDoor
open Go.RowKit Go.Shelf

/-- What an iterator does (it hands on only what Sp allows): function gf with captured lb, from world W on. 'encs x': what it hands to yield. 'Rd': the blocks that it reads. 'inf': it never ends by itself, and N is not reached. 'S xs': all have come; 'Sp pre': a part has come, a round having left. -/
def SeqP {α : Type} (P : Program) (gf : Nat) (lb : Array Value) (encs : α → Array Value) (Rd : Nat → Prop) (S Sp : List α → Prop) (N : Nat) (inf : Bool) (W : World) : Prop :=
  ∀ (l : Nat) (J Jx : (Nat → Prop) → List α → World → Prop), Stable W.heap.size J → Stable W.heap.size Jx →
    (∀ O pre x X, (∀ k, O k → W.heap.size ≤ k ∧ k < X.heap.size) → J O pre X → pre.length < N → Sp (pre ++ [x]) → YieldAt Fence.wide 0 P l (encs x) X fun e X' =>
      (e = .returned (.bool true) ∧ J O (pre ++ [x]) X' ∧ Keep (fun k => O k ∨ Rd k) X X') ∨ (e = .returned (.bool false) ∧ Jx O (pre ++ [x]) X' ∧ Keep (fun k => O k ∨ Rd k) X X')) →
    J (fun _ => False) [] W → (inf = true → ∀ O pre X, J O pre X → pre.length < N) →
    CallsIn Fence.wide 0 P gf (#[.func (.yield l) #[] #[]] ++ lb) W fun e W' => (∃ v, e = .returned v) ∧ ((∃ xs O, S xs ∧ (∀ k, O k → W.heap.size ≤ k) ∧ J O xs W') ∨ (∃ pre O, Sp pre ∧ (∀ k, O k → W.heap.size ≤ k) ∧ Jx O pre W'))

/-- The law of the loop. 'O' in I and Ix: the blocks that the loop's own record and the iterator own. -/
theorem wp_rangeP {P : Program} {α : Type} {g : Operand} {ps : Array Tmp} {assign body : Code} {Q : Exit → Act → World → Prop} {a : Act} {w : World}
    {gf : Nat} {lb : Array Value} (hg : a.eval g = .func (.func gf) #[] lb) (eg : ∀ args w, (callFunc gf args).run P w = .ok (.enter gf args) w)
    {encs : α → Array Value} {Rd : Nat → Prop} {S Sp : List α → Prop} {N : Nat} {inf : Bool} (hRd : ∀ k, Rd k → k < w.heap.size)
    (hseq : ∀ W, Below w.heap.size w W → SeqP P gf lb encs Rd S Sp N inf W) (hps : ∀ x, (encs x).size = ps.size)
    (I : (Nat → Prop) → List α → World → Prop) (Ix : Code → (Nat → Prop) → List α → World → Prop) (hI : Stable w.heap.size I) (hIx : ∀ c, Stable w.heap.size (Ix c)) (h0 : I (fun _ => False) [] w) (hinf : inf = true → ∀ O pre X, I O pre X → pre.length < N)
    (hround : ∀ (l : Nat) (O : Nat → Prop) (pre : List α) (x : α) (W : World), O l → (∀ k, O k → w.heap.size ≤ k ∧ k < W.heap.size) → I O pre W → pre.length < N → Sp (pre ++ [x]) →
      assign.wpIn (Fence.wide.inRound l) 0 P (Exit.then (fun a₁ W₁ => Keep (fun k => O k ∨ Rd k) W W₁ ∧ ∀ W₂, Only (· = l) W₁ W₂ → body.wpIn (Fence.wide.inRound l) 0 P (postB O I Ix (fun k => O k ∨ Rd k) (pre ++ [x]) W₂) a₁ W₂) (fun _ _ _ => False))
        { tmps := (ps.zip (encs x)).foldl (fun t (p, v) => t.setIfInBounds p v) a.tmps, defers := [] } W)
    (hdone : ∀ (D : Nat) (xs : List α) (O : Nat → Prop) (W : World), w.heap.size ≤ D → O D → (∀ k, O k → w.heap.size ≤ k) → S xs → I O xs W → W.heap[D]? = some (.deferred (some [])) → Q .normal { a with defers := { target := .collected D, args := #[] } :: a.defers } W)
    (hstop : ∀ (D : Nat) (c : Code) (pre : List α) (O : Nat → Prop) (W : World), w.heap.size ≤ D → O D → (∀ k, O k → w.heap.size ≤ k) → Sp pre → Ix c O pre W → W.heap[D]? = some (.deferred (some [])) → c.wpIn Fence.wide 0 P Q { a with defers := { target := .collected D, args := #[] } :: a.defers } W) :
    (Code.rangeFunc g ps assign body).wpIn Fence.wide 0 P Q a w := by
  refine wpIn_rangeFunc ?_
  intro fn hfn
  rw [Fence.wide_round]
  obtain ⟨rec, hrec⟩ : ∃ rec : LoopState → Option Code → Loop, rec = fun st pe => { state := st, pending := pe, fn, tmps := a.tmps, params := ps, assign, body, defers := w.heap.size } := ⟨_, rfl⟩
  obtain ⟨W1, hW1⟩ : ∃ W1, (w.alloc (.deferred (some []))).alloc (.loop (rec .ready none)) = W1 := ⟨_, rfl⟩
  have hs1 : W1.heap.size = w.heap.size + 2 := by rw [← hW1]; simp
  have hL1 : W1.heap[w.heap.size + 1]? = some (.loop (rec .ready none)) := by
    rw [← hW1]; have := World.alloc_heap_new (w.alloc (.deferred (some []))) (.loop (rec .ready none)); rwa [World.size_alloc] at this
  have hK1 : W1.heap[w.heap.size]? = some (.deferred (some [])) := by
    rw [← hW1]; exact (Below.heap_alloc _ _ _ (by simp)).trans (World.alloc_heap_new w _)
  have hb1 : Below w.heap.size w W1 := by rw [← hW1]; exact xalloc (xalloc (xrefl w) _) _
  refine ⟨w.heap.size + 1, [{ target := .collected w.heap.size, args := #[] }], W1, { target := .fn (.func gf) lb, args := #[.func (.yield (w.heap.size + 1)) #[] #[]] }, W1, gf,
    #[.func (.yield (w.heap.size + 1)) #[] #[]] ++ lb, W1, ?_, ?_, fun _ _ => trivial, ?_, (fun h => by cases h), ?_⟩
  · rw [← hW1, hrec]; exact run_enterLoop_outer _ _ _ _ _
  · simp only [resolve, hg]
    simp [go_sem]
  · simp [invoke, go_sem, eg]
  · have two : ∀ (O : Nat → Prop), (∀ k, O k → W1.heap.size ≤ k) → (∀ k, (O k ∨ k = w.heap.size ∨ k = w.heap.size + 1) → w.heap.size ≤ k) := fun O hO k hk => by
      rcases hk with h | h | h
      · have := hO k h; omega
      · omega
      · omega
    have stab : ∀ (R : Loop) (J : (Nat → Prop) → List α → World → Prop), Stable w.heap.size J →
        Stable W1.heap.size (fun O pre W => J (fun k => O k ∨ k = w.heap.size ∨ k = w.heap.size + 1) pre W ∧ w.heap.size + 1 < W.heap.size ∧ W.heap[w.heap.size + 1]? = some (.loop R) ∧ W.heap[w.heap.size]? = some (.deferred (some []))) := by
      rintro R J hJ O O' s W W' ⟨hj, hlt, hl, hk⟩ hO hon hO'
      refine ⟨hJ _ _ s W W' hj (two O hO) (hon.mono fun k _ h => .inl h) (fun k h => ?_), Nat.lt_of_lt_of_le hlt hon.size, ?_, ?_⟩
      · rcases h with h | h
        · rcases hO' k h with h | h
          · exact .inl (.inl h)
          · exact .inr h
        · exact .inl (.inr h)
      · rw [hon.same _ hlt (fun h => by have := hO _ h; omega)]; exact hl
      · rw [hon.same _ (by omega) (fun h => by have := hO _ h; omega)]; exact hk
    refine (hseq W1 hb1 (w.heap.size + 1)
      (fun O pre W => I (fun k => O k ∨ k = w.heap.size ∨ k = w.heap.size + 1) pre W ∧ w.heap.size + 1 < W.heap.size ∧ W.heap[w.heap.size + 1]? = some (.loop (rec .ready none)) ∧ W.heap[w.heap.size]? = some (.deferred (some [])))
      (fun O pre W => ∃ c, Ix c (fun k => O k ∨ k = w.heap.size ∨ k = w.heap.size + 1) pre W ∧ w.heap.size + 1 < W.heap.size ∧ W.heap[w.heap.size + 1]? = some (.loop (rec .done (some c))) ∧ W.heap[w.heap.size]? = some (.deferred (some [])))
      (stab _ I hI)
      (by
        rintro O O' s W W' ⟨c, h⟩ hO hon hO'
        exact ⟨c, stab (rec .done (some c)) (Ix c) (hIx c) O O' s W W' h hO hon hO'⟩)
      ?_ ⟨hI _ _ [] w W1 h0 (fun k h => h.elim) ⟨hb1.os, hb1.tape, hb1.output, hb1.size, fun k hk _ => hb1.block k hk⟩ (fun k h => .inr (by rcases h with h | h | h <;> first | exact h.elim | omega)), by omega, hL1, hK1⟩ (fun hi O pre X h => hinf hi _ pre X h.1)).mono ?_
    · rintro O pre x W hO ⟨hi, hlt, hl, hk⟩ hlen hsp
      have hy := run_yield (P := P) (args := encs x) hl (by rw [hrec]; exact hps x)
      rw [hrec] at hy
      obtain ⟨T, hT⟩ : ∃ T : Nat → Prop, T = fun k => O k ∨ k = w.heap.size ∨ k = w.heap.size + 1 := ⟨_, rfl⟩
      have hTl : T (w.heap.size + 1) := by rw [hT]; exact .inr (.inr rfl)
      have hTD : T w.heap.size := by rw [hT]; exact .inr (.inl rfl)
      have hTk : ∀ k, T k → w.heap.size ≤ k ∧ k < W.heap.size := fun k h => by
        rw [hT] at h
        rcases h with h | h | h
        · have := hO k h; exact ⟨by omega, this.2⟩
        · exact ⟨by omega, by omega⟩
        · exact ⟨by omega, by omega⟩
      refine ⟨fn, _, assign, body, hy, roundIn_of_wpIn hfn (wpIn_mono (hround (w.heap.size + 1) T pre x W hTl hTk (by rw [hT]; exact hi) hlen hsp) ?_)⟩
      rintro e a₁ W₁ hp
      cases e with
      | normal =>
        obtain ⟨hkp, hb⟩ := hp
        have hl1 : W₁.heap[w.heap.size + 1]? = some (.loop (rec .ready none)) := (hkp.same _ hlt (.inl hTl)).trans hl
        have hk1 : W₁.heap[w.heap.size]? = some (.deferred (some [])) := (hkp.same _ (by omega) (.inl hTD)).trans hk
        have hlt1 : w.heap.size + 1 < W₁.heap.size := Nat.lt_of_lt_of_le hlt hkp.size
        refine ⟨_, run_beginRound hl1 (by rw [hrec]), ?_⟩
        have hl2 : (W₁.putObj (w.heap.size + 1) (.loop { rec .ready none with state := .busy })).heap[w.heap.size + 1]? = some (.loop { rec .ready none with state := .busy }) := World.putObj_heap_same hlt1
        have hk2 : (W₁.putObj (w.heap.size + 1) (.loop { rec .ready none with state := .busy })).heap[w.heap.size]? = some (.deferred (some [])) := (World.putObj_heap_other (by omega)).trans hk1
        have hsz2 : (W₁.putObj (w.heap.size + 1) (.loop { rec .ready none with state := .busy })).heap.size = W₁.heap.size := World.putObj_size
        have hon : Only (· = w.heap.size + 1) W₁ (W₁.putObj (w.heap.size + 1) (.loop { rec .ready none with state := .busy })) := (Only.refl _ _).putObj _ _ rfl
        refine wpIn_mono (hb _ hon) ?_
        have fin : ∀ (jump : Option Code) (W3 : World), Keep (fun k => T k ∨ Rd k) (W₁.putObj (w.heap.size + 1) (.loop { rec .ready none with state := .busy })) W3 →
            (Instr.endRound (w.heap.size + 1) jump).run P W3 = .ok (.bool jump.isNone) (W3.putObj (w.heap.size + 1) (.loop (rec (if jump.isNone then .ready else .done) jump))) ∧
            w.heap.size + 1 < W3.heap.size ∧ W3.heap[w.heap.size]? = some (.deferred (some [])) := fun jump W3 hk3 => by
          have hl3 := (hk3.same _ (by rw [hsz2]; exact hlt1) (.inl hTl)).trans hl2
          have hA := Nat.lt_of_lt_of_le (by rw [hsz2]; exact hlt1) hk3.size
          have hB := (hk3.same _ (by rw [hsz2]; omega) (.inl hTD)).trans hk2
          refine ⟨?_, hA, hB⟩
          have := run_endRound (P := P) jump hl3
          rw [hrec] at this ⊢
          exact this
        have kept : ∀ W3 o', Keep (fun k => T k ∨ Rd k) (W₁.putObj (w.heap.size + 1) (.loop { rec .ready none with state := .busy })) W3 → Keep (fun k => O k ∨ Rd k) W (W3.putObj (w.heap.size + 1) o') := fun W3 o' hk3 => by
          have nl : ∀ k, k < W.heap.size → (O k ∨ Rd k) → k ≠ w.heap.size + 1 := fun k hk h e => by
            rcases h with h | h
            · have := hO k h; omega
            · have := hRd k h; omega
          refine ⟨by rw [World.putObj_size]; exact Nat.le_trans hkp.size (Nat.le_trans (Nat.le_of_eq hsz2.symm) hk3.size), fun k hk h => ?_⟩
          have hTo : T k ∨ Rd k := by rw [hT]; rcases h with h | h; exact .inl (.inl h); exact .inr h
          rw [World.putObj_heap_other (nl k hk h), hk3.same k (by rw [hsz2]; exact Nat.lt_of_lt_of_le hk hkp.size) hTo, World.putObj_heap_other (nl k hk h), hkp.same k hk hTo]
        have stabT : ∀ (J : (Nat → Prop) → List α → World → Prop), Stable w.heap.size J → ∀ xs W3 o', J T xs W3 → J (fun k => O k ∨ k = w.heap.size ∨ k = w.heap.size + 1) xs (W3.putObj (w.heap.size + 1) o') := fun J hJ xs W3 o' hj => by
          rw [← hT]
          exact hJ T T xs W3 _ hj (fun k h => (hTk k h).1) ((Only.refl _ _).putObj _ _ hTl) (fun k h => .inl h)
        rintro e a3 W3 hp
        cases e with
        | normal =>
          obtain ⟨hk3, hi3⟩ := hp
          obtain ⟨hr, hlt3, hk4⟩ := fin none W3 hk3
          exact ⟨_, _, hr, .inl ⟨rfl, ⟨stabT I hI _ _ _ hi3, by rw [World.putObj_size]; exact hlt3, World.putObj_heap_same hlt3, (World.putObj_heap_other (by omega)).trans hk4⟩, kept _ _ hk3⟩⟩
        | ret =>
          obtain ⟨hk3, hi3⟩ := hp
          obtain ⟨hr, hlt3, hk4⟩ := fin (some .ret) W3 hk3
          exact ⟨_, _, hr, .inr ⟨rfl, ⟨.ret, stabT _ (hIx _) _ _ _ hi3, by rw [World.putObj_size]; exact hlt3, World.putObj_heap_same hlt3, (World.putObj_heap_other (by omega)).trans hk4⟩, kept _ _ hk3⟩⟩
        | exit id =>
          obtain ⟨hk3, hi3⟩ := hp
          obtain ⟨hr, hlt3, hk4⟩ := fin (some (.exit id)) W3 hk3
          exact ⟨_, _, hr, .inr ⟨rfl, ⟨.exit id, stabT _ (hIx _) _ _ _ hi3, by rw [World.putObj_size]; exact hlt3, World.putObj_heap_same hlt3, (World.putObj_heap_other (by omega)).trans hk4⟩, kept _ _ hk3⟩⟩
        | goto t =>
          obtain ⟨hk3, hi3⟩ := hp
          obtain ⟨hr, hlt3, hk4⟩ := fin (some (.goto t)) W3 hk3
          exact ⟨_, _, hr, .inr ⟨rfl, ⟨.goto t, stabT _ (hIx _) _ _ _ hi3, by rw [World.putObj_size]; exact hlt3, World.putObj_heap_same hlt3, (World.putObj_heap_other (by omega)).trans hk4⟩, kept _ _ hk3⟩⟩
        | panic ch => exact hp.elim
        | outgrown => exact hp.elim
      | _ => exact hp.elim
    · rintro e W2 ⟨⟨v, rfl⟩, (⟨xs, O, hS, hO, hi, hlt, hl, hk⟩ | ⟨pre, O, hSp, hO, c, hi, hlt, hl, hk⟩)⟩
      · exact ⟨none, _, by have := run_endLoop (P := P) hl (by rw [hrec]; simp); rw [hrec] at this; exact this,
          hdone _ xs (fun k => O k ∨ k = w.heap.size ∨ k = w.heap.size + 1) _ (Nat.le_refl _) (.inr (.inl rfl)) (two O hO) hS
            (hI _ _ xs W2 _ hi (two O hO) ((Only.refl _ _).putObj _ _ (.inr (.inr rfl))) (fun k h => .inl h)) ((World.putObj_heap_other (by omega)).trans hk)⟩
      · exact ⟨some c, _, by have := run_endLoop (P := P) hl (by rw [hrec]; simp); rw [hrec] at this; exact this,
          hstop _ c pre (fun k => O k ∨ k = w.heap.size ∨ k = w.heap.size + 1) _ (Nat.le_refl _) (.inr (.inl rfl)) (two O hO) hSp
            (hIx c _ _ pre W2 _ hi (two O hO) ((Only.refl _ _).putObj _ _ (.inr (.inr rfl))) (fun k h => .inl h)) ((World.putObj_heap_other (by omega)).trans hk)⟩

end Go.Proofs.YtijkdabmegbcjaaDoor
namespace Go.Proofs.YtijkdabmegbcjaaDoor
open Go.RowKit

/-- R hangs on the blocks of S alone. -/
def RdOn (S : Nat → Prop) (R : World → Prop) : Prop := ∀ W W', R W → W.heap.size ≤ W'.heap.size → (∀ k, S k → k < W.heap.size → W'.heap[k]? = W.heap[k]?) → R W'
theorem RdOn.box (k : Nat) (v : Value) (T : TypeId) : RdOn (· = k) (fun W => Box W k v T) := fun _ _ h _ hs => (hs k rfl h.lt).trans h
theorem RdOn.mark (k : Nat) (o : Obj) : RdOn (· = k) (fun W => W.heap[k]? = some o) := fun _ _ h _ hs => (hs k rfl (Array.getElem?_eq_some_iff.1 h).1).trans h
theorem RdOn.row {q : IntKind} (b o : Nat) (zs : List Int) : RdOn (· = b) (fun W => RowAt q W (some ⟨b, o, none⟩) zs) := fun W W' h _ hs i hi => by
  obtain ⟨b', o', e, hc⟩ := h i hi
  cases e
  exact ⟨b, o, rfl, (World.cell?_of_block (hs b rfl (cell_lt hc))).trans hc⟩
theorem RdOn.and {S1 S2 : Nat → Prop} {R1 R2 : World → Prop} (h1 : RdOn S1 R1) (h2 : RdOn S2 R2) : RdOn (fun k => S1 k ∨ S2 k) (fun W => R1 W ∧ R2 W) :=
  fun W W' ⟨a, b⟩ hz hs => ⟨h1 W W' a hz fun k h => hs k (.inl h), h2 W W' b hz fun k h => hs k (.inr h)⟩
theorem RdOn.only {S O : Nat → Prop} {R : World → Prop} {W W' : World} (h : RdOn S R) (hR : R W) (ho : Only O W W') (hO : ∀ k, S k → ¬ O k) : R W' := h W W' hR ho.size fun k hk hl => ho.same k hl (hO k hk)
theorem RdOn.below {S : Nat → Prop} {R : World → Prop} {W W' : World} (h : RdOn S R) (hR : R W) (hb : Below W.heap.size W W') : R W' := h W W' hR hb.size fun k _ hl => hb.block k hl
theorem RdOn.set {S : Nat → Prop} {R : World → Prop} {W : World} (h : RdOn S R) (hR : R W) (c i : Nat) (v : Value) (hc : ¬ S c) : R (W.setCell ⟨c, i, none⟩ v) :=
  h.only hR ((Only.refl (· = c) W).setCell ⟨c, i, none⟩ v rfl) fun k hk e => hc (e ▸ hk)

/-- A fact that hangs on blocks that are there. -/
structure Fac (S : Nat → Prop) (R : World → Prop) : Prop where
  on : RdOn S R
  lt : ∀ W, R W → ∀ k, S k → k < W.heap.size
theorem Fac.box (k : Nat) (v : Value) (T : TypeId) : Fac (· = k) (fun W => Box W k v T) := ⟨RdOn.box k v T, fun _ h j hj => by rw [hj]; exact h.lt⟩
theorem Fac.cell (b o : Nat) (v : Value) : Fac (· = b) (fun W => W.cell? ⟨b, o, none⟩ = some v) :=
  ⟨fun _ _ h _ hs => (World.cell?_of_block (hs b rfl (cell_lt h))).trans h, fun _ h j hj => by rw [hj]; exact cell_lt h⟩
theorem Fac.row {q : IntKind} (a : Option Addr) (zs : List Int) : Fac (fun k => zs ≠ [] ∧ ∃ y, a = some y ∧ y.block = k) (fun W => RowAt q W a zs) := by
  refine ⟨fun W W' h _ hs i hi => ?_, fun W h k hk => ?_⟩
  · obtain ⟨b, o, e, hc⟩ := h i hi
    exact ⟨b, o, e, (World.cell?_of_block (hs b ⟨fun e => by rw [e] at hi; simp at hi, _, e, rfl⟩ (cell_lt hc))).trans hc⟩
  · obtain ⟨h0, y, e, hy⟩ := hk
    obtain ⟨b, o, e2, hc⟩ := h 0 (List.length_pos_iff.2 h0)
    rw [e2] at e
    cases e
    rw [← hy]
    exact cell_lt hc
theorem Fac.marks (Ds : List Nat) : Fac (· ∈ Ds) (fun W => ∀ D ∈ Ds, W.heap[D]? = some (.deferred (some []))) :=
  ⟨fun _ _ h _ hs D hD => (hs D hD (Array.getElem?_eq_some_iff.1 (h D hD)).1).trans (h D hD), fun _ h k hk => (Array.getElem?_eq_some_iff.1 (h k hk)).1⟩
theorem Fac.tab (b : Nat) (n : Nat) (hn : 0 < n) (f : Nat → Value) : Fac (· = b) (fun W => ∀ j, j < n → W.cell? ⟨b, j, none⟩ = some (f j)) :=
  ⟨fun _ _ h _ hs j hj => (World.cell?_of_block (hs b rfl (cell_lt (h j hj)))).trans (h j hj), fun _ h k hk => by rw [hk]; exact cell_lt (h 0 hn)⟩
theorem Fac.and {S1 S2 : Nat → Prop} {R1 R2 : World → Prop} (h1 : Fac S1 R1) (h2 : Fac S2 R2) : Fac (fun k => S1 k ∨ S2 k) (fun W => R1 W ∧ R2 W) :=
  ⟨h1.on.and h2.on, fun W h k hk => hk.elim (h1.lt W h.1 k) (h2.lt W h.2 k)⟩
theorem Fac.below {S : Nat → Prop} {R : World → Prop} {W W' : World} (h : Fac S R) (hR : R W) (hb : Below W.heap.size W W') : R W' := h.on.below hR hb

/-! An iterator that goes over another one: the blocks from B up to M are its own. -/
def NI {α : Type} (J : (Nat → Prop) → List α → World → Prop) (B M : Nat) (F : World → Prop) (O : Nat → Prop) (pre : List α) (X : World) : Prop := J (fun k => O k ∨ (B ≤ k ∧ k < M)) pre X ∧ F X
def NX {α : Type} (Jx : (Nat → Prop) → List α → World → Prop) (B M : Nat) (c0 : Code) (c : Code) (O : Nat → Prop) (pre : List α) (X : World) : Prop := c = c0 ∧ Jx (fun k => O k ∨ (B ≤ k ∧ k < M)) pre X
theorem ni_J {α : Type} {J : (Nat → Prop) → List α → World → Prop} {B M : Nat} (hJ : Stable B J) (hBM : B ≤ M) {O O' : Nat → Prop} {s : List α} {W W' : World} (h : J (fun k => O k ∨ (B ≤ k ∧ k < M)) s W) (hO : ∀ k, O k → M ≤ k) (hon : Only O W W') (hO' : ∀ k, O' k → O k ∨ W.heap.size ≤ k) : J (fun k => O' k ∨ (B ≤ k ∧ k < M)) s W' :=
  hJ _ _ s W W' h (fun k hk => by rcases hk with h | h; (have := hO k h; omega); exact h.1) (hon.mono fun k _ h => .inl h) (fun k hk => by
    rcases hk with h | h
    · rcases hO' k h with h | h
      · exact .inl (.inl h)
      · exact .inr h
    · exact .inl (.inr h))
theorem ni_stable {α : Type} {J : (Nat → Prop) → List α → World → Prop} {B M : Nat} {F : World → Prop} {S : Nat → Prop} (hJ : Stable B J) (hBM : B ≤ M) (fF : Fac S F) (hS : ∀ k, S k → k < M) : Stable M (NI J B M F) := by
  rintro O O' s W W' ⟨h1, h2⟩ hO hon hO'
  exact ⟨ni_J hJ hBM h1 hO hon hO', fF.on.only h2 hon fun k hk h => by have := hS k hk; have := hO k h; omega⟩
theorem nx_stable {α : Type} {Jx : (Nat → Prop) → List α → World → Prop} {B M : Nat} {c0 : Code} (hJ : Stable B Jx) (hBM : B ≤ M) (c : Code) : Stable M (NX Jx B M c0 c) := by
  rintro O O' s W W' ⟨h1, h2⟩ hO hon hO'
  exact ⟨h1, ni_J hJ hBM h2 hO hon hO'⟩
theorem Fac.keep {S O : Nat → Prop} {R : World → Prop} {W W' : World} (h : Fac S R) (hR : R W) (hk : Keep O W W') (hS : ∀ k, S k → O k) : R W' := h.on W W' hR hk.size fun k hs hl => hk.same k hl (hS k hs)

/-- What holds while a loop over a function goes on: F; so many have come, as block p8 tells; none was wrong, as block rc tells; in the first turn, not as many as wanted. -/
def TI {α : Type} (w : World) (F : World → Prop) (rc p8 : Nat) (x : Int) (t : Nat) (_ : Nat → Prop) (pre : List α) (W : World) : Prop :=
  F W ∧ Box W p8 (.int .i64 pre.length) 3 ∧ Box W rc (.bool false) 4 ∧ (t = 0 → pre.length = 0 ∨ (pre.length : Int) < x) ∧ Below w.heap.size w W
def TX {α : Type} (brk : Nat) (w : World) (F : World → Prop) (rc p8 : Nat) (x : Int) (t : Nat) (c : Code) (_ : Nat → Prop) (pre : List α) (W : World) : Prop :=
  c = .exit brk ∧ t = 0 ∧ F W ∧ Box W p8 (.int .i64 pre.length) 3 ∧ Box W rc (.bool false) 4 ∧ (1 ≤ pre.length ∧ x ≤ (pre.length : Int) ∧ (pre.length = 1 ∨ (pre.length : Int) - 1 < x)) ∧ Below w.heap.size w W
section
variable {α : Type} {brk : Nat} {w : World} {F : World → Prop} {S : Nat → Prop} {rc p8 : Nat} {x : Int} {t M : Nat}
theorem TI.only {O O1 O2 : Nat → Prop} {pre : List α} {W W' : World} (h : TI w F rc p8 x t O1 pre W) (hS : RdOn S F) (hM : ∀ k, (S k ∨ k = rc ∨ k = p8) → k < M) (hw : w.heap.size ≤ M) (ho : Only O W W') (hO : ∀ k, O k → M ≤ k) : TI w F rc p8 x t O2 pre W' := by
  obtain ⟨h1, h2, h3, h4, h5⟩ := h
  have no : ∀ k, k < M → ¬ O k := fun k hk h => by have := hO k h; omega
  exact ⟨hS.only h1 ho fun k hk => no k (hM k (.inl hk)), h2.only ho (no _ (hM _ (.inr (.inr rfl)))), h3.only ho (no _ (hM _ (.inr (.inl rfl)))), h4, ho.below h5 h5.size (fun i hi => by have := hO i hi; omega)⟩
theorem ti_stable (hS : RdOn S F) (hM : ∀ k, (S k ∨ k = rc ∨ k = p8) → k < M) (hw : w.heap.size ≤ M) : Stable M (TI (α := α) w F rc p8 x t) :=
  fun _ _ _ _ _ h hO hon _ => h.only hS hM hw hon hO
theorem tx_stable (hS : RdOn S F) (hM : ∀ k, (S k ∨ k = rc ∨ k = p8) → k < M) (hw : w.heap.size ≤ M) (c : Code) : Stable M (TX (α := α) brk w F rc p8 x t c) := by
  rintro O O' s W W' ⟨h0, h1, h2, h3, h4, h5, h6⟩ hO ho -
  have no : ∀ k, k < M → ¬ O k := fun k hk h => by have := hO k h; omega
  exact ⟨h0, h1, hS.only h2 ho fun k hk => no k (hM k (.inl hk)), h3.only ho (no _ (hM _ (.inr (.inr rfl)))), h4.only ho (no _ (hM _ (.inr (.inl rfl)))), h5, ho.below h6 h6.size (fun i hi => by have := hO i hi; omega)⟩
theorem TI.below {O O2 : Nat → Prop} {pre : List α} {W W' : World} (h : TI w F rc p8 x t O pre W) (hS : RdOn S F) (hb : Below W.heap.size W W') : TI w F rc p8 x t O2 pre W' :=
  ⟨hS.below h.1 hb, h.2.1.below hb, h.2.2.1.below hb, h.2.2.2.1, xtrans h.2.2.2.2 hb⟩
/-- One more has come. -/
theorem TI.next {O : Nat → Prop} {pre : List α} {W : World} (h : TI w F rc p8 x t O pre W) (hS : RdOn S F) (hn : ∀ k, S k → k ≠ p8) (hrc : rc ≠ p8) (hw : w.heap.size ≤ p8) (y : α) {n : Nat} (e : n = pre.length + 1) :
    F (W.setCell ⟨p8, 0, none⟩ (.int .i64 n)) ∧ Box (W.setCell ⟨p8, 0, none⟩ (.int .i64 n)) p8 (.int .i64 (pre ++ [y]).length) 3 ∧ Box (W.setCell ⟨p8, 0, none⟩ (.int .i64 n)) rc (.bool false) 4 ∧ Below w.heap.size w (W.setCell ⟨p8, 0, none⟩ (.int .i64 n)) := by
  obtain ⟨h1, h2, h3, h4, h5⟩ := h
  refine ⟨hS.set h1 p8 0 _ fun hk => hn _ hk rfl, ?_, h3.oth _ hrc, h5.setCell hw _⟩
  rw [List.length_append, List.length_singleton, ← e]
  exact h2.set _
end
/-- What holds behind such a loop. -/
def TM (w W1 : World) (F : World → Prop) (rc p8 N : Nat) (x : Int) (t : Nat) (a a' : Act) (W' : World) : Prop :=
  ∃ D, a' = { a with defers := { target := .collected D, args := #[] } :: a.defers } ∧ W1.heap.size ≤ D ∧ W'.heap[D]? = some (.deferred (some [])) ∧ ∃ n : Nat, (t = 0 → ((n : Int) != min (N : Int) (max 1 x)) = false) ∧ (t = 1 → n = N) ∧
    F W' ∧ Box W' p8 (.int .i64 n) 3 ∧ Box W' rc (.bool false) 4 ∧ Below w.heap.size w W'
/-- How many come in the first turn. -/
theorem two_first {N n : Nat} {x : Int} (h : (n = N ∧ (n = 0 ∨ (n : Int) < x)) ∨ (n ≤ N ∧ 1 ≤ n ∧ x ≤ (n : Int) ∧ (n = 1 ∨ (n : Int) - 1 < x))) : ((n : Int) != min (N : Int) (max 1 x)) = false := by
  rw [bne_eq_false_iff_eq]
  rcases h with ⟨h1, h2⟩ | ⟨h1, h2, h3, h4⟩ <;> omega
theorem two_small {N n : Nat} {x : Int} (h : ((n : Int) != min (N : Int) (max 1 x)) = false) : (n : Int) = smallF (N : Int) (bigF 1 x) ∧ (n : Int) = min (N : Int) (max 1 x) := by
  rw [bne_eq_false_iff_eq] at h
  refine ⟨?_, h⟩
  unfold smallF bigF
  (split <;> split) <;> omega
end Go.Proofs.YtijkdabmegbcjaaDoor
namespace Go.Proofs.YtijkdabmegbcjaaDoor
open Go.RowKit

theorem ai_only {O : Nat → Prop} {w w' : World} {base : Nat} {e : TypeId} {v : Value} {n : Nat} {xs : List Value} (h : w.ownsRow base e 1 v n xs) (ho : Only O w w') (hv : ∀ g, v.ownBlock = some g → ¬ O g) : w'.ownsRow base e 1 v n xs := by
  refine ⟨h.1, ?_⟩
  rcases h.2 with hn | ⟨g, cap, cur, rfl, hb, hg, r⟩
  · exact .inl hn
  · exact .inr ⟨g, cap, cur, rfl, hb, (ho.same g (Array.getElem?_eq_some_iff.1 hg).1 (hv g rfl)).trans hg, r⟩
theorem ai_lt {w : World} {base : Nat} {e : TypeId} {v : Value} {n : Nat} {xs : List Value} (h : w.ownsRow base e 1 v n xs) {g : Nat} (hv : v.ownBlock = some g) : base ≤ g ∧ g < w.heap.size := by
  rcases h.2 with ⟨rfl, -⟩ | ⟨g', cap, cur, rfl, hb, hg, r⟩
  · cases hv
  · obtain rfl : g' = g := Option.some.inj hv
    exact ⟨hb, (Array.getElem?_eq_some_iff.1 hg).1⟩
/-- The box in block B (of slices of type ST) holds a slice of the call's own with what has come; its block is none of the iterator's. -/
def AI {α : Type} (ST ET : TypeId) (enc : α → Value) (B : Nat) (w : World) (O : Nat → Prop) (pre : List α) (W : World) : Prop :=
  ∃ v, W.heap[B]? = some (.cells #[v] ST) ∧ W.ownsRow B ET 1 v pre.length (pre.map enc) ∧ (∀ g, v.ownBlock = some g → ¬ O g) ∧ Below w.heap.size w W
section
variable {α : Type} {ST ET : TypeId} {enc : α → Value} {B : Nat} {w W W' : World} {O O' : Nat → Prop} {pre : List α}
theorem ai_stable (M : Nat) (hB : B < M) (hw : w.heap.size ≤ M) : Stable M (AI ST ET enc B w) := by
  rintro O O' s W W' ⟨v, h1, h2, h3, h4⟩ hO hon hO'
  have n1 : ¬ O B := fun h => by have := hO _ h; omega
  refine ⟨v, (hon.same _ (Array.getElem?_eq_some_iff.1 h1).1 n1).trans h1, ai_only h2 hon h3, fun g hg h => ?_, hon.below h4 h4.size (fun i h => by have := hO i h; omega)⟩
  rcases hO' g h with h | h
  · exact h3 g hg h
  · have := (ai_lt h2 hg).2; omega
theorem AI.below (h : AI ST ET enc B w O pre W) (hb : Below W.heap.size W W') : AI ST ET enc B w O pre W' := by
  obtain ⟨v, h1, h2, h3, h4⟩ := h
  exact ⟨v, (hb.block _ (Array.getElem?_eq_some_iff.1 h1).1).trans h1, own_keep h2 hb, h3, xtrans h4 hb⟩
/-- One more has been appended, and stored back. -/
theorem ai_next {Rd : Nat → Prop} {W2 W3 W5 : World} (hT : ET ≠ ST) (m : α) {v V5 : Value} (hRd : ∀ k, Rd k → k < B) (hwB : w.heap.size ≤ B) (o2 : W2.ownsRow B ET 1 v pre.length (pre.map enc)) (hb : Below W2.heap.size W2 W3) (b3 : Below w.heap.size w W3) (hwl : B < W2.heap.size) (hg5 : W3.grownBy W5 v.ownBlock)
    (c5 : W5.heap[B]? = some (.cells #[v] ST)) (o5 : W5.ownsRow B ET 1 V5 (pre.length + 1) (pre.map enc ++ [enc m])) (hvb : V5.ownBlock = v.ownBlock ∨ ∀ k, V5.ownBlock = some k → W3.heap.size ≤ k)
    (h3 : ∀ g, v.ownBlock = some g → ¬ O g) (hO : ∀ k, O k → B < k ∧ k < W2.heap.size) :
    AI ST ET enc B w O (pre ++ [m]) (W5.setCell ⟨B, 0, none⟩ V5) ∧ Keep (fun k => O k ∨ Rd k) W2 (W5.setCell ⟨B, 0, none⟩ V5) := by
  have cs := boxed_set (u := V5) c5
  have hon : Only (· = B) W5 (W5.setCell ⟨B, 0, none⟩ V5) := (Only.refl _ _).setCell _ _ rfl
  have hne := boxed_ne o5 c5 hT
  refine ⟨⟨V5, cs, ?_, ?_, ?_⟩, ?_⟩
  · rw [List.length_append, List.map_append]
    exact ai_only o5 hon fun g hg e => hne (by rw [hg, e])
  · intro g hg ho
    rcases hvb with e | e
    · exact h3 g (by rw [← e]; exact hg) ho
    · have := e g hg; have := (hO g ho).2; have := hb.size; omega
  · refine hon.below (b3.grown hg5 b3.size fun j hj => ?_) (Nat.le_trans b3.size hg5.size) (by rintro i rfl; omega)
    have := (ai_lt o2 hj).1
    omega
  · refine ⟨Nat.le_trans hb.size (Nat.le_trans hg5.size hon.size), fun k hk h => ?_⟩
    have hkw : k ≠ B := by
      rcases h with h | h
      · have := (hO k h).1; omega
      · have := hRd k h; omega
    rw [hon.same k (Nat.lt_of_lt_of_le hk (Nat.le_trans hb.size hg5.size)) hkw, hg5.block k (Nat.lt_of_lt_of_le hk hb.size) ?_, hb.block k hk]
    intro e
    rcases h with h | h
    · exact h3 k e.symm h
    · have := (ai_lt o2 e.symm).1; have := hRd k h; omega
end
end Go.Proofs.YtijkdabmegbcjaaDoor
