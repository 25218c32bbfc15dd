/- Texts of this claim, merged; no condition. -/
import Derived.Test.YthpallkphamobaaGreatDoorJ04
set_option linter.all false
namespace Go.Proofs.YthpallkphamobaaGreatDoor
open Go.RowKit Go.Shelf

/-- What an iterator does (it hands on only what Sp allows): function gf with captured lb, from world W on. 'encs x': what it hands to yield. 'Rd': the blocks that it reads. 'inf': it never ends by itself, and N is not reached. 'S xs': all have come; 'Sp pre': a part has come, a round having left. -/
def SeqP {α : Type} (P : Program) (gf : Nat) (lb : Array Value) (encs : α → Array Value) (Rd : Nat → Prop) (S Sp : List α → Prop) (N : Nat) (inf : Bool) (W : World) : Prop :=
  ∀ (l : Nat) (J Jx : (Nat → Prop) → List α → World → Prop), Stable W.heap.size J → Stable W.heap.size Jx →
    (∀ O pre x X, (∀ k, O k → W.heap.size ≤ k ∧ k < X.heap.size) → J O pre X → pre.length < N → Sp (pre ++ [x]) → YieldAt Fence.wide 0 P l (encs x) X fun e X' =>
      (e = .returned (.bool true) ∧ J O (pre ++ [x]) X' ∧ Keep (fun k => O k ∨ Rd k) X X') ∨ (e = .returned (.bool false) ∧ Jx O (pre ++ [x]) X' ∧ Keep (fun k => O k ∨ Rd k) X X')) →
    J (fun _ => False) [] W → (inf = true → ∀ O pre X, J O pre X → pre.length < N) →
    CallsIn Fence.wide 0 P gf (#[.func (.yield l) #[] #[]] ++ lb) W fun e W' => (∃ v, e = .returned v) ∧ ((∃ xs O, S xs ∧ (∀ k, O k → W.heap.size ≤ k) ∧ J O xs W') ∨ (∃ pre O, Sp pre ∧ (∀ k, O k → W.heap.size ≤ k) ∧ Jx O pre W'))

/-- The law of the loop. 'O' in I and Ix: the blocks that the loop's own record and the iterator own. -/
theorem wp_rangeP {P : Program} {α : Type} {g : Operand} {ps : Array Tmp} {assign body : Code} {Q : Exit → Act → World → Prop} {a : Act} {w : World}
    {gf : Nat} {lb : Array Value} (hg : a.eval g = .func (.func gf) #[] lb) (eg : ∀ args w, (callFunc gf args).run P w = .ok (.enter gf args) w)
    {encs : α → Array Value} {Rd : Nat → Prop} {S Sp : List α → Prop} {N : Nat} {inf : Bool} (hRd : ∀ k, Rd k → k < w.heap.size)
    (hseq : ∀ W, Below w.heap.size w W → SeqP P gf lb encs Rd S Sp N inf W) (hps : ∀ x, (encs x).size = ps.size)
    (I : (Nat → Prop) → List α → World → Prop) (Ix : Code → (Nat → Prop) → List α → World → Prop) (hI : Stable w.heap.size I) (hIx : ∀ c, Stable w.heap.size (Ix c)) (h0 : I (fun _ => False) [] w) (hinf : inf = true → ∀ O pre X, I O pre X → pre.length < N)
    (hround : ∀ (l : Nat) (O : Nat → Prop) (pre : List α) (x : α) (W : World), O l → (∀ k, O k → w.heap.size ≤ k ∧ k < W.heap.size) → I O pre W → pre.length < N → Sp (pre ++ [x]) →
      assign.wpIn (Fence.wide.inRound l) 0 P (Exit.then (fun a₁ W₁ => Keep (fun k => O k ∨ Rd k) W W₁ ∧ ∀ W₂, Only (· = l) W₁ W₂ → body.wpIn (Fence.wide.inRound l) 0 P (postB O I Ix (fun k => O k ∨ Rd k) (pre ++ [x]) W₂) a₁ W₂) (fun _ _ _ => False))
        { tmps := (ps.zip (encs x)).foldl (fun t (p, v) => t.setIfInBounds p v) a.tmps, defers := [] } W)
    (hdone : ∀ (D : Nat) (xs : List α) (O : Nat → Prop) (W : World), w.heap.size ≤ D → O D → (∀ k, O k → w.heap.size ≤ k) → S xs → I O xs W → W.heap[D]? = some (.deferred (some [])) → Q .normal { a with defers := { target := .collected D, args := #[] } :: a.defers } W)
    (hstop : ∀ (D : Nat) (c : Code) (pre : List α) (O : Nat → Prop) (W : World), w.heap.size ≤ D → O D → (∀ k, O k → w.heap.size ≤ k) → Sp pre → Ix c O pre W → W.heap[D]? = some (.deferred (some [])) → c.wpIn Fence.wide 0 P Q { a with defers := { target := .collected D, args := #[] } :: a.defers } W) :
    (Code.rangeFunc g ps assign body).wpIn Fence.wide 0 P Q a w := by
  refine wpIn_rangeFunc ?_
  intro fn hfn
  rw [Fence.wide_round]
  obtain ⟨rec, hrec⟩ : ∃ rec : LoopState → Option Code → Loop, rec = fun st pe => { state := st, pending := pe, fn, tmps := a.tmps, params := ps, assign, body, defers := w.heap.size } := ⟨_, rfl⟩
  obtain ⟨W1, hW1⟩ : ∃ W1, (w.alloc (.deferred (some []))).alloc (.loop (rec .ready none)) = W1 := ⟨_, rfl⟩
  have hs1 : W1.heap.size = w.heap.size + 2 := by rw [← hW1]; simp
  have hL1 : W1.heap[w.heap.size + 1]? = some (.loop (rec .ready none)) := by
    rw [← hW1]; have := World.alloc_heap_new (w.alloc (.deferred (some []))) (.loop (rec .ready none)); rwa [World.size_alloc] at this
  have hK1 : W1.heap[w.heap.size]? = some (.deferred (some [])) := by
    rw [← hW1]; exact (Below.heap_alloc _ _ _ (by simp)).trans (World.alloc_heap_new w _)
  have hb1 : Below w.heap.size w W1 := by rw [← hW1]; exact xalloc (xalloc (xrefl w) _) _
  refine ⟨w.heap.size + 1, [{ target := .collected w.heap.size, args := #[] }], W1, { target := .fn (.func gf) lb, args := #[.func (.yield (w.heap.size + 1)) #[] #[]] }, W1, gf,
    #[.func (.yield (w.heap.size + 1)) #[] #[]] ++ lb, W1, ?_, ?_, fun _ _ => trivial, ?_, (fun h => by cases h), ?_⟩
  · rw [← hW1, hrec]; exact run_enterLoop_outer _ _ _ _ _
  · simp only [resolve, hg]
    simp [go_sem]
  · simp [invoke, go_sem, eg]
  · have two : ∀ (O : Nat → Prop), (∀ k, O k → W1.heap.size ≤ k) → (∀ k, (O k ∨ k = w.heap.size ∨ k = w.heap.size + 1) → w.heap.size ≤ k) := fun O hO k hk => by
      rcases hk with h | h | h
      · have := hO k h; omega
      · omega
      · omega
    have stab : ∀ (R : Loop) (J : (Nat → Prop) → List α → World → Prop), Stable w.heap.size J →
        Stable W1.heap.size (fun O pre W => J (fun k => O k ∨ k = w.heap.size ∨ k = w.heap.size + 1) pre W ∧ w.heap.size + 1 < W.heap.size ∧ W.heap[w.heap.size + 1]? = some (.loop R) ∧ W.heap[w.heap.size]? = some (.deferred (some []))) := by
      rintro R J hJ O O' s W W' ⟨hj, hlt, hl, hk⟩ hO hon hO'
      refine ⟨hJ _ _ s W W' hj (two O hO) (hon.mono fun k _ h => .inl h) (fun k h => ?_), Nat.lt_of_lt_of_le hlt hon.size, ?_, ?_⟩
      · rcases h with h | h
        · rcases hO' k h with h | h
          · exact .inl (.inl h)
          · exact .inr h
        · exact .inl (.inr h)
      · rw [hon.same _ hlt (fun h => by have := hO _ h; omega)]; exact hl
      · rw [hon.same _ (by omega) (fun h => by have := hO _ h; omega)]; exact hk
    refine (hseq W1 hb1 (w.heap.size + 1)
      (fun O pre W => I (fun k => O k ∨ k = w.heap.size ∨ k = w.heap.size + 1) pre W ∧ w.heap.size + 1 < W.heap.size ∧ W.heap[w.heap.size + 1]? = some (.loop (rec .ready none)) ∧ W.heap[w.heap.size]? = some (.deferred (some [])))
      (fun O pre W => ∃ c, Ix c (fun k => O k ∨ k = w.heap.size ∨ k = w.heap.size + 1) pre W ∧ w.heap.size + 1 < W.heap.size ∧ W.heap[w.heap.size + 1]? = some (.loop (rec .done (some c))) ∧ W.heap[w.heap.size]? = some (.deferred (some [])))
      (stab _ I hI)
      (by
        rintro O O' s W W' ⟨c, h⟩ hO hon hO'
        exact ⟨c, stab (rec .done (some c)) (Ix c) (hIx c) O O' s W W' h hO hon hO'⟩)
      ?_ ⟨hI _ _ [] w W1 h0 (fun k h => h.elim) ⟨hb1.os, hb1.tape, hb1.output, hb1.size, fun k hk _ => hb1.block k hk⟩ (fun k h => .inr (by rcases h with h | h | h <;> first | exact h.elim | omega)), by omega, hL1, hK1⟩ (fun hi O pre X h => hinf hi _ pre X h.1)).mono ?_
    · rintro O pre x W hO ⟨hi, hlt, hl, hk⟩ hlen hsp
      have hy := run_yield (P := P) (args := encs x) hl (by rw [hrec]; exact hps x)
      rw [hrec] at hy
      obtain ⟨T, hT⟩ : ∃ T : Nat → Prop, T = fun k => O k ∨ k = w.heap.size ∨ k = w.heap.size + 1 := ⟨_, rfl⟩
      have hTl : T (w.heap.size + 1) := by rw [hT]; exact .inr (.inr rfl)
      have hTD : T w.heap.size := by rw [hT]; exact .inr (.inl rfl)
      have hTk : ∀ k, T k → w.heap.size ≤ k ∧ k < W.heap.size := fun k h => by
        rw [hT] at h
        rcases h with h | h | h
        · have := hO k h; exact ⟨by omega, this.2⟩
        · exact ⟨by omega, by omega⟩
        · exact ⟨by omega, by omega⟩
      refine ⟨fn, _, assign, body, hy, roundIn_of_wpIn hfn (wpIn_mono (hround (w.heap.size + 1) T pre x W hTl hTk (by rw [hT]; exact hi) hlen hsp) ?_)⟩
      rintro e a₁ W₁ hp
      cases e with
      | normal =>
        obtain ⟨hkp, hb⟩ := hp
        have hl1 : W₁.heap[w.heap.size + 1]? = some (.loop (rec .ready none)) := (hkp.same _ hlt (.inl hTl)).trans hl
        have hk1 : W₁.heap[w.heap.size]? = some (.deferred (some [])) := (hkp.same _ (by omega) (.inl hTD)).trans hk
        have hlt1 : w.heap.size + 1 < W₁.heap.size := Nat.lt_of_lt_of_le hlt hkp.size
        refine ⟨_, run_beginRound hl1 (by rw [hrec]), ?_⟩
        have hl2 : (W₁.putObj (w.heap.size + 1) (.loop { rec .ready none with state := .busy })).heap[w.heap.size + 1]? = some (.loop { rec .ready none with state := .busy }) := World.putObj_heap_same hlt1
        have hk2 : (W₁.putObj (w.heap.size + 1) (.loop { rec .ready none with state := .busy })).heap[w.heap.size]? = some (.deferred (some [])) := (World.putObj_heap_other (by omega)).trans hk1
        have hsz2 : (W₁.putObj (w.heap.size + 1) (.loop { rec .ready none with state := .busy })).heap.size = W₁.heap.size := World.putObj_size
        have hon : Only (· = w.heap.size + 1) W₁ (W₁.putObj (w.heap.size + 1) (.loop { rec .ready none with state := .busy })) := (Only.refl _ _).putObj _ _ rfl
        refine wpIn_mono (hb _ hon) ?_
        have fin : ∀ (jump : Option Code) (W3 : World), Keep (fun k => T k ∨ Rd k) (W₁.putObj (w.heap.size + 1) (.loop { rec .ready none with state := .busy })) W3 →
            (Instr.endRound (w.heap.size + 1) jump).run P W3 = .ok (.bool jump.isNone) (W3.putObj (w.heap.size + 1) (.loop (rec (if jump.isNone then .ready else .done) jump))) ∧
            w.heap.size + 1 < W3.heap.size ∧ W3.heap[w.heap.size]? = some (.deferred (some [])) := fun jump W3 hk3 => by
          have hl3 := (hk3.same _ (by rw [hsz2]; exact hlt1) (.inl hTl)).trans hl2
          have hA := Nat.lt_of_lt_of_le (by rw [hsz2]; exact hlt1) hk3.size
          have hB := (hk3.same _ (by rw [hsz2]; omega) (.inl hTD)).trans hk2
          refine ⟨?_, hA, hB⟩
          have := run_endRound (P := P) jump hl3
          rw [hrec] at this ⊢
          exact this
        have kept : ∀ W3 o', Keep (fun k => T k ∨ Rd k) (W₁.putObj (w.heap.size + 1) (.loop { rec .ready none with state := .busy })) W3 → Keep (fun k => O k ∨ Rd k) W (W3.putObj (w.heap.size + 1) o') := fun W3 o' hk3 => by
          have nl : ∀ k, k < W.heap.size → (O k ∨ Rd k) → k ≠ w.heap.size + 1 := fun k hk h e => by
            rcases h with h | h
            · have := hO k h; omega
            · have := hRd k h; omega
          refine ⟨by rw [World.putObj_size]; exact Nat.le_trans hkp.size (Nat.le_trans (Nat.le_of_eq hsz2.symm) hk3.size), fun k hk h => ?_⟩
          have hTo : T k ∨ Rd k := by rw [hT]; rcases h with h | h; exact .inl (.inl h); exact .inr h
          rw [World.putObj_heap_other (nl k hk h), hk3.same k (by rw [hsz2]; exact Nat.lt_of_lt_of_le hk hkp.size) hTo, World.putObj_heap_other (nl k hk h), hkp.same k hk hTo]
        have stabT : ∀ (J : (Nat → Prop) → List α → World → Prop), Stable w.heap.size J → ∀ xs W3 o', J T xs W3 → J (fun k => O k ∨ k = w.heap.size ∨ k = w.heap.size + 1) xs (W3.putObj (w.heap.size + 1) o') := fun J hJ xs W3 o' hj => by
          rw [← hT]
          exact hJ T T xs W3 _ hj (fun k h => (hTk k h).1) ((Only.refl _ _).putObj _ _ hTl) (fun k h => .inl h)
        rintro e a3 W3 hp
        cases e with
        | normal =>
          obtain ⟨hk3, hi3⟩ := hp
          obtain ⟨hr, hlt3, hk4⟩ := fin none W3 hk3
          exact ⟨_, _, hr, .inl ⟨rfl, ⟨stabT I hI _ _ _ hi3, by rw [World.putObj_size]; exact hlt3, World.putObj_heap_same hlt3, (World.putObj_heap_other (by omega)).trans hk4⟩, kept _ _ hk3⟩⟩
        | ret =>
          obtain ⟨hk3, hi3⟩ := hp
          obtain ⟨hr, hlt3, hk4⟩ := fin (some .ret) W3 hk3
          exact ⟨_, _, hr, .inr ⟨rfl, ⟨.ret, stabT _ (hIx _) _ _ _ hi3, by rw [World.putObj_size]; exact hlt3, World.putObj_heap_same hlt3, (World.putObj_heap_other (by omega)).trans hk4⟩, kept _ _ hk3⟩⟩
        | exit id =>
          obtain ⟨hk3, hi3⟩ := hp
          obtain ⟨hr, hlt3, hk4⟩ := fin (some (.exit id)) W3 hk3
          exact ⟨_, _, hr, .inr ⟨rfl, ⟨.exit id, stabT _ (hIx _) _ _ _ hi3, by rw [World.putObj_size]; exact hlt3, World.putObj_heap_same hlt3, (World.putObj_heap_other (by omega)).trans hk4⟩, kept _ _ hk3⟩⟩
        | goto t =>
          obtain ⟨hk3, hi3⟩ := hp
          obtain ⟨hr, hlt3, hk4⟩ := fin (some (.goto t)) W3 hk3
          exact ⟨_, _, hr, .inr ⟨rfl, ⟨.goto t, stabT _ (hIx _) _ _ _ hi3, by rw [World.putObj_size]; exact hlt3, World.putObj_heap_same hlt3, (World.putObj_heap_other (by omega)).trans hk4⟩, kept _ _ hk3⟩⟩
        | panic ch => exact hp.elim
        | outgrown => exact hp.elim
      | _ => exact hp.elim
    · rintro e W2 ⟨⟨v, rfl⟩, (⟨xs, O, hS, hO, hi, hlt, hl, hk⟩ | ⟨pre, O, hSp, hO, c, hi, hlt, hl, hk⟩)⟩
      · exact ⟨none, _, by have := run_endLoop (P := P) hl (by rw [hrec]; simp); rw [hrec] at this; exact this,
          hdone _ xs (fun k => O k ∨ k = w.heap.size ∨ k = w.heap.size + 1) _ (Nat.le_refl _) (.inr (.inl rfl)) (two O hO) hS
            (hI _ _ xs W2 _ hi (two O hO) ((Only.refl _ _).putObj _ _ (.inr (.inr rfl))) (fun k h => .inl h)) ((World.putObj_heap_other (by omega)).trans hk)⟩
      · exact ⟨some c, _, by have := run_endLoop (P := P) hl (by rw [hrec]; simp); rw [hrec] at this; exact this,
          hstop _ c pre (fun k => O k ∨ k = w.heap.size ∨ k = w.heap.size + 1) _ (Nat.le_refl _) (.inr (.inl rfl)) (two O hO) hSp
            (hIx c _ _ pre W2 _ hi (two O hO) ((Only.refl _ _).putObj _ _ (.inr (.inr rfl))) (fun k h => .inl h)) ((World.putObj_heap_other (by omega)).trans hk)⟩

end Go.Proofs.YthpallkphamobaaGreatDoor
namespace Go.Proofs.YthpallkphamobaaGreatDoor
open Go.RowKit

/-- R hangs on the blocks of S alone. -/
def RdOn (S : Nat → Prop) (R : World → Prop) : Prop := ∀ W W', R W → W.heap.size ≤ W'.heap.size → (∀ k, S k → k < W.heap.size → W'.heap[k]? = W.heap[k]?) → R W'
theorem RdOn.box (k : Nat) (v : Value) (T : TypeId) : RdOn (· = k) (fun W => Box W k v T) := fun _ _ h _ hs => (hs k rfl h.lt).trans h
theorem RdOn.only {S O : Nat → Prop} {R : World → Prop} {W W' : World} (h : RdOn S R) (hR : R W) (ho : Only O W W') (hO : ∀ k, S k → ¬ O k) : R W' := h W W' hR ho.size fun k hk hl => ho.same k hl (hO k hk)
/-- A fact that hangs on blocks that are there. -/
structure Fac (S : Nat → Prop) (R : World → Prop) : Prop where
  on : RdOn S R
  lt : ∀ W, R W → ∀ k, S k → k < W.heap.size
theorem Fac.box (k : Nat) (v : Value) (T : TypeId) : Fac (· = k) (fun W => Box W k v T) := ⟨RdOn.box k v T, fun _ h j hj => by rw [hj]; exact h.lt⟩
/-! An iterator that goes over another one: the blocks from B up to M are its own. -/
def NI {α : Type} (J : (Nat → Prop) → List α → World → Prop) (B M : Nat) (F : World → Prop) (O : Nat → Prop) (pre : List α) (X : World) : Prop := J (fun k => O k ∨ (B ≤ k ∧ k < M)) pre X ∧ F X
def NX {α : Type} (Jx : (Nat → Prop) → List α → World → Prop) (B M : Nat) (c0 : Code) (c : Code) (O : Nat → Prop) (pre : List α) (X : World) : Prop := c = c0 ∧ Jx (fun k => O k ∨ (B ≤ k ∧ k < M)) pre X
theorem ni_J {α : Type} {J : (Nat → Prop) → List α → World → Prop} {B M : Nat} (hJ : Stable B J) (hBM : B ≤ M) {O O' : Nat → Prop} {s : List α} {W W' : World} (h : J (fun k => O k ∨ (B ≤ k ∧ k < M)) s W) (hO : ∀ k, O k → M ≤ k) (hon : Only O W W') (hO' : ∀ k, O' k → O k ∨ W.heap.size ≤ k) : J (fun k => O' k ∨ (B ≤ k ∧ k < M)) s W' :=
  hJ _ _ s W W' h (fun k hk => by rcases hk with h | h; (have := hO k h; omega); exact h.1) (hon.mono fun k _ h => .inl h) (fun k hk => by
    rcases hk with h | h
    · rcases hO' k h with h | h
      · exact .inl (.inl h)
      · exact .inr h
    · exact .inl (.inr h))
theorem ni_stable {α : Type} {J : (Nat → Prop) → List α → World → Prop} {B M : Nat} {F : World → Prop} {S : Nat → Prop} (hJ : Stable B J) (hBM : B ≤ M) (fF : Fac S F) (hS : ∀ k, S k → k < M) : Stable M (NI J B M F) := by
  rintro O O' s W W' ⟨h1, h2⟩ hO hon hO'
  exact ⟨ni_J hJ hBM h1 hO hon hO', fF.on.only h2 hon fun k hk h => by have := hS k hk; have := hO k h; omega⟩
theorem nx_stable {α : Type} {Jx : (Nat → Prop) → List α → World → Prop} {B M : Nat} {c0 : Code} (hJ : Stable B Jx) (hBM : B ≤ M) (c : Code) : Stable M (NX Jx B M c0 c) := by
  rintro O O' s W W' ⟨h1, h2⟩ hO hon hO'
  exact ⟨h1, ni_J hJ hBM h2 hO hon hO'⟩
theorem Fac.keep {S O : Nat → Prop} {R : World → Prop} {W W' : World} (h : Fac S R) (hR : R W) (hk : Keep O W W') (hS : ∀ k, S k → O k) : R W' := h.on W W' hR hk.size fun k hs hl => hk.same k hl (hS k hs)

end Go.Proofs.YthpallkphamobaaGreatDoor
