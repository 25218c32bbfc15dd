/- Texts of this claim, merged; no condition. -/
import Derived.Test.YtbicfaiabpcgfaaGreatDoorD03
import Derived.Deep.QuietTactic
import Derived.BigQuiet
import Derived.Test.YtbicfaiabpcgfaaGreatDoorD06
import Derived.Test.YtbicfaiabpcgfaaGreatDoorD02
set_option linter.all false
namespace Go.Proofs.YtbicfaiabpcgfaaGreatDoor
open Go.RowKit

theorem run_storeVar_at {P : Program} (w : World) (b i : Nat) (ty : TypeId) (v : Value) (ht : (w.cell? ⟨b, i, none⟩).isSome = true) (hf : w.frozen? ⟨b, i, none⟩ = false) (hi : (P.info? ty).map (·.size) = some 1) (h1 : v.oneCell' = true) :
    (storeVar ty ⟨b, i, none⟩ v).run P w = .ok () (w.setCell ⟨b, i, none⟩ v) := by
  have := run_storeCells_cells (P := P) b i [v] 0 w (fun j hj => by
    have : j = 0 := by simpa using hj
    subst this; simpa using ht) (fun j hj => by
    have : j = 0 := by simpa using hj
    subst this; simpa using hf) (fun u hu => by rw [List.mem_singleton.1 hu]; exact h1)
  have hc : v.cells = #[v] := by cases v <;> first | rfl | cases h1
  cases hq : P.info? ty with
  | none => simp [hq] at hi
  | some k =>
    have hs : k.size = 1 := by simpa [hq] using hi
    simp only [Nat.add_zero] at this
    simp [storeVar, sizeOf, typeInfo, hq, hc, hs, this, World.setCells]
theorem wp_store_at {P : Program} {o : Oper} {a : Act} {w : World} {K : Act → World → Prop} {Q : Exit → Act → World → Prop} (ty : TypeId) (x y : Operand) (ho : o.op = .store ty x y)
    (b i : Nat) (hx : a.eval x = .pointer (some ⟨b, i, none⟩)) (T : TypeId) (vs : List Value) (v : Value) (hB : BlkG w b T vs) (hl : i < vs.length) (hy : a.eval y = v) (hi : (P.info? ty).map (·.size) = some 1) (h1 : v.oneCell' = true)
    (h : ∀ w', BlkG w' b T (vs.set i v) → Only (· = b) w w' → K (a.put o.dst undef) w') : o.wp P a w K Q := by
  unfold Oper.wp execOp
  simp only [ho, hx, hy, Instr.storeAt, Instr.sureAddr, Sem.run_bind, Sem.run_pure, Result.andThen_ok, run_storeVar_at w b i ty v (by rw [hB.cell i hl]; rfl) (hB.free i) hi h1]
  exact h _ (hB.set i v) ((Only.refl _ w).setCell _ _ rfl)
theorem wpList_store_at {P : Program} {ops : Array Oper} {rest : List Oper} {o : Oper} {a : Act} {w : World} {Q : Exit → Act → World → Prop} (hgd : o.guard = none) (ty : TypeId) (x y : Operand) (ho : o.op = .store ty x y)
    (b i : Nat) (hx : a.eval x = .pointer (some ⟨b, i, none⟩)) (T : TypeId) (vs : List Value) (v : Value) (hB : BlkG w b T vs) (hl : i < vs.length) (hy : a.eval y = v) (hi : (P.info? ty).map (·.size) = some 1) (h1 : v.oneCell' = true)
    (h : ∀ w', BlkG w' b T (vs.set i v) → Only (· = b) w w' → wpList P ops Q rest (a.put o.dst undef) w') : wpList P ops Q (o :: rest) a w :=
  wpList_plain hgd fun _ hK => wp_store_at ty x y ho b i hx T vs v hB hl hy hi h1 fun w' h1 h2 => hK _ _ (h w' h1 h2)
/-- An operation whose guard is met. -/
theorem wpList_wanted {P : Program} {ops : Array Oper} {rest : List Oper} {o : Oper} {a : Act} {w : World} {Q : Exit → Act → World → Prop} (hw : Region.wanted o (yielded ops a.tmps) = true)
    (h : ∀ K : Act → World → Prop, (∀ a w, wpList P ops Q rest a w → K a w) → o.wp P a w K Q) : wpList P ops Q (o :: rest) a w :=
  wpList_step fun K hK => by rw [if_pos hw]; exact h K hK
end Go.Proofs.YtbicfaiabpcgfaaGreatDoor
namespace Go.Proofs.YtbicfaiabpcgfaaGreatDoor
open Go.RowKit

theorem getD_lt {α : Type} {l : List α} {i : Nat} (d : α) (h : i < l.length) : l.getD i d = l[i] := by simp [h]
end Go.Proofs.YtbicfaiabpcgfaaGreatDoor
namespace Go.Proofs.YtbicfaiabpcgfaaGreatDoor
open Go.RowKit Go.Shelf

/-- What an iterator does (it hands on only what Sp allows): function gf with captured lb, from world W on. 'encs x': what it hands to yield. 'Rd': the blocks that it reads. 'inf': it never ends by itself, and N is not reached. 'S xs': all have come; 'Sp pre': a part has come, a round having left. -/
def SeqP {α : Type} (P : Program) (gf : Nat) (lb : Array Value) (encs : α → Array Value) (Rd : Nat → Prop) (S Sp : List α → Prop) (N : Nat) (inf : Bool) (W : World) : Prop :=
  ∀ (l : Nat) (J Jx : (Nat → Prop) → List α → World → Prop), Stable W.heap.size J → Stable W.heap.size Jx →
    (∀ O pre x X, (∀ k, O k → W.heap.size ≤ k ∧ k < X.heap.size) → J O pre X → pre.length < N → Sp (pre ++ [x]) → YieldAt Fence.wide 0 P l (encs x) X fun e X' =>
      (e = .returned (.bool true) ∧ J O (pre ++ [x]) X' ∧ Keep (fun k => O k ∨ Rd k) X X') ∨ (e = .returned (.bool false) ∧ Jx O (pre ++ [x]) X' ∧ Keep (fun k => O k ∨ Rd k) X X')) →
    J (fun _ => False) [] W → (inf = true → ∀ O pre X, J O pre X → pre.length < N) →
    CallsIn Fence.wide 0 P gf (#[.func (.yield l) #[] #[]] ++ lb) W fun e W' => (∃ v, e = .returned v) ∧ ((∃ xs O, S xs ∧ (∀ k, O k → W.heap.size ≤ k) ∧ J O xs W') ∨ (∃ pre O, Sp pre ∧ (∀ k, O k → W.heap.size ≤ k) ∧ Jx O pre W'))

/-- The law of the loop. 'O' in I and Ix: the blocks that the loop's own record and the iterator own. -/
theorem wp_rangeP {P : Program} {α : Type} {g : Operand} {ps : Array Tmp} {assign body : Code} {Q : Exit → Act → World → Prop} {a : Act} {w : World}
    {gf : Nat} {lb : Array Value} (hg : a.eval g = .func (.func gf) #[] lb) (eg : ∀ args w, (callFunc gf args).run P w = .ok (.enter gf args) w)
    {encs : α → Array Value} {Rd : Nat → Prop} {S Sp : List α → Prop} {N : Nat} {inf : Bool} (hRd : ∀ k, Rd k → k < w.heap.size)
    (hseq : ∀ W, Below w.heap.size w W → SeqP P gf lb encs Rd S Sp N inf W) (hps : ∀ x, (encs x).size = ps.size)
    (I : (Nat → Prop) → List α → World → Prop) (Ix : Code → (Nat → Prop) → List α → World → Prop) (hI : Stable w.heap.size I) (hIx : ∀ c, Stable w.heap.size (Ix c)) (h0 : I (fun _ => False) [] w) (hinf : inf = true → ∀ O pre X, I O pre X → pre.length < N)
    (hround : ∀ (l : Nat) (O : Nat → Prop) (pre : List α) (x : α) (W : World), O l → (∀ k, O k → w.heap.size ≤ k ∧ k < W.heap.size) → I O pre W → pre.length < N → Sp (pre ++ [x]) →
      assign.wpIn (Fence.wide.inRound l) 0 P (Exit.then (fun a₁ W₁ => Keep (fun k => O k ∨ Rd k) W W₁ ∧ ∀ W₂, Only (· = l) W₁ W₂ → body.wpIn (Fence.wide.inRound l) 0 P (postB O I Ix (fun k => O k ∨ Rd k) (pre ++ [x]) W₂) a₁ W₂) (fun _ _ _ => False))
        { tmps := (ps.zip (encs x)).foldl (fun t (p, v) => t.setIfInBounds p v) a.tmps, defers := [] } W)
    (hdone : ∀ (D : Nat) (xs : List α) (O : Nat → Prop) (W : World), w.heap.size ≤ D → O D → (∀ k, O k → w.heap.size ≤ k) → S xs → I O xs W → W.heap[D]? = some (.deferred (some [])) → Q .normal { a with defers := { target := .collected D, args := #[] } :: a.defers } W)
    (hstop : ∀ (D : Nat) (c : Code) (pre : List α) (O : Nat → Prop) (W : World), w.heap.size ≤ D → O D → (∀ k, O k → w.heap.size ≤ k) → Sp pre → Ix c O pre W → W.heap[D]? = some (.deferred (some [])) → c.wpIn Fence.wide 0 P Q { a with defers := { target := .collected D, args := #[] } :: a.defers } W) :
    (Code.rangeFunc g ps assign body).wpIn Fence.wide 0 P Q a w := by
  refine wpIn_rangeFunc ?_
  intro fn hfn
  rw [Fence.wide_round]
  obtain ⟨rec, hrec⟩ : ∃ rec : LoopState → Option Code → Loop, rec = fun st pe => { state := st, pending := pe, fn, tmps := a.tmps, params := ps, assign, body, defers := w.heap.size } := ⟨_, rfl⟩
  obtain ⟨W1, hW1⟩ : ∃ W1, (w.alloc (.deferred (some []))).alloc (.loop (rec .ready none)) = W1 := ⟨_, rfl⟩
  have hs1 : W1.heap.size = w.heap.size + 2 := by rw [← hW1]; simp
  have hL1 : W1.heap[w.heap.size + 1]? = some (.loop (rec .ready none)) := by
    rw [← hW1]; have := World.alloc_heap_new (w.alloc (.deferred (some []))) (.loop (rec .ready none)); rwa [World.size_alloc] at this
  have hK1 : W1.heap[w.heap.size]? = some (.deferred (some [])) := by
    rw [← hW1]; exact (Below.heap_alloc _ _ _ (by simp)).trans (World.alloc_heap_new w _)
  have hb1 : Below w.heap.size w W1 := by rw [← hW1]; exact xalloc (xalloc (xrefl w) _) _
  refine ⟨w.heap.size + 1, [{ target := .collected w.heap.size, args := #[] }], W1, { target := .fn (.func gf) lb, args := #[.func (.yield (w.heap.size + 1)) #[] #[]] }, W1, gf,
    #[.func (.yield (w.heap.size + 1)) #[] #[]] ++ lb, W1, ?_, ?_, fun _ _ => trivial, ?_, (fun h => by cases h), ?_⟩
  · rw [← hW1, hrec]; exact run_enterLoop_outer _ _ _ _ _
  · simp only [resolve, hg]
    simp [go_sem]
  · simp [invoke, go_sem, eg]
  · have two : ∀ (O : Nat → Prop), (∀ k, O k → W1.heap.size ≤ k) → (∀ k, (O k ∨ k = w.heap.size ∨ k = w.heap.size + 1) → w.heap.size ≤ k) := fun O hO k hk => by
      rcases hk with h | h | h
      · have := hO k h; omega
      · omega
      · omega
    have stab : ∀ (R : Loop) (J : (Nat → Prop) → List α → World → Prop), Stable w.heap.size J →
        Stable W1.heap.size (fun O pre W => J (fun k => O k ∨ k = w.heap.size ∨ k = w.heap.size + 1) pre W ∧ w.heap.size + 1 < W.heap.size ∧ W.heap[w.heap.size + 1]? = some (.loop R) ∧ W.heap[w.heap.size]? = some (.deferred (some []))) := by
      rintro R J hJ O O' s W W' ⟨hj, hlt, hl, hk⟩ hO hon hO'
      refine ⟨hJ _ _ s W W' hj (two O hO) (hon.mono fun k _ h => .inl h) (fun k h => ?_), Nat.lt_of_lt_of_le hlt hon.size, ?_, ?_⟩
      · rcases h with h | h
        · rcases hO' k h with h | h
          · exact .inl (.inl h)
          · exact .inr h
        · exact .inl (.inr h)
      · rw [hon.same _ hlt (fun h => by have := hO _ h; omega)]; exact hl
      · rw [hon.same _ (by omega) (fun h => by have := hO _ h; omega)]; exact hk
    refine (hseq W1 hb1 (w.heap.size + 1)
      (fun O pre W => I (fun k => O k ∨ k = w.heap.size ∨ k = w.heap.size + 1) pre W ∧ w.heap.size + 1 < W.heap.size ∧ W.heap[w.heap.size + 1]? = some (.loop (rec .ready none)) ∧ W.heap[w.heap.size]? = some (.deferred (some [])))
      (fun O pre W => ∃ c, Ix c (fun k => O k ∨ k = w.heap.size ∨ k = w.heap.size + 1) pre W ∧ w.heap.size + 1 < W.heap.size ∧ W.heap[w.heap.size + 1]? = some (.loop (rec .done (some c))) ∧ W.heap[w.heap.size]? = some (.deferred (some [])))
      (stab _ I hI)
      (by
        rintro O O' s W W' ⟨c, h⟩ hO hon hO'
        exact ⟨c, stab (rec .done (some c)) (Ix c) (hIx c) O O' s W W' h hO hon hO'⟩)
      ?_ ⟨hI _ _ [] w W1 h0 (fun k h => h.elim) ⟨hb1.os, hb1.tape, hb1.output, hb1.size, fun k hk _ => hb1.block k hk⟩ (fun k h => .inr (by rcases h with h | h | h <;> first | exact h.elim | omega)), by omega, hL1, hK1⟩ (fun hi O pre X h => hinf hi _ pre X h.1)).mono ?_
    · rintro O pre x W hO ⟨hi, hlt, hl, hk⟩ hlen hsp
      have hy := run_yield (P := P) (args := encs x) hl (by rw [hrec]; exact hps x)
      rw [hrec] at hy
      obtain ⟨T, hT⟩ : ∃ T : Nat → Prop, T = fun k => O k ∨ k = w.heap.size ∨ k = w.heap.size + 1 := ⟨_, rfl⟩
      have hTl : T (w.heap.size + 1) := by rw [hT]; exact .inr (.inr rfl)
      have hTD : T w.heap.size := by rw [hT]; exact .inr (.inl rfl)
      have hTk : ∀ k, T k → w.heap.size ≤ k ∧ k < W.heap.size := fun k h => by
        rw [hT] at h
        rcases h with h | h | h
        · have := hO k h; exact ⟨by omega, this.2⟩
        · exact ⟨by omega, by omega⟩
        · exact ⟨by omega, by omega⟩
      refine ⟨fn, _, assign, body, hy, roundIn_of_wpIn hfn (wpIn_mono (hround (w.heap.size + 1) T pre x W hTl hTk (by rw [hT]; exact hi) hlen hsp) ?_)⟩
      rintro e a₁ W₁ hp
      cases e with
      | normal =>
        obtain ⟨hkp, hb⟩ := hp
        have hl1 : W₁.heap[w.heap.size + 1]? = some (.loop (rec .ready none)) := (hkp.same _ hlt (.inl hTl)).trans hl
        have hk1 : W₁.heap[w.heap.size]? = some (.deferred (some [])) := (hkp.same _ (by omega) (.inl hTD)).trans hk
        have hlt1 : w.heap.size + 1 < W₁.heap.size := Nat.lt_of_lt_of_le hlt hkp.size
        refine ⟨_, run_beginRound hl1 (by rw [hrec]), ?_⟩
        have hl2 : (W₁.putObj (w.heap.size + 1) (.loop { rec .ready none with state := .busy })).heap[w.heap.size + 1]? = some (.loop { rec .ready none with state := .busy }) := World.putObj_heap_same hlt1
        have hk2 : (W₁.putObj (w.heap.size + 1) (.loop { rec .ready none with state := .busy })).heap[w.heap.size]? = some (.deferred (some [])) := (World.putObj_heap_other (by omega)).trans hk1
        have hsz2 : (W₁.putObj (w.heap.size + 1) (.loop { rec .ready none with state := .busy })).heap.size = W₁.heap.size := World.putObj_size
        have hon : Only (· = w.heap.size + 1) W₁ (W₁.putObj (w.heap.size + 1) (.loop { rec .ready none with state := .busy })) := (Only.refl _ _).putObj _ _ rfl
        refine wpIn_mono (hb _ hon) ?_
        have fin : ∀ (jump : Option Code) (W3 : World), Keep (fun k => T k ∨ Rd k) (W₁.putObj (w.heap.size + 1) (.loop { rec .ready none with state := .busy })) W3 →
            (Instr.endRound (w.heap.size + 1) jump).run P W3 = .ok (.bool jump.isNone) (W3.putObj (w.heap.size + 1) (.loop (rec (if jump.isNone then .ready else .done) jump))) ∧
            w.heap.size + 1 < W3.heap.size ∧ W3.heap[w.heap.size]? = some (.deferred (some [])) := fun jump W3 hk3 => by
          have hl3 := (hk3.same _ (by rw [hsz2]; exact hlt1) (.inl hTl)).trans hl2
          have hA := Nat.lt_of_lt_of_le (by rw [hsz2]; exact hlt1) hk3.size
          have hB := (hk3.same _ (by rw [hsz2]; omega) (.inl hTD)).trans hk2
          refine ⟨?_, hA, hB⟩
          have := run_endRound (P := P) jump hl3
          rw [hrec] at this ⊢
          exact this
        have kept : ∀ W3 o', Keep (fun k => T k ∨ Rd k) (W₁.putObj (w.heap.size + 1) (.loop { rec .ready none with state := .busy })) W3 → Keep (fun k => O k ∨ Rd k) W (W3.putObj (w.heap.size + 1) o') := fun W3 o' hk3 => by
          have nl : ∀ k, k < W.heap.size → (O k ∨ Rd k) → k ≠ w.heap.size + 1 := fun k hk h e => by
            rcases h with h | h
            · have := hO k h; omega
            · have := hRd k h; omega
          refine ⟨by rw [World.putObj_size]; exact Nat.le_trans hkp.size (Nat.le_trans (Nat.le_of_eq hsz2.symm) hk3.size), fun k hk h => ?_⟩
          have hTo : T k ∨ Rd k := by rw [hT]; rcases h with h | h; exact .inl (.inl h); exact .inr h
          rw [World.putObj_heap_other (nl k hk h), hk3.same k (by rw [hsz2]; exact Nat.lt_of_lt_of_le hk hkp.size) hTo, World.putObj_heap_other (nl k hk h), hkp.same k hk hTo]
        have stabT : ∀ (J : (Nat → Prop) → List α → World → Prop), Stable w.heap.size J → ∀ xs W3 o', J T xs W3 → J (fun k => O k ∨ k = w.heap.size ∨ k = w.heap.size + 1) xs (W3.putObj (w.heap.size + 1) o') := fun J hJ xs W3 o' hj => by
          rw [← hT]
          exact hJ T T xs W3 _ hj (fun k h => (hTk k h).1) ((Only.refl _ _).putObj _ _ hTl) (fun k h => .inl h)
        rintro e a3 W3 hp
        cases e with
        | normal =>
          obtain ⟨hk3, hi3⟩ := hp
          obtain ⟨hr, hlt3, hk4⟩ := fin none W3 hk3
          exact ⟨_, _, hr, .inl ⟨rfl, ⟨stabT I hI _ _ _ hi3, by rw [World.putObj_size]; exact hlt3, World.putObj_heap_same hlt3, (World.putObj_heap_other (by omega)).trans hk4⟩, kept _ _ hk3⟩⟩
        | ret =>
          obtain ⟨hk3, hi3⟩ := hp
          obtain ⟨hr, hlt3, hk4⟩ := fin (some .ret) W3 hk3
          exact ⟨_, _, hr, .inr ⟨rfl, ⟨.ret, stabT _ (hIx _) _ _ _ hi3, by rw [World.putObj_size]; exact hlt3, World.putObj_heap_same hlt3, (World.putObj_heap_other (by omega)).trans hk4⟩, kept _ _ hk3⟩⟩
        | exit id =>
          obtain ⟨hk3, hi3⟩ := hp
          obtain ⟨hr, hlt3, hk4⟩ := fin (some (.exit id)) W3 hk3
          exact ⟨_, _, hr, .inr ⟨rfl, ⟨.exit id, stabT _ (hIx _) _ _ _ hi3, by rw [World.putObj_size]; exact hlt3, World.putObj_heap_same hlt3, (World.putObj_heap_other (by omega)).trans hk4⟩, kept _ _ hk3⟩⟩
        | goto t =>
          obtain ⟨hk3, hi3⟩ := hp
          obtain ⟨hr, hlt3, hk4⟩ := fin (some (.goto t)) W3 hk3
          exact ⟨_, _, hr, .inr ⟨rfl, ⟨.goto t, stabT _ (hIx _) _ _ _ hi3, by rw [World.putObj_size]; exact hlt3, World.putObj_heap_same hlt3, (World.putObj_heap_other (by omega)).trans hk4⟩, kept _ _ hk3⟩⟩
        | panic ch => exact hp.elim
        | outgrown => exact hp.elim
      | _ => exact hp.elim
    · rintro e W2 ⟨⟨v, rfl⟩, (⟨xs, O, hS, hO, hi, hlt, hl, hk⟩ | ⟨pre, O, hSp, hO, c, hi, hlt, hl, hk⟩)⟩
      · exact ⟨none, _, by have := run_endLoop (P := P) hl (by rw [hrec]; simp); rw [hrec] at this; exact this,
          hdone _ xs (fun k => O k ∨ k = w.heap.size ∨ k = w.heap.size + 1) _ (Nat.le_refl _) (.inr (.inl rfl)) (two O hO) hS
            (hI _ _ xs W2 _ hi (two O hO) ((Only.refl _ _).putObj _ _ (.inr (.inr rfl))) (fun k h => .inl h)) ((World.putObj_heap_other (by omega)).trans hk)⟩
      · exact ⟨some c, _, by have := run_endLoop (P := P) hl (by rw [hrec]; simp); rw [hrec] at this; exact this,
          hstop _ c pre (fun k => O k ∨ k = w.heap.size ∨ k = w.heap.size + 1) _ (Nat.le_refl _) (.inr (.inl rfl)) (two O hO) hSp
            (hIx c _ _ pre W2 _ hi (two O hO) ((Only.refl _ _).putObj _ _ (.inr (.inr rfl))) (fun k h => .inl h)) ((World.putObj_heap_other (by omega)).trans hk)⟩

end Go.Proofs.YtbicfaiabpcgfaaGreatDoor
namespace Go.Proofs.YtbicfaiabpcgfaaGreatDoor
open Go.RowKit

/-- R hangs on the blocks of S alone. -/
def RdOn (S : Nat → Prop) (R : World → Prop) : Prop := ∀ W W', R W → W.heap.size ≤ W'.heap.size → (∀ k, S k → k < W.heap.size → W'.heap[k]? = W.heap[k]?) → R W'
theorem RdOn.only {S O : Nat → Prop} {R : World → Prop} {W W' : World} (h : RdOn S R) (hR : R W) (ho : Only O W W') (hO : ∀ k, S k → ¬ O k) : R W' := h W W' hR ho.size fun k hk hl => ho.same k hl (hO k hk)
theorem RdOn.below {S : Nat → Prop} {R : World → Prop} {W W' : World} (h : RdOn S R) (hR : R W) (hb : Below W.heap.size W W') : R W' := h W W' hR hb.size fun k _ hl => hb.block k hl
/-- A fact that hangs on blocks that are there. -/
structure Fac (S : Nat → Prop) (R : World → Prop) : Prop where
  on : RdOn S R
  lt : ∀ W, R W → ∀ k, S k → k < W.heap.size
theorem Fac.below {S : Nat → Prop} {R : World → Prop} {W W' : World} (h : Fac S R) (hR : R W) (hb : Below W.heap.size W W') : R W' := h.on.below hR hb

end Go.Proofs.YtbicfaiabpcgfaaGreatDoor
namespace Go.Proofs.YtbicfaiabpcgfaaGreatDoor
open Go.RowKit Go.Shelf

theorem wpIn_scope_wide {P : Program} {c : Code} {Q : Exit → Act → World → Prop} {a : Act} {w : World} (h : c.wpIn Fence.wide 0 P (Exit.noGoto Q) a w) : (Code.scope c).wpIn Fence.wide 0 P Q a w :=
  wpIn_wide.2 (wp_scope_straight (wpIn_wide.1 h))
theorem Fac.only' {S O : Nat → Prop} {R : World → Prop} {W W' : World} (h : Fac S R) (hR : R W) (ho : Only O W W') (hO : ∀ k, S k → ¬ O k) : R W' := h.on.only hR ho hO
theorem take_snoc {α : Type} {l pre : List α} {x : α} {k : Nat} (hk : k ≤ l.length) (h : pre ++ [x] = l.take k) : ∃ hl : pre.length < l.length, l[pre.length] = x ∧ pre = l.take pre.length := by
  have hlen := congrArg List.length h
  rw [List.length_append, List.length_take, List.length_singleton] at hlen
  have hkk : k = pre.length + 1 := by omega
  have hl : pre.length < l.length := by omega
  refine ⟨hl, ?_, ?_⟩
  · rw [hkk, List.take_succ_eq_append_getElem hl] at h
    have := (List.append_inj' h rfl).2
    simpa using this.symm
  · rw [hkk, List.take_succ_eq_append_getElem hl] at h
    exact (List.append_inj' h rfl).1

/-- How a round may be left. -/
def postL (k : Nat) (St : Nat → (Nat → Prop) → World → Prop) (Stop : Nat → Code → (Nat → Prop) → World → Prop) (S : Nat → Prop) (W : World) : Exit → Act → World → Prop
  | .normal, _, W' => Only S W W' ∧ ∃ S', (∀ j, S' j → S j ∨ W.heap.size ≤ j) ∧ St (k + 1) S' W'
  | .ret, _, W' => Only S W W' ∧ ∃ S', (∀ j, S' j → S j ∨ W.heap.size ≤ j) ∧ Stop k .ret S' W'
  | .exit id, _, W' => Only S W W' ∧ ∃ S', (∀ j, S' j → S j ∨ W.heap.size ≤ j) ∧ Stop k (.exit id) S' W'
  | .goto t, _, W' => Only S W W' ∧ ∃ S', (∀ j, S' j → S j ∨ W.heap.size ≤ j) ∧ Stop k (.goto t) S' W'
  | .panic _, _, _ => False
  | .outgrown, _, _ => False

theorem wp_rangeL {P : Program} {α : Type} {g : Operand} {ps : Array Tmp} {assign body : Code} {Q : Exit → Act → World → Prop} {a : Act} {w w0 : World}
    {gf : Nat} {lb : Array Value} (hg : a.eval g = .func (.func gf) #[] lb) (eg : ∀ args w, (callFunc gf args).run P w = .ok (.enter gf args) w)
    {encs : α → Array Value} {Rd : Nat → Prop} (l : List α) (hRd : ∀ k, Rd k → k < w.heap.size) (hw0 : Below w0.heap.size w0 w)
    (hseq : ∀ W, Below w.heap.size w W → SeqP P gf lb encs Rd (fun xs => xs = l) (fun pre => ∃ k, k ≤ l.length ∧ pre = l.take k) l.length false W) (hps : ∀ x, (encs x).size = ps.size)
    (St : Nat → (Nat → Prop) → World → Prop) (Stop : Nat → Code → (Nat → Prop) → World → Prop) (fac : ∀ k S, Fac S (St k S)) (facS : ∀ k c S, Fac S (Stop k c S))
    (S0 : Nat → Prop) (hS0 : ∀ j, S0 j → w0.heap.size ≤ j ∧ ¬ Rd j) (h0 : St 0 S0 w)
    (hround : ∀ (l0 k : Nat) (hk : k < l.length) (W : World),
      assign.wpIn (Fence.wide.inRound l0) 0 P (Exit.then (fun a₁ W₁ => W₁ = W ∧ ∀ S W₂, Below w0.heap.size w0 W₂ → w.heap.size ≤ W₂.heap.size → (∀ j, Rd j → W₂.heap[j]? = w.heap[j]?) → (∀ j, S j → w0.heap.size ≤ j ∧ ¬ Rd j) → St k S W₂ →
        body.wpIn (Fence.wide.inRound l0) 0 P (postL k St Stop S W₂) a₁ W₂) (fun _ _ _ => False))
        { tmps := (ps.zip (encs l[k])).foldl (fun t (p, v) => t.setIfInBounds p v) a.tmps, defers := [] } W)
    (hdone : ∀ (D : Nat) (S : Nat → Prop) (W : World), w.heap.size ≤ D → ¬ S D → Below w0.heap.size w0 W → (∀ j, Rd j → W.heap[j]? = w.heap[j]?) → (∀ j, S j → w0.heap.size ≤ j) → St l.length S W → W.heap[D]? = some (.deferred (some [])) → Q .normal { a with defers := { target := .collected D, args := #[] } :: a.defers } W)
    (hstop : ∀ (D k : Nat) (c : Code) (S : Nat → Prop) (W : World), k < l.length → w.heap.size ≤ D → ¬ S D → Below w0.heap.size w0 W → (∀ j, Rd j → W.heap[j]? = w.heap[j]?) → (∀ j, S j → w0.heap.size ≤ j) → Stop k c S W → W.heap[D]? = some (.deferred (some [])) → c.wpIn Fence.wide 0 P Q { a with defers := { target := .collected D, args := #[] } :: a.defers } W) :
    (Code.rangeFunc g ps assign body).wpIn Fence.wide 0 P Q a w := by
  have stab : ∀ (F : Nat → (Nat → Prop) → World → Prop) (_ : ∀ k S, Fac S (F k S)) (m : List α → Nat), Stable w.heap.size (fun O (pre : List α) W => Below w0.heap.size w0 W ∧ w.heap.size ≤ W.heap.size ∧ (∀ j, Rd j → W.heap[j]? = w.heap[j]?) ∧ ∃ S, (∀ j, S j → ¬ O j ∧ w0.heap.size ≤ j ∧ ¬ Rd j) ∧ F (m pre) S W) := by
    rintro F fF m O O' s W W' ⟨h1, h2, h3, S, h4, h5⟩ hO hon hO'
    refine ⟨hon.below h1 h1.size (fun i hi => by have := hO i hi; have := hw0.size; omega), Nat.le_trans h2 hon.size, fun j hj => ?_, S, fun j hj => ⟨fun h => ?_, (h4 j hj).2⟩, (fF _ S).only' h5 hon fun j hj => (h4 j hj).1⟩
    · have := hRd j hj
      rw [hon.same j (by omega) (fun h => by have := hO j h; omega)]
      exact h3 j hj
    · have hl := (fF _ S).lt _ h5 j hj
      rcases hO' j h with h | h
      · exact (h4 j hj).1 h
      · omega
  refine wp_rangeP hg eg (encs := encs) (Rd := Rd) (S := fun xs => xs = l) (Sp := fun pre => ∃ k, k ≤ l.length ∧ pre = l.take k) (N := l.length) (inf := false) hRd hseq hps
    (fun O pre W => Below w0.heap.size w0 W ∧ w.heap.size ≤ W.heap.size ∧ (∀ j, Rd j → W.heap[j]? = w.heap[j]?) ∧ ∃ S, (∀ j, S j → ¬ O j ∧ w0.heap.size ≤ j ∧ ¬ Rd j) ∧ St pre.length S W)
    (fun c O pre W => Below w0.heap.size w0 W ∧ w.heap.size ≤ W.heap.size ∧ (∀ j, Rd j → W.heap[j]? = w.heap[j]?) ∧ ∃ S, (∀ j, S j → ¬ O j ∧ w0.heap.size ≤ j ∧ ¬ Rd j) ∧ (Stop (pre.length - 1) c S W ∧ pre.length - 1 < l.length))
    (stab St fac List.length) (fun c => stab (fun k S W => Stop k c S W ∧ k < l.length) (fun k S => ⟨fun W W' h hz hs => ⟨(facS k c S).on W W' h.1 hz hs, h.2⟩, fun W h => (facS k c S).lt W h.1⟩) (fun pre => pre.length - 1)) ⟨hw0, Nat.le_refl _, fun _ _ => rfl, S0, fun j hj => ⟨fun h => h, hS0 j hj⟩, h0⟩ (fun h => by cases h) ?_ ?_ ?_
  · rintro l0 O pre x W hOl hO hI hlen ⟨k, hk, hsp⟩
    obtain ⟨hl, hx, -⟩ := take_snoc hk hsp
    subst hx
    refine wpIn_mono (hround l0 pre.length hl W) ?_
    rintro e a1 W1 hp
    cases e with
    | normal =>
      obtain ⟨rfl, hb⟩ := hp
      refine ⟨Keep.refl _ _, fun W2 hon => ?_⟩
      obtain ⟨h1, h2, h3, S, h4, h5⟩ := stab St fac List.length O O pre W1 W2 hI (fun k h => (hO k h).1) (hon.mono fun j _ e => by rw [e]; exact hOl) (fun k h => .inl h)
      have hO2 : ∀ k, O k → k < W2.heap.size := fun k h => Nat.lt_of_lt_of_le (hO k h).2 hon.size
      refine wpIn_mono (hb S W2 h1 h2 h3 (fun j hj => (h4 j hj).2) h5) ?_
      have key : ∀ (F : Nat → (Nat → Prop) → World → Prop) (W3 : World), Only S W2 W3 → (∃ S', (∀ j, S' j → S j ∨ W2.heap.size ≤ j) ∧ F 0 S' W3) →
          Keep (fun k => O k ∨ Rd k) W2 W3 ∧ Below w0.heap.size w0 W3 ∧ w.heap.size ≤ W3.heap.size ∧ (∀ j, Rd j → W3.heap[j]? = w.heap[j]?) ∧ ∃ S, (∀ j, S j → ¬ O j ∧ w0.heap.size ≤ j ∧ ¬ Rd j) ∧ F 0 S W3 := by
        rintro F W3 ho ⟨S', e1, e2⟩
        refine ⟨⟨ho.size, fun j hj h => ho.same j hj fun hs => ?_⟩, ho.below h1 h1.size (fun j hj => (h4 j hj).2.1), Nat.le_trans h2 ho.size, fun j hj => ?_, S', fun j hj => ?_, e2⟩
        · rcases h with h | h
          · exact (h4 j hs).1 h
          · exact (h4 j hs).2.2 h
        · have := hRd j hj
          rw [ho.same j (by omega) fun hs => (h4 j hs).2.2 hj]
          exact h3 j hj
        · rcases e1 j hj with h | h
          · exact h4 j h
          · have := hw0.size
            exact ⟨fun ho => by have := hO2 j ho; omega, by omega, fun hr => by have := hRd j hr; omega⟩
      rintro e a3 W3 hp
      cases e with
      | normal =>
        obtain ⟨ho, hs⟩ := hp
        obtain ⟨r1, r2, r3, r4, r5⟩ := key (fun _ S W => St (pre.length + 1) S W) W3 ho hs
        exact ⟨r1, r2, r3, r4, by rw [List.length_append]; exact r5⟩
      | ret =>
        obtain ⟨ho, S', hS', hs⟩ := hp
        obtain ⟨r1, r2, r3, r4, r5⟩ := key (fun _ S W => Stop pre.length .ret S W ∧ pre.length < l.length) W3 ho ⟨S', hS', hs, hl⟩
        exact ⟨r1, r2, r3, r4, by rw [List.length_append]; exact r5⟩
      | exit id =>
        obtain ⟨ho, S', hS', hs⟩ := hp
        obtain ⟨r1, r2, r3, r4, r5⟩ := key (fun _ S W => Stop pre.length (.exit id) S W ∧ pre.length < l.length) W3 ho ⟨S', hS', hs, hl⟩
        exact ⟨r1, r2, r3, r4, by rw [List.length_append]; exact r5⟩
      | goto t =>
        obtain ⟨ho, S', hS', hs⟩ := hp
        obtain ⟨r1, r2, r3, r4, r5⟩ := key (fun _ S W => Stop pre.length (.goto t) S W ∧ pre.length < l.length) W3 ho ⟨S', hS', hs, hl⟩
        exact ⟨r1, r2, r3, r4, by rw [List.length_append]; exact r5⟩
      | panic ch => exact hp.elim
      | outgrown => exact hp.elim
    | _ => exact hp.elim
  · rintro D xs O W hD hOD hO hS ⟨h1, h2, h3, S, h4, h5⟩ hK
    rw [show xs = l from hS] at h5
    exact hdone D S W hD (fun h => (h4 D h).1 hOD) h1 h3 (fun j hj => (h4 j hj).2.1) h5 hK
  · rintro D c pre O W hD hOD hO hSp ⟨h1, h2, h3, S, h4, h5, h6⟩ hK
    exact hstop D _ c S W h6 hD (fun h => (h4 D h).1 hOD) h1 h3 (fun j hj => (h4 j hj).2.1) h5 hK
end Go.Proofs.YtbicfaiabpcgfaaGreatDoor
namespace Go.Proofs.YtbicfaiabpcgfaaGreatDoor
open Go.RowKit Go.Shelf
attribute [local go_sem] Oper.semAt_some

theorem size_any (c : Nat) (w : World) (hc : c < 256) : Calls Tryz.prog 34 #[.int .u8 c] w fun e w' => e = .returned (.int .i64 (szN c)) ∧ w = w' := by
  by_cases h1 : 96 ≤ c
  · by_cases h2 : c ≤ 127
    · have e : szN c = c - 95 := by unfold szN; rw [if_pos ⟨h1, h2⟩]
      have e2 : ((c - 95 : Nat) : Int) = (c : Int) - 95 := by omega
      rw [e, e2]
      have h3 : (95 : Int) < c := by omega
      have h4 : (c : Int) ≤ 127 := by omega
      clear e e2
      go_enter Tryz.func34, Tryz.ntmps34
      go_wp2
      go_ret
      exact ⟨rfl, rfl⟩
    · have e : szN c = 0 := by unfold szN; rw [if_neg (by omega)]
      rw [e]
      have h3 : (95 : Int) < c := by omega
      have h4 : (127 : Int) < c := by omega
      clear e
      go_enter Tryz.func34, Tryz.ntmps34
      go_wp2
      go_ret
      exact ⟨rfl, rfl⟩
  · have e : szN c = 0 := by unfold szN; rw [if_neg (by omega)]
    rw [e]
    have h3 : (c : Int) ≤ 95 := by omega
    clear e
    go_enter Tryz.func34, Tryz.ntmps34
    go_wp2
    go_ret
    exact ⟨rfl, rfl⟩
theorem ops_any (a : Option Addr) (n c : Nat) (w : World) : Calls Tryz.prog 14 #[.slice a n c] w fun e w' => e = .returned (.func (.func 33) #[] #[.pointer (some ⟨w.heap.size, 0, none⟩)]) ∧ w.alloc (.cells #[.slice a n c] 32) = w' := by
  go_enter Tryz.func14, Tryz.ntmps14
  go_wp2
  go_ret
  exact ⟨rfl, rfl⟩
def encOp (cs : List Nat) (x : Nat) : Array Value := #[.int .i64 x, .int .u8 (byN cs x)]
/-- The blocks in which code lies that a box holds. -/
def codeRd (bx : Nat) (a : Option Addr) (cs : List Nat) (k : Nat) : Prop := k = bx ∨ (cs ≠ [] ∧ ∃ y, a = some y ∧ y.block = k)
theorem code_keep {O : Nat → Prop} {W W' : World} {a : Option Addr} {c : Nat} {cs : List Nat} (h : CodeAt W a c cs) (hk : Keep O W W') (hO : ∀ k, (cs ≠ [] ∧ ∃ y, a = some y ∧ y.block = k) → O k) : CodeAt W' a c cs :=
  ⟨fun i hi => by
    obtain ⟨b, o, e, hc⟩ := h.row i hi
    exact ⟨b, o, e, (World.cell?_of_block (hk.same b (cell_lt hc) (hO b ⟨fun e => by rw [e] at hi; simp [natI] at hi, _, e, rfl⟩))).trans hc⟩, h.nil, h.len, h.ok, h.cap⟩
theorem drop_cons {α : Type} {l : List α} {k : Nat} {x : α} {r : List α} (h : l.drop k = x :: r) : ∃ hk : k < l.length, l[k] = x ∧ l.drop (k + 1) = r ∧ l.take (k + 1) = l.take k ++ [x] := by
  have hk : k < l.length := by
    rcases Nat.lt_or_ge k l.length with h1 | h1
    · exact h1
    · rw [List.drop_eq_nil_of_le h1] at h; cases h
  rw [List.drop_eq_getElem_cons hk] at h
  injection h with h1 h2
  exact ⟨hk, h1, h2, by rw [List.take_succ_eq_append_getElem hk, h1]⟩
set_option maxRecDepth 100000 in
set_option maxHeartbeats 1000000 in
theorem ops_seq (cs : List Nat) (bx : Nat) (a : Option Addr) (c : Nat) (W : World) (hx : Box W bx (.slice a cs.length c) 32) (hm : CodeAt W a c cs) :
    SeqP Tryz.prog 33 #[.pointer (some ⟨bx, 0, none⟩)] (encOp cs) (codeRd bx a cs) (fun xs => xs = opsL cs) (fun pre => ∃ k, k ≤ (opsL cs).length ∧ pre = (opsL cs).take k) (opsL cs).length false W := by
  intro l0 J Jx hJ hJx hY h0 _
  replace hJ := Lib.hid hJ
  replace hJx := Lib.hid hJx
  replace hY := Lib.hid hY
  have hlen := hm.len
  replace hm := Lib.hid hm
  replace hx := Lib.hid hx
  replace h0 := Lib.hid h0
  refine callsIn_of_wp Tryz.func33 rfl trivial ?_ rfl
  simp only [Tryz.ntmps33, List.size_toArray, List.length_cons, List.length_nil, Nat.reduceAdd, Nat.reduceSub, Array.replicate_succ, Array.replicate_zero, List.push_toArray, List.append_toArray, List.nil_append, List.cons_append]
  gi_wp2
  refine wpIn_scope_wide ?_
  gi_wp2
  refine wpIn_label ?_
  gi_wp2
  gi_loopw [3] (fun iv wr => ∃ (k x : Nat), iv = .int .i64 x ∧ x ≤ 1200 ∧ Hid (opsA cs x = (opsL cs).drop k) ∧ Hid (k ≤ (opsL cs).length) ∧ Hid (Box wr bx (.slice a cs.length c) 32) ∧ Hid (CodeAt wr a c cs) ∧ Hid (J (fun _ => False) ((opsL cs).take k) wr)) (fun iv _ => 1300 - (intOf iv).toNat)
  case atStart => exact ⟨0, 0, rfl, by omega, Lib.hid rfl, Lib.hid (Nat.zero_le _), hx, hm, h0⟩
  case round =>
    clear hx hm h0
    obtain ⟨k, x, rfl, hx5, ho, hk, hx, hm, hJs⟩ := hrel
    have hxc := hx.out.cell
    by_cases hlt : x < cs.length
    · have hltI : (x : Int) < cs.length := by omega
      obtain ⟨b, o, rfl, hc, h256⟩ := hm.out.get hlt
      have ho2 := ho.out
      rw [opsA_lt hlt] at ho2
      obtain ⟨hkl, hke, hdr, htk⟩ := drop_cons ho2.symm
      have hs32 := szN_le (byN cs x)
      have h00 : cs ≠ [] := fun e => by rw [e] at hlt; simp at hlt
      have hnx : nxN cs x = x + 1 + szN (byN cs x) := rfl
      obtain ⟨fnc, tmps, assign, body, hy, hR⟩ := hY.out (fun _ => False) ((opsL cs).take k) x wr (fun k h => h.elim) hJs.out (by rw [List.length_take]; omega) ⟨k + 1, by omega, htk.symm⟩
      rw [← htk] at hR
      replace hR := Lib.hid hR
      replace hdr := Lib.hid hdr
      clear ho2 hke htk
      replace hkl := Lib.hid hkl
      generalize hS : szN (byN cs x) = s at *
      have hsz := Lib.hid fun W => size_any (byN cs x) W h256
      rw [hS] at hsz
      have hxn : nxN cs x ≤ 1200 := by omega
      clear hS
      replace hnx := Lib.hid hnx
      unfold encOp at hy
      generalize byN cs x = y at *
      gi_wp2
      refine ⟨rfl, hR.out.mono ?_⟩
      rintro e W3 (⟨rfl, hJ3, hk3⟩ | ⟨rfl, hJx3, hk3⟩)
      · have hx3 := Lib.hid (show Box W3 bx _ _ from (hk3.same bx hx.out.lt (.inr (.inl rfl))).trans hx.out)
        have hm3 := Lib.hid (code_keep hm.out hk3 (fun k h => .inr (.inr h)))
        have hxc3 := hx3.out.cell
        have hc3 : W3.cell? ⟨b, o + x, none⟩ = some (.int .u8 y) := (World.cell?_of_block (hk3.same b (cell_lt hc) (.inr (.inr ⟨h00, _, rfl, rfl⟩)))).trans hc
        replace hJ3 := Lib.hid hJ3
        clear hk3 hJs hx hm hxc hc hR
        gi_wp2
        refine ⟨trivial, rfl, (callsIn_wide.2 (hsz.out _)).mono ?_⟩
        rintro e w' ⟨rfl, rfl⟩
        gi_wp2
        have hv : Value.int .i64 ((x : Int) + (1 + (s : Int))) = .int .i64 ((nxN cs x : Nat) : Int) := by rw [hnx.out]; congr 1; omega
        refine ⟨⟨k + 1, nxN cs x, hv, hxn, Lib.hid hdr.out.symm, Lib.hid hkl.out, hx3, hm3, hJ3⟩, ?_⟩
        simp [intOf]; omega
      · gi_wp2
        rw [Exit.noGoto_normal]
        go_end0
        exact ⟨⟨_, rfl⟩, .inr ⟨_, _, ⟨k + 1, hkl.out, rfl⟩, fun k h => h.elim, hJx3⟩⟩
    · have ho2 := ho.out
      rw [opsA_ge (by omega)] at ho2
      have hkl : k = (opsL cs).length := by
        have := congrArg List.length ho2
        rw [List.length_nil, List.length_drop] at this
        have := hk.out
        omega
      replace ho2 := Lib.hid ho2
      rw [hkl, List.take_length] at hJs
      replace hkl := Lib.hid hkl
      gi_wp2
      rw [Exit.noGoto_normal]
      go_end0
      exact ⟨⟨_, rfl⟩, .inl ⟨_, _, rfl, fun k h => h.elim, hJs.out⟩⟩
end Go.Proofs.YtbicfaiabpcgfaaGreatDoor
