/- Texts of this claim, merged; no condition. -/
import Derived.Test.YtijkdabmegbcjaaGreatDoorRows
import Derived.WalkKit
import Derived.WalkSpells
import Derived.WalkLawsBesides
import Derived.Deep.QuietTactic
import Derived.BigQuiet
import Derived.Lib.Hide
import Derived.Deep.RegionHeld3
import Derived.Laws.EntriesVeiled
import Derived.Deep.RegionWith
import Derived.Deep.DeepFit
import Derived.RangeFuncRecord
import Derived.RangeFuncNested
import Derived.RangeFuncBound
import Derived.RangeFuncCalls
import Derived.RangeFuncLeaves
import Derived.Shelf.Abstract
import Derived.Shelf.RegionOpen
import Derived.OwnWalkIn
import Derived.TacticsInMore
import Derived.LoopNIn
import Derived.LoopIn
import Derived.Test.YtijkdabmegbcjaaGreatDoorTA
set_option linter.all false
namespace Go.Proofs.YtijkdabmegbcjaaGreatDoor
section
open Go.RowKit
def entI (q : IntKind) : Nat → List (Int × Value) → List MapEntry
  | _, [] => []
  | i, x :: l => { key := .int q x.1, val := x.2, born := i } :: entI q (i + 1) l
def mapI (q : IntKind) (l : List (Int × Value)) : Obj := .map (entI q 0 l).toArray l.length
def findI (n : Int) : List (Int × Value) → Option Value
  | [] => none
  | x :: l => if n = x.1 then some x.2 else findI n l
@[go_sem] theorem findI_nil (n : Int) : findI n [] = none := Eq.trans rfl rfl
@[go_sem] theorem findI_cons (n m : Int) (v : Value) (l : List (Int × Value)) : findI n ((m, v) :: l) = if n = m then some v else findI n l := Eq.trans rfl rfl
theorem findNow_ent (q : IntKind) (n : Int) : ∀ (l : List (Int × Value)) (i j : Nat), ∃ r, Instr.findNow (.int q) (.int q n) (entI q i l) j = some r ∧ r.map (·.2) = findI n l ∧ (findI n l = none → r = none)
  | [], i, j => ⟨none, rfl, rfl, fun _ => rfl⟩
  | (m, v) :: l, i, j => by
    obtain ⟨r, h1, h2, h3⟩ := findNow_ent q n l (i + 1) (j + 1)
    by_cases h : n = m
    · subst h
      exact ⟨some (j, v), by simp [entI, Instr.findNow, Instr.sameNow], by simp [findI], by simp [findI]⟩
    · have hb : (n == m) = false := by simpa using h
      refine ⟨r, by simp [entI, Instr.findNow, Instr.sameNow, hb, h1], by simp [findI, h, h2], by simpa [findI, h] using h3⟩
theorem entI_append (q : IntKind) : ∀ (l l' : List (Int × Value)) (i : Nat), entI q i (l ++ l') = entI q i l ++ entI q (i + l.length) l'
  | [], l', i => by simp [entI]
  | x :: l, l', i => by simp only [List.cons_append, entI, entI_append q l l' (i + 1), List.length_cons]; rw [show i + 1 + l.length = i + (l.length + 1) by omega]
theorem checkKey_int' {P : Program} {k : TypeId} {q : IntKind} (hk : P.underlying k = some (.int q)) (b : Bool) (n : Int) (m : Nat) (w : World) : (Instr.checkKey b (m + 1) k (.int q n)).run P w = .ok () w := by
  simp [Instr.checkKey, run_underlying hk, Sem.run_bind]
theorem checkKey_int {P : Program} {k : TypeId} {q : IntKind} (hk : P.underlying k = some (.int q)) (b : Bool) (n : Int) (w : World) : (Instr.checkKey b 10000 k (.int q n)).run P w = .ok () w := by
  exact checkKey_int' hk b n 9999 w
theorem findKey_int {P : Program} {k : TypeId} {q : IntKind} (hk : P.underlying k = some (.int q)) (n : Int) (l : List (Int × Value)) (w : World) :
    ∃ r, (Instr.findKey k (.int q n) (entI q 0 l)).run P w = .ok r w ∧ r.map (·.2) = findI n l ∧ (findI n l = none → r = none) := by
  obtain ⟨r, h1, h2, h3⟩ := findNow_ent q n l 0 0
  exact ⟨r, by simp [Instr.findKey, run_underlying hk, Sem.run_bind, h1], h2, h3⟩
theorem run_lookI {P : Program} {t k e : TypeId} {q : IntKind} (ht : P.underlying t = some (.map k e)) (hk : P.underlying k = some (.int q)) {z : Value} (hz : ∀ w, (zeroValue e).run P w = .ok z w)
    (n : Int) (w : World) (b : Nat) (l : List (Int × Value)) (c : Bool) (hb : w.heap[b]? = some (mapI q l)) :
    (Instr.lookup t (.map (some b)) (.int q n) c).run P w = .ok (if c then .tuple #[(findI n l).getD z, .bool (findI n l).isSome] else (findI n l).getD z) w := by
  obtain ⟨r, h1, h2, h3⟩ := findKey_int hk n l w
  unfold mapI at hb
  simp only [Instr.lookup, run_underlying ht, Sem.run_bind, Result.andThen_ok, getObj, Sem.run, hb]
  simp [checkKey_int hk, h1]
  cases r with
  | none => simp at h2; simp [← h2, hz]
  | some x => simp at h2; simp [← h2]
def fwd (P : Program) (l : Nat) (rest : Code) (Q : Exit → Act → World → Prop) : Exit → Act → World → Prop
  | .goto l', a, w => l' = l ∧ rest.wp P (Exit.noGoto Q) a w
  | e, a, w => Q e a w
theorem wp_scope_fwd {P : Program} {c rest : Code} {Q : Exit → Act → World → Prop} {a : Act} {w : World} (l : Nat) (hf : findLabel c l = some rest) (h : c.wp P (fwd P l rest Q) a w) : (Code.scope c).wp P Q a w := by
  refine wp_scope_jumps l (fun a w => rest.wp P (Exit.noGoto Q) a w) (fun _ _ => 0) hf ?_ ?_
  · exact Code.wp_mono (fun e a w q => by cases e <;> exact q) h
  · intro a w h
    exact Code.wp_mono (fun e a w q => by cases e <;> first | exact q | exact q.elim) h
section
variable {P : Program} {l : Nat} {rest : Code} {Q : Exit → Act → World → Prop} {a : Act} {w : World}
@[go_sem] theorem fwd_normal : fwd P l rest Q .normal a w = Q .normal a w := rfl
@[go_sem] theorem fwd_exit (id : Nat) : fwd P l rest Q (.exit id) a w = Q (.exit id) a w := rfl
@[go_sem] theorem fwd_ret : fwd P l rest Q .ret a w = Q .ret a w := rfl
@[go_sem] theorem fwd_panic (ch : List PanicEntry) : fwd P l rest Q (.panic ch) a w = Q (.panic ch) a w := rfl
theorem fwd_goto (l' : Nat) : fwd P l rest Q (.goto l') a w = (l' = l ∧ rest.wp P (Exit.noGoto Q) a w) := rfl
end
theorem xrefl (w : World) : Below w.heap.size w w := Below.refl _ _
theorem xalloc {a w : World} (h : Below a.heap.size a w) (o : Obj) : Below a.heap.size a (w.alloc o) := h.alloc h.size o
theorem xdrew {a w : World} (h : Below a.heap.size a w) : Below a.heap.size a w.drew := h.drew
theorem xdrewN {a w : World} (h : Below a.heap.size a w) (n : Nat) : Below a.heap.size a (w.drewN n) := ⟨h.os, h.tape, h.output, h.size, h.block⟩
theorem xset {a w : World} (h : Below a.heap.size a w) {p : Addr} (hp : a.heap.size ≤ p.block) (u : Value) : Below a.heap.size a (w.setCell p u) := h.setCell hp u
theorem xtrans {a b c : World} (h : Below a.heap.size a b) (k : Below b.heap.size b c) : Below a.heap.size a c := h.trans (k.mono h.size)
theorem cell_lt {w : World} {a : Addr} {v : Value} (h : w.cell? a = some v) : a.block < w.heap.size := World.block_lt_of_cell? w a h
theorem ca {w : World} {a : Addr} {v : Value} (o : Obj) (h : w.cell? a = some v) : (w.alloc o).cell? a = some v := (World.cell?_alloc_lt w o a (cell_lt h)).trans h
theorem cbel {w w' : World} {a : Addr} {v : Value} (hb : Below w.heap.size w w') (h : w.cell? a = some v) : w'.cell? a = some v := (hb.cell (cell_lt h)).trans h
end
section
open Go.RowKit
structure Only (O : Nat → Prop) (W W' : World) : Prop where
  os : W'.os = W.os
  tape : W'.tape = W.tape
  output : W'.output = W.output
  size : W.heap.size ≤ W'.heap.size
  same : ∀ k, k < W.heap.size → ¬ O k → W'.heap[k]? = W.heap[k]?
structure Keep (O : Nat → Prop) (W W' : World) : Prop where
  size : W.heap.size ≤ W'.heap.size
  same : ∀ k, k < W.heap.size → O k → W'.heap[k]? = W.heap[k]?
theorem Only.refl (O : Nat → Prop) (W : World) : Only O W W := ⟨rfl, rfl, rfl, Nat.le_refl _, fun _ _ _ => rfl⟩
theorem Only.trans {O : Nat → Prop} {A B C : World} (h : Only O A B) (k : Only O B C) : Only O A C :=
  ⟨k.os.trans h.os, k.tape.trans h.tape, k.output.trans h.output, Nat.le_trans h.size k.size, fun i hi hn => (k.same i (Nat.lt_of_lt_of_le hi h.size) hn).trans (h.same i hi hn)⟩
theorem Only.mono {O O' : Nat → Prop} {W W' : World} (h : Only O W W') (hO : ∀ k, k < W.heap.size → O k → O' k) : Only O' W W' := ⟨h.os, h.tape, h.output, h.size, fun k hk hn => h.same k hk (fun ho => hn (hO k hk ho))⟩
theorem Only.alloc {O : Nat → Prop} {A W : World} (h : Only O A W) (o : Obj) : Only O A (W.alloc o) :=
  h.trans ⟨rfl, rfl, rfl, by simp, fun k hk _ => Below.heap_alloc W o k hk⟩
theorem Only.drew {O : Nat → Prop} {A W : World} (h : Only O A W) : Only O A W.drew := h.trans ⟨rfl, rfl, rfl, Nat.le_refl _, fun _ _ _ => rfl⟩
theorem Only.putObj {O : Nat → Prop} {A W : World} (h : Only O A W) (l : Nat) (o : Obj) (hl : O l) : Only O A (W.putObj l o) :=
  h.trans ⟨rfl, rfl, rfl, by simp, fun k _ hn => World.putObj_heap_other (fun e => hn (e ▸ hl))⟩
theorem Only.setCell {O : Nat → Prop} {A W : World} (h : Only O A W) (p : Addr) (v : Value) (hl : O p.block) : Only O A (W.setCell p v) :=
  h.trans ⟨rfl, rfl, rfl, by simp [World.setCell], fun k _ hn => Below.heap_setCell W p v k (fun e => hn (e ▸ hl))⟩
theorem Only.below {O : Nat → Prop} {B : Nat} {w W W' : World} (h : Below B w W) (k : Only O W W') (hB : B ≤ W.heap.size) (hO : ∀ i, O i → B ≤ i) : Below B w W' :=
  h.trans ⟨k.os, k.tape, k.output, k.size, fun i hi => k.same i (Nat.lt_of_lt_of_le hi hB) (fun ho => by have := hO i ho; omega)⟩
theorem Below.only {O : Nat → Prop} {W W' : World} (h : Below W.heap.size W W') : Only O W W' := ⟨h.os, h.tape, h.output, h.size, fun k hk _ => h.block k hk⟩
theorem Keep.refl (O : Nat → Prop) (W : World) : Keep O W W := ⟨Nat.le_refl _, fun _ _ _ => rfl⟩
theorem Only.cell {O : Nat → Prop} {W W' : World} (h : Only O W W') {a : Addr} {v : Value} (hc : W.cell? a = some v) (ho : ¬ O a.block) : W'.cell? a = some v :=
  (World.cell?_of_block (h.same a.block (cell_lt hc) ho)).trans hc
end
section
open Go.RowKit Go.Shelf
def Stable {β : Type} (B : Nat) (J : (Nat → Prop) → β → World → Prop) : Prop :=
  ∀ (O O' : Nat → Prop) (s : β) (W W' : World), J O s W → (∀ k, O k → B ≤ k) → Only O W W' → (∀ k, O' k → O k ∨ W.heap.size ≤ k) → J O' s W'
def postB {α : Type} (O : Nat → Prop) (I : (Nat → Prop) → List α → World → Prop) (Ix : Code → (Nat → Prop) → List α → World → Prop) (K : Nat → Prop) (xs : List α) (W : World) : Exit → Act → World → Prop
  | .normal, _, W' => Keep K W W' ∧ I O xs W'
  | .ret, _, W' => Keep K W W' ∧ Ix .ret O xs W'
  | .exit id, _, W' => Keep K W W' ∧ Ix (.exit id) O xs W'
  | .goto t, _, W' => Keep K W W' ∧ Ix (.goto t) O xs W'
  | .panic _, _, _ => False
  | .outgrown, _, _ => False
end
section
open Go.RowKit Go.Shelf
def SeqP {α : Type} (P : Program) (gf : Nat) (lb : Array Value) (encs : α → Array Value) (Rd : Nat → Prop) (S Sp : List α → Prop) (N : Nat) (inf : Bool) (W : World) : Prop :=
  ∀ (l : Nat) (J Jx : (Nat → Prop) → List α → World → Prop), Stable W.heap.size J → Stable W.heap.size Jx →
    (∀ O pre x X, (∀ k, O k → W.heap.size ≤ k ∧ k < X.heap.size) → J O pre X → pre.length < N → Sp (pre ++ [x]) → YieldAt Fence.wide 0 P l (encs x) X fun e X' =>
      (e = .returned (.bool true) ∧ J O (pre ++ [x]) X' ∧ Keep (fun k => O k ∨ Rd k) X X') ∨ (e = .returned (.bool false) ∧ Jx O (pre ++ [x]) X' ∧ Keep (fun k => O k ∨ Rd k) X X')) →
    J (fun _ => False) [] W → (inf = true → ∀ O pre X, J O pre X → pre.length < N) →
    CallsIn Fence.wide 0 P gf (#[.func (.yield l) #[] #[]] ++ lb) W fun e W' => (∃ v, e = .returned v) ∧ ((∃ xs O, S xs ∧ (∀ k, O k → W.heap.size ≤ k) ∧ J O xs W') ∨ (∃ pre O, Sp pre ∧ (∀ k, O k → W.heap.size ≤ k) ∧ Jx O pre W'))
theorem wp_rangeP {P : Program} {α : Type} {g : Operand} {ps : Array Tmp} {assign body : Code} {Q : Exit → Act → World → Prop} {a : Act} {w : World}
    {gf : Nat} {lb : Array Value} (hg : a.eval g = .func (.func gf) #[] lb) (eg : ∀ args w, (callFunc gf args).run P w = .ok (.enter gf args) w)
    {encs : α → Array Value} {Rd : Nat → Prop} {S Sp : List α → Prop} {N : Nat} {inf : Bool} (hRd : ∀ k, Rd k → k < w.heap.size)
    (hseq : ∀ W, Below w.heap.size w W → SeqP P gf lb encs Rd S Sp N inf W) (hps : ∀ x, (encs x).size = ps.size)
    (I : (Nat → Prop) → List α → World → Prop) (Ix : Code → (Nat → Prop) → List α → World → Prop) (hI : Stable w.heap.size I) (hIx : ∀ c, Stable w.heap.size (Ix c)) (h0 : I (fun _ => False) [] w) (hinf : inf = true → ∀ O pre X, I O pre X → pre.length < N)
    (hround : ∀ (l : Nat) (O : Nat → Prop) (pre : List α) (x : α) (W : World), O l → (∀ k, O k → w.heap.size ≤ k ∧ k < W.heap.size) → I O pre W → pre.length < N → Sp (pre ++ [x]) →
      assign.wpIn (Fence.wide.inRound l) 0 P (Exit.then (fun a₁ W₁ => Keep (fun k => O k ∨ Rd k) W W₁ ∧ ∀ W₂, Only (· = l) W₁ W₂ → body.wpIn (Fence.wide.inRound l) 0 P (postB O I Ix (fun k => O k ∨ Rd k) (pre ++ [x]) W₂) a₁ W₂) (fun _ _ _ => False))
        { tmps := (ps.zip (encs x)).foldl (fun t (p, v) => t.setIfInBounds p v) a.tmps, defers := [] } W)
    (hdone : ∀ (D : Nat) (xs : List α) (O : Nat → Prop) (W : World), w.heap.size ≤ D → O D → (∀ k, O k → w.heap.size ≤ k) → S xs → I O xs W → W.heap[D]? = some (.deferred (some [])) → Q .normal { a with defers := { target := .collected D, args := #[] } :: a.defers } W)
    (hstop : ∀ (D : Nat) (c : Code) (pre : List α) (O : Nat → Prop) (W : World), w.heap.size ≤ D → O D → (∀ k, O k → w.heap.size ≤ k) → Sp pre → Ix c O pre W → W.heap[D]? = some (.deferred (some [])) → c.wpIn Fence.wide 0 P Q { a with defers := { target := .collected D, args := #[] } :: a.defers } W) :
    (Code.rangeFunc g ps assign body).wpIn Fence.wide 0 P Q a w := by
  refine wpIn_rangeFunc ?_
  intro fn hfn
  rw [Fence.wide_round]
  obtain ⟨rec, hrec⟩ : ∃ rec : LoopState → Option Code → Loop, rec = fun st pe => { state := st, pending := pe, fn, tmps := a.tmps, params := ps, assign, body, defers := w.heap.size } := ⟨_, rfl⟩
  obtain ⟨W1, hW1⟩ : ∃ W1, (w.alloc (.deferred (some []))).alloc (.loop (rec .ready none)) = W1 := ⟨_, rfl⟩
  have hs1 : W1.heap.size = w.heap.size + 2 := by rw [← hW1]; simp
  have hL1 : W1.heap[w.heap.size + 1]? = some (.loop (rec .ready none)) := by
    rw [← hW1]; have := World.alloc_heap_new (w.alloc (.deferred (some []))) (.loop (rec .ready none)); rwa [World.size_alloc] at this
  have hK1 : W1.heap[w.heap.size]? = some (.deferred (some [])) := by
    rw [← hW1]; exact (Below.heap_alloc _ _ _ (by simp)).trans (World.alloc_heap_new w _)
  have hb1 : Below w.heap.size w W1 := by rw [← hW1]; exact xalloc (xalloc (xrefl w) _) _
  refine ⟨w.heap.size + 1, [{ target := .collected w.heap.size, args := #[] }], W1, { target := .fn (.func gf) lb, args := #[.func (.yield (w.heap.size + 1)) #[] #[]] }, W1, gf,
    #[.func (.yield (w.heap.size + 1)) #[] #[]] ++ lb, W1, ?_, ?_, fun _ _ => trivial, ?_, (fun h => by cases h), ?_⟩
  · rw [← hW1, hrec]; exact run_enterLoop_outer _ _ _ _ _
  · simp only [resolve, hg]
    simp [go_sem]
  · simp [invoke, go_sem, eg]
  · have two : ∀ (O : Nat → Prop), (∀ k, O k → W1.heap.size ≤ k) → (∀ k, (O k ∨ k = w.heap.size ∨ k = w.heap.size + 1) → w.heap.size ≤ k) := fun O hO k hk => by
      rcases hk with h | h | h
      · have := hO k h; omega
      · omega
      · omega
    have stab : ∀ (R : Loop) (J : (Nat → Prop) → List α → World → Prop), Stable w.heap.size J →
        Stable W1.heap.size (fun O pre W => J (fun k => O k ∨ k = w.heap.size ∨ k = w.heap.size + 1) pre W ∧ w.heap.size + 1 < W.heap.size ∧ W.heap[w.heap.size + 1]? = some (.loop R) ∧ W.heap[w.heap.size]? = some (.deferred (some []))) := by
      rintro R J hJ O O' s W W' ⟨hj, hlt, hl, hk⟩ hO hon hO'
      refine ⟨hJ _ _ s W W' hj (two O hO) (hon.mono fun k _ h => .inl h) (fun k h => ?_), Nat.lt_of_lt_of_le hlt hon.size, ?_, ?_⟩
      · rcases h with h | h
        · rcases hO' k h with h | h
          · exact .inl (.inl h)
          · exact .inr h
        · exact .inl (.inr h)
      · rw [hon.same _ hlt (fun h => by have := hO _ h; omega)]; exact hl
      · rw [hon.same _ (by omega) (fun h => by have := hO _ h; omega)]; exact hk
    refine (hseq W1 hb1 (w.heap.size + 1)
      (fun O pre W => I (fun k => O k ∨ k = w.heap.size ∨ k = w.heap.size + 1) pre W ∧ w.heap.size + 1 < W.heap.size ∧ W.heap[w.heap.size + 1]? = some (.loop (rec .ready none)) ∧ W.heap[w.heap.size]? = some (.deferred (some [])))
      (fun O pre W => ∃ c, Ix c (fun k => O k ∨ k = w.heap.size ∨ k = w.heap.size + 1) pre W ∧ w.heap.size + 1 < W.heap.size ∧ W.heap[w.heap.size + 1]? = some (.loop (rec .done (some c))) ∧ W.heap[w.heap.size]? = some (.deferred (some [])))
      (stab _ I hI)
      (by
        rintro O O' s W W' ⟨c, h⟩ hO hon hO'
        exact ⟨c, stab (rec .done (some c)) (Ix c) (hIx c) O O' s W W' h hO hon hO'⟩)
      ?_ ⟨hI _ _ [] w W1 h0 (fun k h => h.elim) ⟨hb1.os, hb1.tape, hb1.output, hb1.size, fun k hk _ => hb1.block k hk⟩ (fun k h => .inr (by rcases h with h | h | h <;> first | exact h.elim | omega)), by omega, hL1, hK1⟩ (fun hi O pre X h => hinf hi _ pre X h.1)).mono ?_
    · rintro O pre x W hO ⟨hi, hlt, hl, hk⟩ hlen hsp
      have hy := run_yield (P := P) (args := encs x) hl (by rw [hrec]; exact hps x)
      rw [hrec] at hy
      obtain ⟨T, hT⟩ : ∃ T : Nat → Prop, T = fun k => O k ∨ k = w.heap.size ∨ k = w.heap.size + 1 := ⟨_, rfl⟩
      have hTl : T (w.heap.size + 1) := by rw [hT]; exact .inr (.inr rfl)
      have hTD : T w.heap.size := by rw [hT]; exact .inr (.inl rfl)
      have hTk : ∀ k, T k → w.heap.size ≤ k ∧ k < W.heap.size := fun k h => by
        rw [hT] at h
        rcases h with h | h | h
        · have := hO k h; exact ⟨by omega, this.2⟩
        · exact ⟨by omega, by omega⟩
        · exact ⟨by omega, by omega⟩
      refine ⟨fn, _, assign, body, hy, roundIn_of_wpIn hfn (wpIn_mono (hround (w.heap.size + 1) T pre x W hTl hTk (by rw [hT]; exact hi) hlen hsp) ?_)⟩
      rintro e a₁ W₁ hp
      cases e with
      | normal =>
        obtain ⟨hkp, hb⟩ := hp
        have hl1 : W₁.heap[w.heap.size + 1]? = some (.loop (rec .ready none)) := (hkp.same _ hlt (.inl hTl)).trans hl
        have hk1 : W₁.heap[w.heap.size]? = some (.deferred (some [])) := (hkp.same _ (by omega) (.inl hTD)).trans hk
        have hlt1 : w.heap.size + 1 < W₁.heap.size := Nat.lt_of_lt_of_le hlt hkp.size
        refine ⟨_, run_beginRound hl1 (by rw [hrec]), ?_⟩
        have hl2 : (W₁.putObj (w.heap.size + 1) (.loop { rec .ready none with state := .busy })).heap[w.heap.size + 1]? = some (.loop { rec .ready none with state := .busy }) := World.putObj_heap_same hlt1
        have hk2 : (W₁.putObj (w.heap.size + 1) (.loop { rec .ready none with state := .busy })).heap[w.heap.size]? = some (.deferred (some [])) := (World.putObj_heap_other (by omega)).trans hk1
        have hsz2 : (W₁.putObj (w.heap.size + 1) (.loop { rec .ready none with state := .busy })).heap.size = W₁.heap.size := World.putObj_size
        have hon : Only (· = w.heap.size + 1) W₁ (W₁.putObj (w.heap.size + 1) (.loop { rec .ready none with state := .busy })) := (Only.refl _ _).putObj _ _ rfl
        refine wpIn_mono (hb _ hon) ?_
        have fin : ∀ (jump : Option Code) (W3 : World), Keep (fun k => T k ∨ Rd k) (W₁.putObj (w.heap.size + 1) (.loop { rec .ready none with state := .busy })) W3 →
            (Instr.endRound (w.heap.size + 1) jump).run P W3 = .ok (.bool jump.isNone) (W3.putObj (w.heap.size + 1) (.loop (rec (if jump.isNone then .ready else .done) jump))) ∧
            w.heap.size + 1 < W3.heap.size ∧ W3.heap[w.heap.size]? = some (.deferred (some [])) := fun jump W3 hk3 => by
          have hl3 := (hk3.same _ (by rw [hsz2]; exact hlt1) (.inl hTl)).trans hl2
          have hA := Nat.lt_of_lt_of_le (by rw [hsz2]; exact hlt1) hk3.size
          have hB := (hk3.same _ (by rw [hsz2]; omega) (.inl hTD)).trans hk2
          refine ⟨?_, hA, hB⟩
          have := run_endRound (P := P) jump hl3
          rw [hrec] at this ⊢
          exact this
        have kept : ∀ W3 o', Keep (fun k => T k ∨ Rd k) (W₁.putObj (w.heap.size + 1) (.loop { rec .ready none with state := .busy })) W3 → Keep (fun k => O k ∨ Rd k) W (W3.putObj (w.heap.size + 1) o') := fun W3 o' hk3 => by
          have nl : ∀ k, k < W.heap.size → (O k ∨ Rd k) → k ≠ w.heap.size + 1 := fun k hk h e => by
            rcases h with h | h
            · have := hO k h; omega
            · have := hRd k h; omega
          refine ⟨by rw [World.putObj_size]; exact Nat.le_trans hkp.size (Nat.le_trans (Nat.le_of_eq hsz2.symm) hk3.size), fun k hk h => ?_⟩
          have hTo : T k ∨ Rd k := by rw [hT]; rcases h with h | h; exact .inl (.inl h); exact .inr h
          rw [World.putObj_heap_other (nl k hk h), hk3.same k (by rw [hsz2]; exact Nat.lt_of_lt_of_le hk hkp.size) hTo, World.putObj_heap_other (nl k hk h), hkp.same k hk hTo]
        have stabT : ∀ (J : (Nat → Prop) → List α → World → Prop), Stable w.heap.size J → ∀ xs W3 o', J T xs W3 → J (fun k => O k ∨ k = w.heap.size ∨ k = w.heap.size + 1) xs (W3.putObj (w.heap.size + 1) o') := fun J hJ xs W3 o' hj => by
          rw [← hT]
          exact hJ T T xs W3 _ hj (fun k h => (hTk k h).1) ((Only.refl _ _).putObj _ _ hTl) (fun k h => .inl h)
        rintro e a3 W3 hp
        cases e with
        | normal =>
          obtain ⟨hk3, hi3⟩ := hp
          obtain ⟨hr, hlt3, hk4⟩ := fin none W3 hk3
          exact ⟨_, _, hr, .inl ⟨rfl, ⟨stabT I hI _ _ _ hi3, by rw [World.putObj_size]; exact hlt3, World.putObj_heap_same hlt3, (World.putObj_heap_other (by omega)).trans hk4⟩, kept _ _ hk3⟩⟩
        | ret =>
          obtain ⟨hk3, hi3⟩ := hp
          obtain ⟨hr, hlt3, hk4⟩ := fin (some .ret) W3 hk3
          exact ⟨_, _, hr, .inr ⟨rfl, ⟨.ret, stabT _ (hIx _) _ _ _ hi3, by rw [World.putObj_size]; exact hlt3, World.putObj_heap_same hlt3, (World.putObj_heap_other (by omega)).trans hk4⟩, kept _ _ hk3⟩⟩
        | exit id =>
          obtain ⟨hk3, hi3⟩ := hp
          obtain ⟨hr, hlt3, hk4⟩ := fin (some (.exit id)) W3 hk3
          exact ⟨_, _, hr, .inr ⟨rfl, ⟨.exit id, stabT _ (hIx _) _ _ _ hi3, by rw [World.putObj_size]; exact hlt3, World.putObj_heap_same hlt3, (World.putObj_heap_other (by omega)).trans hk4⟩, kept _ _ hk3⟩⟩
        | goto t =>
          obtain ⟨hk3, hi3⟩ := hp
          obtain ⟨hr, hlt3, hk4⟩ := fin (some (.goto t)) W3 hk3
          exact ⟨_, _, hr, .inr ⟨rfl, ⟨.goto t, stabT _ (hIx _) _ _ _ hi3, by rw [World.putObj_size]; exact hlt3, World.putObj_heap_same hlt3, (World.putObj_heap_other (by omega)).trans hk4⟩, kept _ _ hk3⟩⟩
        | panic ch => exact hp.elim
        | outgrown => exact hp.elim
      | _ => exact hp.elim
    · rintro e W2 ⟨⟨v, rfl⟩, (⟨xs, O, hS, hO, hi, hlt, hl, hk⟩ | ⟨pre, O, hSp, hO, c, hi, hlt, hl, hk⟩)⟩
      · exact ⟨none, _, by have := run_endLoop (P := P) hl (by rw [hrec]; simp); rw [hrec] at this; exact this,
          hdone _ xs (fun k => O k ∨ k = w.heap.size ∨ k = w.heap.size + 1) _ (Nat.le_refl _) (.inr (.inl rfl)) (two O hO) hS
            (hI _ _ xs W2 _ hi (two O hO) ((Only.refl _ _).putObj _ _ (.inr (.inr rfl))) (fun k h => .inl h)) ((World.putObj_heap_other (by omega)).trans hk)⟩
      · exact ⟨some c, _, by have := run_endLoop (P := P) hl (by rw [hrec]; simp); rw [hrec] at this; exact this,
          hstop _ c pre (fun k => O k ∨ k = w.heap.size ∨ k = w.heap.size + 1) _ (Nat.le_refl _) (.inr (.inl rfl)) (two O hO) hSp
            (hIx c _ _ pre W2 _ hi (two O hO) ((Only.refl _ _).putObj _ _ (.inr (.inr rfl))) (fun k h => .inl h)) ((World.putObj_heap_other (by omega)).trans hk)⟩
end
end Go.Proofs.YtijkdabmegbcjaaGreatDoor
