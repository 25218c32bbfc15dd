/- Facts that hang on some blocks alone; a loop that goes over a function twice, the first time leaving it early. -/
import Derived.Test.YtioihjgobmbanaaCom
import Derived.Test.YtioihjgobmbanaaIterP
namespace Go.Proofs.Ytioihjgobmbanaa
open Go.RowKit

/-- R hangs on the blocks of S alone. -/
def RdOn (S : Nat → Prop) (R : World → Prop) : Prop := ∀ W W', R W → W.heap.size ≤ W'.heap.size → (∀ k, S k → k < W.heap.size → W'.heap[k]? = W.heap[k]?) → R W'
theorem RdOn.box (k : Nat) (v : Value) (T : TypeId) : RdOn (· = k) (fun W => Box W k v T) := fun _ _ h _ hs => (hs k rfl h.lt).trans h
theorem RdOn.mark (k : Nat) (o : Obj) : RdOn (· = k) (fun W => W.heap[k]? = some o) := fun _ _ h _ hs => (hs k rfl (Array.getElem?_eq_some_iff.1 h).1).trans h
theorem RdOn.row {q : IntKind} (b o : Nat) (zs : List Int) : RdOn (· = b) (fun W => RowAt q W (some ⟨b, o, none⟩) zs) := fun W W' h _ hs i hi => by
  obtain ⟨b', o', e, hc⟩ := h i hi
  cases e
  exact ⟨b, o, rfl, (World.cell?_of_block (hs b rfl (cell_lt hc))).trans hc⟩
theorem RdOn.and {S1 S2 : Nat → Prop} {R1 R2 : World → Prop} (h1 : RdOn S1 R1) (h2 : RdOn S2 R2) : RdOn (fun k => S1 k ∨ S2 k) (fun W => R1 W ∧ R2 W) :=
  fun W W' ⟨a, b⟩ hz hs => ⟨h1 W W' a hz fun k h => hs k (.inl h), h2 W W' b hz fun k h => hs k (.inr h)⟩
theorem RdOn.only {S O : Nat → Prop} {R : World → Prop} {W W' : World} (h : RdOn S R) (hR : R W) (ho : Only O W W') (hO : ∀ k, S k → ¬ O k) : R W' := h W W' hR ho.size fun k hk hl => ho.same k hl (hO k hk)
theorem RdOn.below {S : Nat → Prop} {R : World → Prop} {W W' : World} (h : RdOn S R) (hR : R W) (hb : Below W.heap.size W W') : R W' := h W W' hR hb.size fun k _ hl => hb.block k hl
theorem RdOn.set {S : Nat → Prop} {R : World → Prop} {W : World} (h : RdOn S R) (hR : R W) (c i : Nat) (v : Value) (hc : ¬ S c) : R (W.setCell ⟨c, i, none⟩ v) :=
  h.only hR ((Only.refl (· = c) W).setCell ⟨c, i, none⟩ v rfl) fun k hk e => hc (e ▸ hk)

/-- A fact that hangs on blocks that are there. -/
structure Fac (S : Nat → Prop) (R : World → Prop) : Prop where
  on : RdOn S R
  lt : ∀ W, R W → ∀ k, S k → k < W.heap.size
theorem Fac.box (k : Nat) (v : Value) (T : TypeId) : Fac (· = k) (fun W => Box W k v T) := ⟨RdOn.box k v T, fun _ h j hj => by rw [hj]; exact h.lt⟩
theorem Fac.cell (b o : Nat) (v : Value) : Fac (· = b) (fun W => W.cell? ⟨b, o, none⟩ = some v) :=
  ⟨fun _ _ h _ hs => (World.cell?_of_block (hs b rfl (cell_lt h))).trans h, fun _ h j hj => by rw [hj]; exact cell_lt h⟩
theorem Fac.row {q : IntKind} (a : Option Addr) (zs : List Int) : Fac (fun k => zs ≠ [] ∧ ∃ y, a = some y ∧ y.block = k) (fun W => RowAt q W a zs) := by
  refine ⟨fun W W' h _ hs i hi => ?_, fun W h k hk => ?_⟩
  · obtain ⟨b, o, e, hc⟩ := h i hi
    exact ⟨b, o, e, (World.cell?_of_block (hs b ⟨fun e => by rw [e] at hi; simp at hi, _, e, rfl⟩ (cell_lt hc))).trans hc⟩
  · obtain ⟨h0, y, e, hy⟩ := hk
    obtain ⟨b, o, e2, hc⟩ := h 0 (List.length_pos_iff.2 h0)
    rw [e2] at e
    cases e
    rw [← hy]
    exact cell_lt hc
theorem Fac.marks (Ds : List Nat) : Fac (· ∈ Ds) (fun W => ∀ D ∈ Ds, W.heap[D]? = some (.deferred (some []))) :=
  ⟨fun _ _ h _ hs D hD => (hs D hD (Array.getElem?_eq_some_iff.1 (h D hD)).1).trans (h D hD), fun _ h k hk => (Array.getElem?_eq_some_iff.1 (h k hk)).1⟩
theorem Fac.tab (b : Nat) (n : Nat) (hn : 0 < n) (f : Nat → Value) : Fac (· = b) (fun W => ∀ j, j < n → W.cell? ⟨b, j, none⟩ = some (f j)) :=
  ⟨fun _ _ h _ hs j hj => (World.cell?_of_block (hs b rfl (cell_lt (h j hj)))).trans (h j hj), fun _ h k hk => by rw [hk]; exact cell_lt (h 0 hn)⟩
theorem Fac.and {S1 S2 : Nat → Prop} {R1 R2 : World → Prop} (h1 : Fac S1 R1) (h2 : Fac S2 R2) : Fac (fun k => S1 k ∨ S2 k) (fun W => R1 W ∧ R2 W) :=
  ⟨h1.on.and h2.on, fun W h k hk => hk.elim (h1.lt W h.1 k) (h2.lt W h.2 k)⟩
theorem Fac.below {S : Nat → Prop} {R : World → Prop} {W W' : World} (h : Fac S R) (hR : R W) (hb : Below W.heap.size W W') : R W' := h.on.below hR hb

/-! An iterator that goes over another one: the blocks from B up to M are its own. -/
def NI {α : Type} (J : (Nat → Prop) → List α → World → Prop) (B M : Nat) (F : World → Prop) (O : Nat → Prop) (pre : List α) (X : World) : Prop := J (fun k => O k ∨ (B ≤ k ∧ k < M)) pre X ∧ F X
def NX {α : Type} (Jx : (Nat → Prop) → List α → World → Prop) (B M : Nat) (c0 : Code) (c : Code) (O : Nat → Prop) (pre : List α) (X : World) : Prop := c = c0 ∧ Jx (fun k => O k ∨ (B ≤ k ∧ k < M)) pre X
theorem ni_J {α : Type} {J : (Nat → Prop) → List α → World → Prop} {B M : Nat} (hJ : Stable B J) (hBM : B ≤ M) {O O' : Nat → Prop} {s : List α} {W W' : World} (h : J (fun k => O k ∨ (B ≤ k ∧ k < M)) s W) (hO : ∀ k, O k → M ≤ k) (hon : Only O W W') (hO' : ∀ k, O' k → O k ∨ W.heap.size ≤ k) : J (fun k => O' k ∨ (B ≤ k ∧ k < M)) s W' :=
  hJ _ _ s W W' h (fun k hk => by rcases hk with h | h; (have := hO k h; omega); exact h.1) (hon.mono fun k _ h => .inl h) (fun k hk => by
    rcases hk with h | h
    · rcases hO' k h with h | h
      · exact .inl (.inl h)
      · exact .inr h
    · exact .inl (.inr h))
theorem ni_stable {α : Type} {J : (Nat → Prop) → List α → World → Prop} {B M : Nat} {F : World → Prop} {S : Nat → Prop} (hJ : Stable B J) (hBM : B ≤ M) (fF : Fac S F) (hS : ∀ k, S k → k < M) : Stable M (NI J B M F) := by
  rintro O O' s W W' ⟨h1, h2⟩ hO hon hO'
  exact ⟨ni_J hJ hBM h1 hO hon hO', fF.on.only h2 hon fun k hk h => by have := hS k hk; have := hO k h; omega⟩
theorem nx_stable {α : Type} {Jx : (Nat → Prop) → List α → World → Prop} {B M : Nat} {c0 : Code} (hJ : Stable B Jx) (hBM : B ≤ M) (c : Code) : Stable M (NX Jx B M c0 c) := by
  rintro O O' s W W' ⟨h1, h2⟩ hO hon hO'
  exact ⟨h1, ni_J hJ hBM h2 hO hon hO'⟩
theorem Fac.keep {S O : Nat → Prop} {R : World → Prop} {W W' : World} (h : Fac S R) (hR : R W) (hk : Keep O W W') (hS : ∀ k, S k → O k) : R W' := h.on W W' hR hk.size fun k hs hl => hk.same k hl (hS k hs)

/-- What holds while a loop over a function goes on: F; so many have come, as block p8 tells; none was wrong, as block rc tells; in the first turn, not as many as wanted. -/
def TI {α : Type} (w : World) (F : World → Prop) (rc p8 : Nat) (x : Int) (t : Nat) (_ : Nat → Prop) (pre : List α) (W : World) : Prop :=
  F W ∧ Box W p8 (.int .i64 pre.length) 3 ∧ Box W rc (.bool false) 4 ∧ (t = 0 → pre.length = 0 ∨ (pre.length : Int) < x) ∧ Below w.heap.size w W
def TX {α : Type} (brk : Nat) (w : World) (F : World → Prop) (rc p8 : Nat) (x : Int) (t : Nat) (c : Code) (_ : Nat → Prop) (pre : List α) (W : World) : Prop :=
  c = .exit brk ∧ t = 0 ∧ F W ∧ Box W p8 (.int .i64 pre.length) 3 ∧ Box W rc (.bool false) 4 ∧ (1 ≤ pre.length ∧ x ≤ (pre.length : Int) ∧ (pre.length = 1 ∨ (pre.length : Int) - 1 < x)) ∧ Below w.heap.size w W
section
variable {α : Type} {brk : Nat} {w : World} {F : World → Prop} {S : Nat → Prop} {rc p8 : Nat} {x : Int} {t M : Nat}
theorem TI.only {O O1 O2 : Nat → Prop} {pre : List α} {W W' : World} (h : TI w F rc p8 x t O1 pre W) (hS : RdOn S F) (hM : ∀ k, (S k ∨ k = rc ∨ k = p8) → k < M) (hw : w.heap.size ≤ M) (ho : Only O W W') (hO : ∀ k, O k → M ≤ k) : TI w F rc p8 x t O2 pre W' := by
  obtain ⟨h1, h2, h3, h4, h5⟩ := h
  have no : ∀ k, k < M → ¬ O k := fun k hk h => by have := hO k h; omega
  exact ⟨hS.only h1 ho fun k hk => no k (hM k (.inl hk)), h2.only ho (no _ (hM _ (.inr (.inr rfl)))), h3.only ho (no _ (hM _ (.inr (.inl rfl)))), h4, ho.below h5 h5.size (fun i hi => by have := hO i hi; omega)⟩
theorem ti_stable (hS : RdOn S F) (hM : ∀ k, (S k ∨ k = rc ∨ k = p8) → k < M) (hw : w.heap.size ≤ M) : Stable M (TI (α := α) w F rc p8 x t) :=
  fun _ _ _ _ _ h hO hon _ => h.only hS hM hw hon hO
theorem tx_stable (hS : RdOn S F) (hM : ∀ k, (S k ∨ k = rc ∨ k = p8) → k < M) (hw : w.heap.size ≤ M) (c : Code) : Stable M (TX (α := α) brk w F rc p8 x t c) := by
  rintro O O' s W W' ⟨h0, h1, h2, h3, h4, h5, h6⟩ hO ho -
  have no : ∀ k, k < M → ¬ O k := fun k hk h => by have := hO k h; omega
  exact ⟨h0, h1, hS.only h2 ho fun k hk => no k (hM k (.inl hk)), h3.only ho (no _ (hM _ (.inr (.inr rfl)))), h4.only ho (no _ (hM _ (.inr (.inl rfl)))), h5, ho.below h6 h6.size (fun i hi => by have := hO i hi; omega)⟩
theorem TI.below {O O2 : Nat → Prop} {pre : List α} {W W' : World} (h : TI w F rc p8 x t O pre W) (hS : RdOn S F) (hb : Below W.heap.size W W') : TI w F rc p8 x t O2 pre W' :=
  ⟨hS.below h.1 hb, h.2.1.below hb, h.2.2.1.below hb, h.2.2.2.1, xtrans h.2.2.2.2 hb⟩
/-- One more has come. -/
theorem TI.next {O : Nat → Prop} {pre : List α} {W : World} (h : TI w F rc p8 x t O pre W) (hS : RdOn S F) (hn : ∀ k, S k → k ≠ p8) (hrc : rc ≠ p8) (hw : w.heap.size ≤ p8) (y : α) {n : Nat} (e : n = pre.length + 1) :
    F (W.setCell ⟨p8, 0, none⟩ (.int .i64 n)) ∧ Box (W.setCell ⟨p8, 0, none⟩ (.int .i64 n)) p8 (.int .i64 (pre ++ [y]).length) 3 ∧ Box (W.setCell ⟨p8, 0, none⟩ (.int .i64 n)) rc (.bool false) 4 ∧ Below w.heap.size w (W.setCell ⟨p8, 0, none⟩ (.int .i64 n)) := by
  obtain ⟨h1, h2, h3, h4, h5⟩ := h
  refine ⟨hS.set h1 p8 0 _ fun hk => hn _ hk rfl, ?_, h3.oth _ hrc, h5.setCell hw _⟩
  rw [List.length_append, List.length_singleton, ← e]
  exact h2.set _
end
/-- What holds behind such a loop. -/
def TM (w W1 : World) (F : World → Prop) (rc p8 N : Nat) (x : Int) (t : Nat) (a a' : Act) (W' : World) : Prop :=
  ∃ D, a' = { a with defers := { target := .collected D, args := #[] } :: a.defers } ∧ W1.heap.size ≤ D ∧ W'.heap[D]? = some (.deferred (some [])) ∧ ∃ n : Nat, (t = 0 → ((n : Int) != min (N : Int) (max 1 x)) = false) ∧ (t = 1 → n = N) ∧
    F W' ∧ Box W' p8 (.int .i64 n) 3 ∧ Box W' rc (.bool false) 4 ∧ Below w.heap.size w W'
/-- How many come in the first turn. -/
theorem two_first {N n : Nat} {x : Int} (h : (n = N ∧ (n = 0 ∨ (n : Int) < x)) ∨ (n ≤ N ∧ 1 ≤ n ∧ x ≤ (n : Int) ∧ (n = 1 ∨ (n : Int) - 1 < x))) : ((n : Int) != min (N : Int) (max 1 x)) = false := by
  rw [bne_eq_false_iff_eq]
  rcases h with ⟨h1, h2⟩ | ⟨h1, h2, h3, h4⟩ <;> omega
theorem two_small {N n : Nat} {x : Int} (h : ((n : Int) != min (N : Int) (max 1 x)) = false) : (n : Int) = smallF (N : Int) (bigF 1 x) ∧ (n : Int) = min (N : Int) (max 1 x) := by
  rw [bne_eq_false_iff_eq] at h
  refine ⟨?_, h⟩
  unfold smallF bigF
  (split <;> split) <;> omega
end Go.Proofs.Ytioihjgobmbanaa
