/- A block of one cell; what a range over the blocks of bytes holds of memory. -/
import Derived.Test.YtfafancacfjodaaRipQ
import Derived.LoopN
namespace Go.Proofs.Ytfafancacfjodaa
open Go.RowKit

/-- What memory holds. -/
structure BF (w : World) (B p5 p6 k8 k9 : Nat) (x : Int) (nb t : Nat) (sp : Value) (pb po : Nat) (zs : List Int) (Ds : List Nat) (n : Nat) (W : World) : Prop where
  bm : Box W B (.int .i64 x) 3
  br : Box W (B + 1) (.bool false) 4
  bp : Box W p5 sp 22
  ba : Box W p6 (.int .i64 nb) 3
  bt : Box W k8 (.int .i64 t) 3
  bn : Box W k9 (.int .i64 n) 3
  hp : RowAt .u8 W (some ⟨pb, po, none⟩) zs
  hd : ∀ D ∈ Ds, W.heap[D]? = some (.deferred (some []))
  hb : Below w.heap.size w W
def Und (w : World) (B p5 p6 k8 k9 pb : Nat) (Ds : List Nat) (M : Nat) : Prop := w.heap.size ≤ B ∧ B + 1 < M ∧ p5 < M ∧ p6 < M ∧ k8 < M ∧ k9 < M ∧ pb < M ∧ ∀ D ∈ Ds, D < M
section
variable {w W W' : World} {B p5 p6 k8 k9 : Nat} {x : Int} {nb t : Nat} {sp : Value} {pb po : Nat} {zs : List Int} {Ds : List Nat} {n : Nat}
theorem BF.only {O : Nat → Prop} {M : Nat} (h : BF w B p5 p6 k8 k9 x nb t sp pb po zs Ds n W) (ho : Only O W W') (hO : ∀ k, O k → M ≤ k) (hu : Und w B p5 p6 k8 k9 pb Ds M) : BF w B p5 p6 k8 k9 x nb t sp pb po zs Ds n W' := by
  obtain ⟨u0, u1, u2, u3, u4, u5, u6, u7⟩ := hu
  have no : ∀ k, k < M → ¬ O k := fun k hk h => by have := hO k h; omega
  exact ⟨h.bm.only ho (no _ (by omega)), h.br.only ho (no _ u1), h.bp.only ho (no _ u2), h.ba.only ho (no _ u3), h.bt.only ho (no _ u4), h.bn.only ho (no _ u5), h.hp.only ho (fun y hy => by cases hy; exact no _ u6),
    fun D hD => (ho.same D (Array.getElem?_eq_some_iff.1 (h.hd D hD)).1 (no _ (u7 D hD))).trans (h.hd D hD), ho.below h.hb h.hb.size (fun i hi => by have := hO i hi; omega)⟩
theorem BF.below (h : BF w B p5 p6 k8 k9 x nb t sp pb po zs Ds n W) (hb : Below W.heap.size W W') : BF w B p5 p6 k8 k9 x nb t sp pb po zs Ds n W' :=
  ⟨h.bm.below hb, h.br.below hb, h.bp.below hb, h.ba.below hb, h.bt.below hb, h.bn.below hb, h.hp.below hb, fun D hD => (hb.block D (Array.getElem?_eq_some_iff.1 (h.hd D hD)).1).trans (h.hd D hD), xtrans h.hb hb⟩
theorem BF.setn (h : BF w B p5 p6 k8 k9 x nb t sp pb po zs Ds n W) (hu : Und w B p5 p6 k8 0 pb Ds k9) (m : Nat) : BF w B p5 p6 k8 k9 x nb t sp pb po zs Ds m (W.setCell ⟨k9, 0, none⟩ (.int .i64 m)) := by
  obtain ⟨u0, u1, u2, u3, u4, u5, u6, u7⟩ := hu
  have ho := (Only.refl (· = k9) W).setCell ⟨k9, 0, none⟩ (.int .i64 m) rfl
  exact ⟨h.bm.oth _ (by omega), h.br.oth _ (by omega), h.bp.oth _ (by omega), h.ba.oth _ (by omega), h.bt.oth _ (by omega), h.bn.set _, h.hp.only ho (fun y hy => by cases hy; simp only; omega),
    fun D hD => (ho.same D (Array.getElem?_eq_some_iff.1 (h.hd D hD)).1 (by have := u7 D hD; omega)).trans (h.hd D hD), ho.below h.hb h.hb.size (fun i hi => by omega)⟩
end

theorem BF.newn {w W : World} {B p5 p6 k8 : Nat} {x : Int} {nb t : Nat} {sp : Value} {pb po : Nat} {zs : List Int} {Ds : List Nat} (h : BF w B p5 p6 k8 k8 x nb t sp pb po zs Ds t W) : BF w B p5 p6 k8 W.heap.size x nb t sp pb po zs Ds 0 (W.alloc (.cells #[.int .i64 0] 3)) := by
  have h2 := h.below (xalloc (xrefl W) (Obj.cells #[Value.int .i64 0] 3))
  exact ⟨h2.bm, h2.br, h2.bp, h2.ba, h2.bt, Box.new W _ _, h2.hp, h2.hd, h2.hb⟩

theorem pre_last {pd : List (BitVec 8)} {pre : List BlkP} {x : BlkP} {k : Nat} (h : pre ++ [x] = (List.range k).map (blkAt pd)) : k = pre.length + 1 ∧ x = blkAt pd pre.length := by
  have hk : k = pre.length + 1 := by have := congrArg List.length h; simpa using this.symm
  subst hk
  refine ⟨rfl, ?_⟩
  rw [List.range_succ, List.map_append] at h
  have := List.append_inj_right h (by simp)
  simpa using this

def BIx (w : World) (B p5 p6 k8 k9 : Nat) (x : Int) (nb t : Nat) (sp : Value) (pb po : Nat) (pd : List (BitVec 8)) (Ds : List Nat) (v : World) (c : Code) (_ : Nat → Prop) (pre : List BlkP) (W : World) : Prop :=
  (c = .exit 2 ∧ t = 0 ∧ BF w B p5 p6 k8 k9 x nb t sp pb po (pd.map iv8) Ds pre.length W ∧ Below k9 v W ∧ 1 ≤ pre.length ∧ x ≤ (pre.length : Int) ∧ (pre.length = 1 ∨ (pre.length : Int) - 1 < x)) ∨
  (c = .ret ∧ ∀ k ≤ nb, pre ≠ (List.range k).map (blkAt pd))
def BI (w : World) (B p5 p6 k8 k9 : Nat) (x : Int) (nb t : Nat) (sp : Value) (pb po : Nat) (pd : List (BitVec 8)) (Ds : List Nat) (v : World) (_ : Nat → Prop) (pre : List BlkP) (W : World) : Prop :=
  BF w B p5 p6 k8 k9 x nb t sp pb po (pd.map iv8) Ds pre.length W ∧ (t = 0 → pre.length = 0 ∨ (pre.length : Int) < x) ∧ Below k9 v W
theorem bi_stable {w v : World} {B p5 p6 k8 k9 : Nat} {x : Int} {nb t : Nat} {sp : Value} {pb po : Nat} {pd : List (BitVec 8)} {Ds : List Nat} {M : Nat} (hu : Und w B p5 p6 k8 k9 pb Ds M) : Stable M (BI w B p5 p6 k8 k9 x nb t sp pb po pd Ds v) :=
  fun _ _ _ _ _ ⟨h1, h2, h3⟩ hO hon _ => ⟨h1.only hon hO hu, h2, hon.below h3 (Nat.le_of_lt h1.bn.lt) (fun i hi => by have := hO i hi; have := hu.2.2.2.2.2.1; omega)⟩
theorem bix_stable {w v : World} {B p5 p6 k8 k9 : Nat} {x : Int} {nb t : Nat} {sp : Value} {pb po : Nat} {pd : List (BitVec 8)} {Ds : List Nat} {M : Nat} (hu : Und w B p5 p6 k8 k9 pb Ds M) (c : Code) : Stable M (BIx w B p5 p6 k8 k9 x nb t sp pb po pd Ds v c) := by
  rintro O O' s W W' (⟨h1, h2, h3, h4, h5⟩ | h) hO hon -
  · exact .inl ⟨h1, h2, h3.only hon hO hu, hon.below h4 (Nat.le_of_lt h3.bn.lt) (fun i hi => by have := hO i hi; have := hu.2.2.2.2.2.1; omega), h5⟩
  · exact .inr h
/-- The mark of one more loop. -/
theorem BF.mark {w W : World} {B p5 p6 k8 k9 : Nat} {x : Int} {nb t : Nat} {sp : Value} {pb po : Nat} {zs : List Int} {Ds : List Nat} {n D : Nat} (h : BF w B p5 p6 k8 k9 x nb t sp pb po zs Ds n W) (hK : W.heap[D]? = some (.deferred (some []))) : BF w B p5 p6 k8 k9 x nb t sp pb po zs (D :: Ds) n W :=
  ⟨h.bm, h.br, h.bp, h.ba, h.bt, h.bn, h.hp, fun D' hD => (List.mem_cons.1 hD).elim (fun e => e ▸ hK) (fun hD => h.hd _ hD), h.hb⟩
end Go.Proofs.Ytfafancacfjodaa
