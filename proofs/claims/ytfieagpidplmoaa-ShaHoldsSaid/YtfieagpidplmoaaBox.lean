/- A block of one cell; what a range over the blocks of bytes holds of memory. -/
import Derived.Test.YtfieagpidplmoaaShaR
import Derived.LoopN
namespace Go.Proofs.Ytfieagpidplmoaa
open Go.RowKit

def Box (W : World) (k : Nat) (v : Value) (T : TypeId) : Prop := W.heap[k]? = some (.cells #[v] T)
theorem Box.cell {W : World} {k : Nat} {v : Value} {T : TypeId} (h : Box W k v T) : W.cell? ⟨k, 0, none⟩ = some v := boxed_cell h
theorem Box.free {W : World} {k : Nat} {v : Value} {T : TypeId} (h : Box W k v T) : W.frozen? ⟨k, 0, none⟩ = false := boxed_free h
theorem Box.lt {W : World} {k : Nat} {v : Value} {T : TypeId} (h : Box W k v T) : k < W.heap.size := (Array.getElem?_eq_some_iff.1 h).1
theorem Box.only {W W' : World} {k : Nat} {v : Value} {T : TypeId} {O : Nat → Prop} (h : Box W k v T) (ho : Only O W W') (hb : ¬ O k) : Box W' k v T := (ho.same k h.lt hb).trans h
theorem Box.below {W W' : World} {k : Nat} {v : Value} {T : TypeId} (h : Box W k v T) (hb : Below W.heap.size W W') : Box W' k v T := (hb.block k h.lt).trans h
theorem Box.new (W : World) (v : Value) (T : TypeId) : Box (W.alloc (.cells #[v] T)) W.heap.size v T := World.alloc_heap_new W _
theorem Box.set {W : World} {k : Nat} {v : Value} {T : TypeId} (h : Box W k v T) (u : Value) : Box (W.setCell ⟨k, 0, none⟩ u) k u T := boxed_set h
theorem Box.oth {W : World} {k : Nat} {v : Value} {T : TypeId} (h : Box W k v T) {c i : Nat} (u : Value) (hc : k ≠ c) : Box (W.setCell ⟨c, i, none⟩ u) k v T :=
  h.only ((Only.refl (· = c) W).setCell ⟨c, i, none⟩ u rfl) hc

/-- What memory holds. -/
structure BF (w : World) (B p5 p6 k8 k9 : Nat) (x : Int) (nb t : Nat) (sp : Value) (pb po : Nat) (zs : List Int) (Ds : List Nat) (n : Nat) (W : World) : Prop where
  bm : Box W B (.int .i64 x) 3
  br : Box W (B + 1) (.bool false) 4
  bp : Box W p5 sp 22
  ba : Box W p6 (.int .i64 nb) 3
  bt : Box W k8 (.int .i64 t) 3
  bn : Box W k9 (.int .i64 n) 3
  hp : RowAt .u8 W (some ⟨pb, po, none⟩) zs
  hd : ∀ D ∈ Ds, W.heap[D]? = some (.deferred (some []))
  hb : Below w.heap.size w W
def Und (w : World) (B p5 p6 k8 k9 pb : Nat) (Ds : List Nat) (M : Nat) : Prop := w.heap.size ≤ B ∧ B + 1 < M ∧ p5 < M ∧ p6 < M ∧ k8 < M ∧ k9 < M ∧ pb < M ∧ ∀ D ∈ Ds, D < M
section
variable {w W W' : World} {B p5 p6 k8 k9 : Nat} {x : Int} {nb t : Nat} {sp : Value} {pb po : Nat} {zs : List Int} {Ds : List Nat} {n : Nat}
theorem BF.only {O : Nat → Prop} {M : Nat} (h : BF w B p5 p6 k8 k9 x nb t sp pb po zs Ds n W) (ho : Only O W W') (hO : ∀ k, O k → M ≤ k) (hu : Und w B p5 p6 k8 k9 pb Ds M) : BF w B p5 p6 k8 k9 x nb t sp pb po zs Ds n W' := by
  obtain ⟨u0, u1, u2, u3, u4, u5, u6, u7⟩ := hu
  have no : ∀ k, k < M → ¬ O k := fun k hk h => by have := hO k h; omega
  exact ⟨h.bm.only ho (no _ (by omega)), h.br.only ho (no _ u1), h.bp.only ho (no _ u2), h.ba.only ho (no _ u3), h.bt.only ho (no _ u4), h.bn.only ho (no _ u5), h.hp.only ho (fun y hy => by cases hy; exact no _ u6),
    fun D hD => (ho.same D (Array.getElem?_eq_some_iff.1 (h.hd D hD)).1 (no _ (u7 D hD))).trans (h.hd D hD), ho.below h.hb h.hb.size (fun i hi => by have := hO i hi; omega)⟩
theorem BF.below (h : BF w B p5 p6 k8 k9 x nb t sp pb po zs Ds n W) (hb : Below W.heap.size W W') : BF w B p5 p6 k8 k9 x nb t sp pb po zs Ds n W' :=
  ⟨h.bm.below hb, h.br.below hb, h.bp.below hb, h.ba.below hb, h.bt.below hb, h.bn.below hb, h.hp.below hb, fun D hD => (hb.block D (Array.getElem?_eq_some_iff.1 (h.hd D hD)).1).trans (h.hd D hD), xtrans h.hb hb⟩
theorem BF.setn (h : BF w B p5 p6 k8 k9 x nb t sp pb po zs Ds n W) (hu : Und w B p5 p6 k8 0 pb Ds k9) (m : Nat) : BF w B p5 p6 k8 k9 x nb t sp pb po zs Ds m (W.setCell ⟨k9, 0, none⟩ (.int .i64 m)) := by
  obtain ⟨u0, u1, u2, u3, u4, u5, u6, u7⟩ := hu
  have ho := (Only.refl (· = k9) W).setCell ⟨k9, 0, none⟩ (.int .i64 m) rfl
  exact ⟨h.bm.oth _ (by omega), h.br.oth _ (by omega), h.bp.oth _ (by omega), h.ba.oth _ (by omega), h.bt.oth _ (by omega), h.bn.set _, h.hp.only ho (fun y hy => by cases hy; simp only; omega),
    fun D hD => (ho.same D (Array.getElem?_eq_some_iff.1 (h.hd D hD)).1 (by have := u7 D hD; omega)).trans (h.hd D hD), ho.below h.hb h.hb.size (fun i hi => by omega)⟩
end

theorem BF.newn {w W : World} {B p5 p6 k8 : Nat} {x : Int} {nb t : Nat} {sp : Value} {pb po : Nat} {zs : List Int} {Ds : List Nat} (h : BF w B p5 p6 k8 k8 x nb t sp pb po zs Ds t W) : BF w B p5 p6 k8 W.heap.size x nb t sp pb po zs Ds 0 (W.alloc (.cells #[.int .i64 0] 3)) := by
  have h2 := h.below (xalloc (xrefl W) (Obj.cells #[Value.int .i64 0] 3))
  exact ⟨h2.bm, h2.br, h2.bp, h2.ba, h2.bt, Box.new W _ _, h2.hp, h2.hd, h2.hb⟩

theorem wp_mid {P : Program} {c : Code} {Q : Exit → Act → World → Prop} {a : Act} {w : World} (id : Nat) (M : Act → Act → World → Prop) (h1 : c.wp P (fun e a' w' => (e = .normal ∨ e = .exit id) ∧ M a a' w') a w)
    (h2 : ∀ a' w', M a a' w' → Q .normal a' w') (h3 : ∀ a' w', Q .normal a' w' → Q (.exit id) a' w') : c.wp P Q a w :=
  wp_mono h1 fun e a' w' ⟨he, hM⟩ => by
    rcases he with rfl | rfl
    · exact h2 _ _ hM
    · exact h3 _ _ (h2 _ _ hM)

theorem pre_last {pd : List (BitVec 8)} {pre : List BlkP} {x : BlkP} {k : Nat} (h : pre ++ [x] = (List.range k).map (blkAt pd)) : k = pre.length + 1 ∧ x = blkAt pd pre.length := by
  have hk : k = pre.length + 1 := by have := congrArg List.length h; simpa using this.symm
  subst hk
  refine ⟨rfl, ?_⟩
  rw [List.range_succ, List.map_append] at h
  have := List.append_inj_right h (by simp)
  simpa using this

theorem run_eql_fn_nil {P : Program} (t : TypeId) (h : (match P.underlying t with | some (.func _ _ _) => true | _ => false) = true) (f : Fn) (l cap : Array Value) (w : World) : (binOp .eql t (.func f l cap) .nilFunc).run P w = .ok (.bool false) w := by
  cases hu : P.underlying t with
  | none => rw [hu] at h; simp at h
  | some d =>
    cases d <;> rw [hu] at h <;> try (simp at h; done)
    show ((Op.equalIn (9999 + 1) t (.func f l cap) .nilFunc) >>= fun b => pure (Value.bool b) : Sem Value).run P w = _
    rw [Sem.run_bind]
    unfold Op.equalIn
    rw [Sem.run_bind, run_underlying hu w]
    rfl

theorem run_neq_at {P : Program} {o : Oper} {ac : Act} {w : World} (T r : TypeId) (x y : Operand) (ho : o.op = .binOp .neq T x y r) (e : TypeId) (n : Nat) (q q' : IntKind) (l l' : List Int) (hx : ac.eval x = .agg (l.map (Value.int q)).toArray) (hy : ac.eval y = .agg (l'.map (Value.int q)).toArray)
    (hT : P.underlying T = some (.array n e)) (he : P.underlying e = some (.int q')) (hs : (P.info? e).isSome = true) (hc : P.cellsOf e = 1) (hm : P.eqGuardType P.depth T = false) (hn : l.length = n) (hn' : l'.length = n) : (execOp ac.eval o).run P w = .ok (.value (.bool (!decide (l = l')))) w := by
  have h : (binOp .neq T (.agg (l.map (Value.int q)).toArray) (.agg (l'.map (Value.int q)).toArray)).run P w = .ok (.bool (!decide (l = l'))) w := by
    obtain ⟨i, hi⟩ := Option.isSome_iff_exists.1 hs
    rw [run_neq_struct, show (10000 : Nat) = 9999 + 1 from rfl, run_equalIn_array w 9999 _ _ hT hi, hc, List.range_eq_range', run_eqItems_ints 9998 e q q' l l' w he (by omega) n 0 (by omega)]
    simp
  unfold execOp
  simp only [ho, hx, hy, Sem.run_bind, Sem.run_pure, Result.andThen_ok, run_eqGuard_agg (hm := hm), h]

def bigF (x y : Int) : Int := if y > x then y else x
def smallF (x y : Int) : Int := if y < x then y else x
@[go_sem high] theorem run_max_big {P : Program} {w : World} (ts : Array TypeId) (t : TypeId) (k k' : IntKind) (x y : Int) : (Builtin.max_ ts t #[.int k x, .int k' y]).run P w = .ok (.int k (bigF x y)) w := run_max_int2 w ts t k k' x y
@[go_sem high] theorem run_min_small {P : Program} {w : World} (ts : Array TypeId) (t : TypeId) (k k' : IntKind) (x y : Int) : (Builtin.min_ ts t #[.int k x, .int k' y]).run P w = .ok (.int k (smallF x y)) w := run_min_int2 w ts t k k' x y
def BIx (w : World) (B p5 p6 k8 k9 : Nat) (x : Int) (nb t : Nat) (sp : Value) (pb po : Nat) (pd : List (BitVec 8)) (Ds : List Nat) (v : World) (c : Code) (_ : Nat → Prop) (pre : List BlkP) (W : World) : Prop :=
  (c = .exit 2 ∧ t = 0 ∧ BF w B p5 p6 k8 k9 x nb t sp pb po (pd.map iv8) Ds pre.length W ∧ Below k9 v W ∧ 1 ≤ pre.length ∧ x ≤ (pre.length : Int) ∧ (pre.length = 1 ∨ (pre.length : Int) - 1 < x)) ∨
  (c = .ret ∧ ∀ k ≤ nb, pre ≠ (List.range k).map (blkAt pd))
def BI (w : World) (B p5 p6 k8 k9 : Nat) (x : Int) (nb t : Nat) (sp : Value) (pb po : Nat) (pd : List (BitVec 8)) (Ds : List Nat) (v : World) (_ : Nat → Prop) (pre : List BlkP) (W : World) : Prop :=
  BF w B p5 p6 k8 k9 x nb t sp pb po (pd.map iv8) Ds pre.length W ∧ (t = 0 → pre.length = 0 ∨ (pre.length : Int) < x) ∧ Below k9 v W
theorem bi_stable {w v : World} {B p5 p6 k8 k9 : Nat} {x : Int} {nb t : Nat} {sp : Value} {pb po : Nat} {pd : List (BitVec 8)} {Ds : List Nat} {M : Nat} (hu : Und w B p5 p6 k8 k9 pb Ds M) : Stable M (BI w B p5 p6 k8 k9 x nb t sp pb po pd Ds v) :=
  fun _ _ _ _ _ ⟨h1, h2, h3⟩ hO hon _ => ⟨h1.only hon hO hu, h2, hon.below h3 (Nat.le_of_lt h1.bn.lt) (fun i hi => by have := hO i hi; have := hu.2.2.2.2.2.1; omega)⟩
theorem bix_stable {w v : World} {B p5 p6 k8 k9 : Nat} {x : Int} {nb t : Nat} {sp : Value} {pb po : Nat} {pd : List (BitVec 8)} {Ds : List Nat} {M : Nat} (hu : Und w B p5 p6 k8 k9 pb Ds M) (c : Code) : Stable M (BIx w B p5 p6 k8 k9 x nb t sp pb po pd Ds v c) := by
  rintro O O' s W W' (⟨h1, h2, h3, h4, h5⟩ | h) hO hon -
  · exact .inl ⟨h1, h2, h3.only hon hO hu, hon.below h4 (Nat.le_of_lt h3.bn.lt) (fun i hi => by have := hO i hi; have := hu.2.2.2.2.2.1; omega), h5⟩
  · exact .inr h
/-- The mark of one more loop. -/
theorem BF.mark {w W : World} {B p5 p6 k8 k9 : Nat} {x : Int} {nb t : Nat} {sp : Value} {pb po : Nat} {zs : List Int} {Ds : List Nat} {n D : Nat} (h : BF w B p5 p6 k8 k9 x nb t sp pb po zs Ds n W) (hK : W.heap[D]? = some (.deferred (some []))) : BF w B p5 p6 k8 k9 x nb t sp pb po zs (D :: Ds) n W :=
  ⟨h.bm, h.br, h.bp, h.ba, h.bt, h.bn, h.hp, fun D' hD => (List.mem_cons.1 hD).elim (fun e => e ▸ hK) (fun hD => h.hd _ hD), h.hb⟩
theorem Below.only' {B : Nat} {W W' : World} (h : Below B W W') : Only (fun k => B ≤ k) W W' := ⟨h.os, h.tape, h.output, h.size, fun k _ hn => h.block k (by omega)⟩
end Go.Proofs.Ytfieagpidplmoaa
