/- The program's flow: all blocks, by place. The program's walk over blocks: the plain laws of its layers, and its maps of ones. The program's walk over blocks: laws for its maps, what it reads. -/
import Derived.Test.YtijkdabmegbcjaaDoorM28
import Derived.Test.YtijkdabmegbcjaaDoorM14
import Derived.Test.YtijkdabmegbcjaaDoorM15
set_option linter.all false
namespace Go.Proofs.YtijkdabmegbcjaaDoor
open Go.RowKit Go.Shelf

/-- A map that holds these blocks, in the order in which they came. -/
def MapB (lo : Nat) (w : World) (mb : Nat) (bs : List BlkN) : Prop := ∃ l, w.heap[mb]? = some (mapI .i64 l) ∧ l.length = bs.length ∧
  ∀ j (h : j < bs.length), ∃ p q, l[j]? = some ((bs[j].first : Int), blkV p q bs[j]) ∧ IntsAt w p q bs[j].next ∧ (bs[j].next ≠ [] → ∀ x, p = some x → lo ≤ x.block)
theorem MapB.below {lo : Nat} {w w' : World} {mb : Nat} {bs : List BlkN} (h : MapB lo w mb bs) (hb : Below w.heap.size w w') : MapB lo w' mb bs := by
  obtain ⟨l, h1, h2, h3⟩ := h
  refine ⟨l, (hb.block mb (Array.getElem?_eq_some_iff.1 h1).1).trans h1, h2, fun j hj => ?_⟩
  obtain ⟨p, q, e, hI, hx⟩ := h3 j hj
  exact ⟨p, q, e, hI.below hb, hx⟩
/-- The next ones lie in cells, the map does not. -/
theorem IntsAt.map_off {w w' : World} {mb : Nat} {q : IntKind} {l : List (Int × Value)} {a : Option Addr} {c : Nat} {L : List Nat} (h : IntsAt w a c L) (hm : w.heap[mb]? = some (mapI q l)) (ho : Only (· = mb) w w') : IntsAt w' a c L :=
  h.only0 ho fun h0 x hx e => by
    obtain ⟨b, o, e', hc⟩ := h.get (i := 0) (List.length_pos_iff.2 h0)
    rw [e'] at hx; cases hx
    have e2 : b = mb := e
    subst e2
    exact map_not_cell hm hc
theorem MapB.find {lo : Nat} {w : World} {mb : Nat} {bs : List BlkN} (h : MapB lo w mb bs) (n : Int) : ∃ l, w.heap[mb]? = some (mapI .i64 l) ∧ ((findI n l = none ∧ ∀ b ∈ bs, (b.first : Int) ≠ n) ∨ ∃ j, ∃ hj : j < bs.length, ∃ p q, (bs[j].first : Int) = n ∧ (∀ i (hi : i < j), ((bs[i]'(by omega)).first : Int) ≠ n) ∧ findI n l = some (blkV p q bs[j]) ∧ IntsAt w p q bs[j].next ∧ (bs[j].next ≠ [] → ∀ x, p = some x → lo ≤ x.block)) := by
  obtain ⟨l, h1, h2, h3⟩ := h
  refine ⟨l, h1, ?_⟩
  clear h1
  induction bs generalizing l with
  | nil => 
    have : l = [] := List.length_eq_zero_iff.1 (by simpa using h2)
    subst this
    exact .inl ⟨rfl, by simp⟩
  | cons b bs ih =>
    match l, h2 with
    | x :: l, h2 =>
      obtain ⟨p, q, e, hI⟩ := h3 0 (by simp)
      simp only [List.getElem?_cons_zero, List.getElem_cons_zero, Option.some.injEq] at e hI
      subst e
      by_cases hn : (b.first : Int) = n
      · refine .inr ⟨0, by simp, p, q, hn, fun i hi => absurd hi (by omega), ?_, hI⟩
        unfold findI
        rw [if_pos hn.symm]; rfl
      · have ih2 := ih l (by simpa using h2) fun j hj => by
          obtain ⟨p, q, e, hI⟩ := h3 (j + 1) (by simpa using hj)
          exact ⟨p, q, by simpa using e, by simpa using hI.1, by simpa using hI.2⟩
        have hf : findI n (((b.first : Int), blkV p q b) :: l) = findI n l := by
          show (if n = (b.first : Int) then _ else _) = _
          rw [if_neg (fun e => hn e.symm)]
        rw [hf]
        rcases ih2 with ⟨e1, e2⟩ | ⟨j, hj, p', q', k1, k2, k3, k4⟩
        · exact .inl ⟨e1, fun c hc => by
            rcases List.mem_cons.1 hc with rfl | hc
            · exact hn
            · exact e2 c hc⟩
        · refine .inr ⟨j + 1, by simpa using hj, p', q', by simpa using k1, fun i hi => ?_, by simpa using k3, by simpa using k4.1, by simpa using k4.2⟩
          match i, hi with
          | 0, _ => exact hn
          | i + 1, hi => simpa using k2 i (by omega)
set_option maxRecDepth 100000 in
set_option maxHeartbeats 4000000 in
theorem all_any (bs : List BlkN) (a : Option Addr) (c : Nat) (w : World) (w0 : World) (h : OwnK w0 w (.slice a bs.length c) bs) (hl : bs.length ≤ 200) (hd : ∀ i j (hi : i < j) (hj : j < bs.length), (bs[i]'(by omega)).first ≠ bs[j].first) :
    Calls Tryd.prog 35 #[.slice a bs.length c] w fun e w' => (e = .returned (.map (some w.heap.size)) ∧ MapB w0.heap.size w' w.heap.size bs) ∧ Below w.heap.size w w' := by
  have hmm : ∀ w, (Instr.makeMap 76 none).run Tryd.prog w = .ok (.map (some w.heap.size)) (w.alloc (.map #[] 0)) := fun _ => rfl
  have hM0 : Hid (MapB w0.heap.size (w.alloc (.map #[] 0)) w.heap.size []) := Lib.hid ⟨[], by have := World.alloc_heap_new w (.map #[] 0); simpa [mapI, entI] using this, rfl, fun j hj => absurd hj (by simp)⟩
  have hb0 : Hid (Below w.heap.size w (w.alloc (.map #[] 0))) := Lib.hid (xalloc (xrefl w) _)
  have hu := Tryd.underlying29
  obtain ⟨a', c', e', hnil, hrows⟩ := h.rows
  cases e'
  clear h hnil
  replace hrows := Lib.hid hrows
  replace hd := Lib.hid hd
  go_enter Tryd.func35, Tryd.ntmps35
  go_wp2
  go_loopw [9] (fun iv wx => ∃ i : Nat, i ≤ bs.length ∧ iv = .int .i64 i ∧ Hid (MapB w0.heap.size wx w.heap.size (bs.take i)) ∧ Hid (Below w.heap.size w wx)) (fun iv _ => bs.length - (intOf iv).toNat)
  case atStart => exact ⟨0, by omega, rfl, Lib.hid (by rw [List.take_zero]; exact hM0.out), hb0⟩
  case round =>
    clear hM0 hb0
    obtain ⟨i, hi, rfl, hM, hb⟩ := hrel
    by_cases hlt : i < bs.length
    · have hltI : (i : Int) < bs.length := by omega
      obtain ⟨b, o, p, q, rfl, hr, hI, hlo⟩ := hrows.out i hlt
      replace hr := rangeAt_below hr hb.out
      replace hI := hI.below hb.out
      replace hlo := Lib.hid hlo
      have htk : Hid (bs.take (i + 1) = bs.take i ++ [bs[i]]) := Lib.hid (by rw [List.take_add_one, List.getElem?_eq_getElem hlt]; rfl)
      have hli : (bs.take i).length = i := by rw [List.length_take]; omega
      have hnew : Hid (∀ j (h : j < (bs.take i).length), (((bs.take i)[j]).first : Int) ≠ (bs[i].first : Int)) := Lib.hid fun j hj e => hd.out j i (by omega) hlt (by rw [List.getElem_take] at e; omega)
      replace hr : wr.rangeAt b (o + i * 4) [.int .i64 bs[i].first, .int .i64 bs[i].last, .slice p bs[i].next.length q, .bool bs[i].exit] := hr
      generalize bs.take i = T at *
      generalize bs[i] = B at *
      have hwi : IntKind.i64.wrap ((i : Int) + 1) = (i : Int) + 1 := by simp [IntKind.wrap, IntKind.bits, IntKind.signed]; omega
      replace hr := Lib.hid hr
      replace hI := Lib.hid hI
      obtain ⟨l, hm1, hm2, hm3⟩ := hM.out
      have hml : w.heap.size < wr.heap.size := (Array.getElem?_eq_some_iff.1 hm1).1
      replace hm1 := Lib.hid hm1
      replace hm3 := Lib.hid hm3
      go_wp2_with (first
        | (refine wpList_load_mid rfl 29 _ rfl b (o + i * 4) rfl [.int .i64 B.first, .int .i64 B.last, .slice p B.next.length q, .bool B.exit] _ hr.out hu rfl (by kernel_rfl) ?_)
        | (refine wpList_store_blkG rfl 29 _ _ rfl wr.heap.size rfl 29 [.int .i64 0, .int .i64 0, .slice none 0 0, .bool false] [.int .i64 B.first, .int .i64 B.last, .slice p B.next.length q, .bool B.exit] (BlkG.new wr _ _) rfl rfl (by kernel_rfl) rfl ?_; intro w2 hX2 ho2; have hb2 := Lib.hid (ho2.below (xalloc (xrefl wr) _) (by rw [World.size_alloc]; omega) (by rintro k rfl; omega)); have hc2 : w2.cell? ⟨wr.heap.size, 0, none⟩ = some (.int .i64 B.first) := (by simpa using hX2.range 0 _ rfl); have hm4 := Lib.hid ((hb2.out.block w.heap.size hml).trans hm1.out); replace hX2 := Lib.hid hX2; clear ho2)
        | (refine wpList_load_blkG rfl 29 _ rfl wr.heap.size rfl 29 [.int .i64 B.first, .int .i64 B.last, .slice p B.next.length q, .bool B.exit] _ hX2.out hu rfl (by kernel_rfl) ?_)
        | (refine wpList_putI rfl _ 3 29 .i64 _ _ _ rfl (by kernel_rfl) (by kernel_rfl) w.heap.size B.first (.agg #[.int .i64 B.first, .int .i64 B.last, .slice p B.next.length q, .bool B.exit]) l rfl rfl rfl hm4.out ?_; intro w3 hm5 ho3; replace hm5 := Lib.hid hm5; replace ho3 := Lib.hid ho3))
      refine ⟨⟨i + 1, by omega, by go_num, ?_, Lib.hid (ho3.out.below (xtrans hb.out hb2.out) (xtrans hb.out hb2.out).size (by rintro k rfl; omega))⟩, by simp [intOf]; omega⟩
      rw [htk.out]
      have hne : ∀ x ∈ l, x.1 ≠ (B.first : Int) := fun x hx e => by
        obtain ⟨j, hj, rfl⟩ := List.getElem_of_mem hx
        obtain ⟨p', q', e', -⟩ := hm3.out j (by omega)
        rw [List.getElem?_eq_getElem hj] at e'
        exact hnew.out j (by omega) (by rw [Option.some.inj e'] at e; exact e)
      have hm6 := hm5.out
      rw [updI_new hne] at hm6
      refine Lib.hid ⟨_, hm6, by simp [hm2], fun j hj => ?_⟩
      by_cases e : j = T.length
      · subst e
        refine ⟨p, q, ?_, ?_, ?_⟩
        · rw [List.getElem?_append_right (by omega)]
          simp [hm2]; rfl
        · simp only [List.getElem_append_right (Nat.le_refl _), Nat.sub_self, List.getElem_cons_zero]
          exact (hI.out.below hb2.out).map_off hm4.out ho3.out
        · simp only [List.getElem_append_right (Nat.le_refl _), Nat.sub_self, List.getElem_cons_zero]
          exact hlo.out
      · have hj' : j < T.length := by simp at hj; omega
        obtain ⟨p', q', e', hI', hx'⟩ := hm3.out j hj'
        rw [List.getElem_append_left hj']
        exact ⟨p', q', by rw [List.getElem?_append_left (by omega)]; exact e', (hI'.below hb2.out).map_off hm4.out ho3.out, hx'⟩
    · obtain rfl : i = bs.length := by omega
      rw [List.take_length] at hM
      clear hlt
      go_wp2
      go_ret
      exact ⟨⟨rfl, hM.out⟩, hb.out⟩
end Go.Proofs.YtijkdabmegbcjaaDoor
namespace Go.Proofs.YtijkdabmegbcjaaDoor
open Go.RowKit Go.Shelf

/-- A map with these keys, each with the value 1. -/
def OneAt (W : World) (bm : Nat) (K : List Nat) : Prop := ∃ l, W.heap[bm]? = some (mapI .i64 l) ∧ l.map (·.1) = natI K ∧ ∀ x ∈ l, x.2 = .int .i64 1
theorem OneAt.below {W W' : World} {bm : Nat} {K : List Nat} (h : OneAt W bm K) (hb : Below W.heap.size W W') : OneAt W' bm K := by
  obtain ⟨l, h1, h2⟩ := h
  exact ⟨l, (hb.block bm (Array.getElem?_eq_some_iff.1 h1).1).trans h1, h2⟩
theorem OneAt.only {O : Nat → Prop} {W W' : World} {bm : Nat} {K : List Nat} (h : OneAt W bm K) (ho : Only O W W') (hb : ¬ O bm) : OneAt W' bm K := by
  obtain ⟨l, h1, h2⟩ := h
  exact ⟨l, (ho.same bm (Array.getElem?_eq_some_iff.1 h1).1 hb).trans h1, h2⟩
theorem OneAt.keep {O : Nat → Prop} {W W' : World} {bm : Nat} {K : List Nat} (h : OneAt W bm K) (hk : Keep O W W') (hb : O bm) : OneAt W' bm K := by
  obtain ⟨l, h1, h2⟩ := h
  exact ⟨l, (hk.same bm (Array.getElem?_eq_some_iff.1 h1).1 hb).trans h1, h2⟩
theorem OneAt.lt {W : World} {bm : Nat} {K : List Nat} (h : OneAt W bm K) : bm < W.heap.size := by
  obtain ⟨l, h1, -⟩ := h
  exact (Array.getElem?_eq_some_iff.1 h1).1
theorem updI_val {n : Int} {v u : Value} {l : List (Int × Value)} (h : ∀ x ∈ l, x.2 = u) (hv : v = u) : ∀ x ∈ updI n v l, x.2 = u := by
  induction l with
  | nil => intro x hx; simp [updI] at hx; subst hx; exact hv
  | cons y l ih =>
    intro x hx
    unfold updI at hx
    split at hx
    · rcases List.mem_cons.1 hx with rfl | hx
      · exact hv
      · exact h x (by simp [hx])
    · rcases List.mem_cons.1 hx with rfl | hx
      · exact h _ (by simp)
      · exact ih (fun z hz => h z (by simp [hz])) x hx
theorem OneAt.upd {W : World} {bm : Nat} {K : List Nat} {l : List (Int × Value)} (h1 : l.map (·.1) = natI K) (h2 : ∀ x ∈ l, x.2 = .int .i64 1) (n : Nat) (hw : W.heap[bm]? = some (mapI .i64 (updI n (.int .i64 1) l))) : OneAt W bm (addK K n) :=
  ⟨_, hw, updI_addK n _ l K h1, updI_val h2 rfl⟩
theorem find_one {l : List (Int × Value)} {K : List Nat} (h1 : l.map (·.1) = natI K) (h2 : ∀ x ∈ l, x.2 = .int .i64 1) (n : Nat) : findI n l = if n ∈ K then some (.int .i64 1) else none := by
  induction l generalizing K with
  | nil =>
    match K, h1 with
    | [], _ => rfl
    | k :: K, h1 => simp [natI] at h1
  | cons x l ih =>
    match K, h1 with
    | [], h1 => simp [natI] at h1
    | k :: K, h1 =>
      rw [List.map_cons, natI_cons] at h1
      injection h1 with e1 e2
      unfold findI
      by_cases e : (n : Int) = x.1
      · have : n = k := by rw [e1] at e; omega
        rw [if_pos e, if_pos (by simp [this]), h2 x (by simp)]
      · have : n ≠ k := fun h => e (by rw [h, e1])
        rw [if_neg e, ih e2 fun y hy => h2 y (by simp [hy])]
        by_cases hm : n ∈ K
        · rw [if_pos hm, if_pos (by simp [hm])]
        · rw [if_neg hm, if_neg (by simp [hm, this])]
/-- Where the walk stands: what came, the layer, what has been seen with it, what remains. -/
structure WalkI (cs : List Nat) (n : Int) (S now : List Nat) (d fu : Nat) (pre : List (Nat × Nat)) : Prop where
  sl : SL S
  lt : ∀ x ∈ S, x < cs.length
  nsl : SL now
  sub : ∀ x ∈ now, x ∈ S
  deep : d < S.length
  fuel : now ≠ [] → cs.length + 1 ≤ fu + S.length
  all : pre ++ (now.map (fun k => (k, d)) ++ walkT (blksN cs) fu S now (d + 1)) = walkZ cs n
theorem WalkI.start {cs : List Nat} {n : Int} {B : BlkN} (h : findZ (blksN cs) n = some B) : ∃ k : Nat, n = k ∧ k < cs.length ∧ WalkI cs n [k] [k] 0 cs.length [] := by
  obtain ⟨k, e, hk, hz⟩ := walkZ_some h
  refine ⟨k, e, hk, ⟨List.pairwise_singleton _ _, by simpa using hk, List.pairwise_singleton _ _, by simp, by simp, by simp, ?_⟩⟩
  rw [hz]; rfl
theorem WalkI.next {cs : List Nat} {n : Int} {S now : List Nat} {d fu : Nat} {pre : List (Nat × Nat)} (h : WalkI cs n S now d fu pre) (h0 : now ≠ []) (hL : ∀ x ∈ layerN (blksN cs) S now, x < cs.length) :
    layerN (blksN cs) S now ≠ [] → WalkI cs n (insAll S (layerN (blksN cs) S now)) (layerN (blksN cs) S now) (d + 1) (fu - 1) (pre ++ now.map fun k => (k, d)) := fun hne => by
  obtain ⟨e, hf⟩ := walkT_step (d + 1) h0 h.sl h.lt hL (h.fuel h0)
  obtain ⟨hf1, hf2⟩ := hf hne
  refine ⟨insAll_sl h.sl, insAll_lt h.lt hL, setL_sl _, fun x hx => (mem_insAll _ _ _).2 (.inr hx), by have := h.deep; omega, fun _ => hf1, ?_⟩
  rw [List.append_assoc, ← e]
  exact h.all
theorem WalkI.last {cs : List Nat} {n : Int} {S now : List Nat} {d fu : Nat} {pre : List (Nat × Nat)} (h : WalkI cs n S now d fu pre) (h0 : now ≠ []) (hL : layerN (blksN cs) S now = []) : pre ++ now.map (fun k => (k, d)) = walkZ cs n := by
  obtain ⟨e, -⟩ := walkT_step (d + 1) h0 h.sl h.lt (by rw [hL]; simp) (h.fuel h0)
  have := h.all
  rw [e, hL] at this
  rw [← this]
  simp [walkT]
/-- The next layer, whatever the order in which the layer was ranged. -/
theorem layer_of {bs : List BlkN} {S now K D : List Nat} (hp : D.Perm now) (hK : ∀ x, x ∈ K ↔ x ∈ D.flatMap (nextOf bs) ∧ x ∉ S) : setL K = layerN bs S now := by
  rw [layer_off]
  unfold offL
  refine sl_ext (setL_sl _) (setL_sl _) fun x => ?_
  rw [mem_setL, mem_setL, List.mem_filter, hK]
  simp only [List.mem_flatMap, decide_eq_true_eq]
  constructor
  · rintro ⟨⟨y, hy, hx⟩, h2⟩; exact ⟨⟨y, hp.mem_iff.1 hy, hx⟩, h2⟩
  · rintro ⟨⟨y, hy, hx⟩, h2⟩; exact ⟨⟨y, hp.mem_iff.2 hy, hx⟩, h2⟩
end Go.Proofs.YtijkdabmegbcjaaDoor
namespace Go.Proofs.YtijkdabmegbcjaaDoor
open Go.RowKit Go.Shelf

/-- A map is made. -/
theorem wpList_mk {P : Program} {ops : Array Oper} {rest : List Oper} {o : Oper} {a : Act} {w : World} {Q : Exit → Act → World → Prop} (hgd : o.guard = none) (t : TypeId) (ho : o.op = .makeMap t none)
    (h : wpList P ops Q rest (a.put o.dst (.map (some w.heap.size))) (w.alloc (mapI .i64 []))) : wpList P ops Q (o :: rest) a w := by
  refine wpList_plain hgd fun _ hK => ?_
  unfold Oper.wp execOp
  simp only [ho]
  exact hK _ _ h
theorem wpList_lookI {P : Program} {ops : Array Oper} {rest : List Oper} {o : Oper} {a : Act} {w : World} {Q : Exit → Act → World → Prop} (hgd : o.guard = none) (t k e : TypeId) (q : IntKind) (x y : Operand) (c : Bool) (ho : o.op = .lookup t x y c)
    (ht : P.underlying t = some (.map k e)) (hk : P.underlying k = some (.int q)) {z : Value} (hz : ∀ w, (zeroValue e).run P w = .ok z w) (n : Int) (b : Nat) (l : List (Int × Value)) (hx : a.eval x = .map (some b)) (hy : a.eval y = .int q n) (hb : w.heap[b]? = some (mapI q l))
    (h : wpList P ops Q rest (a.put o.dst (if c then .tuple #[(findI n l).getD z, .bool (findI n l).isSome] else (findI n l).getD z)) w) : wpList P ops Q (o :: rest) a w := by
  refine wpList_plain hgd fun _ hK => ?_
  unfold Oper.wp execOp
  have := run_lookI ht hk hz n w b l c hb
  simp only [ho, hx, hy, Sem.run_bind, this, Result.andThen_ok, Sem.run_pure]
  exact hK _ _ h
theorem wpListIn_putI {F : Fence} {N : Nat} {P : Program} {ops : Array Oper} {rest : List Oper} {o : Oper} {a : Act} {w : World} {Q : Exit → Act → World → Prop} (hgd : o.guard = none) (t k e : TypeId) (q : IntKind) (x y z : Operand) (ho : o.op = .mapUpdate t x y z)
    (ht : P.underlying t = some (.map k e)) (hk : P.underlying k = some (.int q)) (b : Nat) (n : Int) (v : Value) (l : List (Int × Value)) (hx : a.eval x = .map (some b)) (hy : a.eval y = .int q n) (hz : a.eval z = v)
    (hb : w.heap[b]? = some (mapI q l))
    (h : ∀ w', w'.heap[b]? = some (mapI q (updI n v l)) → Only (· = b) w w' → wpListIn F N P ops Q rest (a.put o.dst undef) w') : wpListIn F N P ops Q (o :: rest) a w := by
  refine wpListIn_plain hgd fun K hK => ?_
  unfold Oper.wpIn
  refine ⟨by simp [Oper.about, ho], ?_⟩
  rw [Oper.semAt_plain F _ _ (by rw [ho]; intro c hc; cases hc)]
  unfold execOp
  simp only [ho, hx, hy, hz, Sem.run_bind, run_putI ht hk n v w b l hb, Result.andThen_ok, Sem.run_pure]
  have hlt : b < w.heap.size := (Array.getElem?_eq_some_iff.1 hb).1
  exact hK _ _ (h _ (World.putObj_heap_same hlt) ((Only.refl _ _).putObj b _ rfl))
theorem IntsAt.keep0 {O : Nat → Prop} {w w' : World} {a : Option Addr} {c : Nat} {l : List Nat} (h : IntsAt w a c l) (hk : Keep O w w') (ha : l ≠ [] → ∀ x, a = some x → O x.block) : IntsAt w' a c l :=
  ⟨fun i hi => by
    obtain ⟨b, o, e, hc⟩ := h.row i hi
    exact ⟨b, o, e, hk.cell hc (show O (⟨b, o + i, none⟩ : Addr).block from ha (fun e => by rw [e] at hi; simp [natI] at hi) ⟨b, o, none⟩ e)⟩, h.nil⟩
theorem wpList_lenI {P : Program} {ops : Array Oper} {rest : List Oper} {o : Oper} {a : Act} {w : World} {Q : Exit → Act → World → Prop} (hgd : o.guard = none) (x : Operand) (t k e : TypeId) (q : IntKind)
    (ho : o.op = .call { callee := .builtin .len, args := #[x], argTypes := #[t] }) (ht : P.underlying t = some (.map k e)) (b : Nat) (l : List (Int × Value)) (hx : a.eval x = .map (some b)) (hb : w.heap[b]? = some (mapI q l))
    (h : wpList P ops Q rest (a.put o.dst (.int .i64 l.length)) w) : wpList P ops Q (o :: rest) a w := by
  refine wpList_plain hgd fun _ hK => ?_
  have hr : ∀ T, (Builtin.len_ #[t] T #[.map (some b)]).run P w = .ok (.int .i64 l.length) w := fun T => by
    unfold mapI at hb
    simp only [Builtin.len_, List.getElem?_toArray, List.getElem?_cons_zero]
    simp only [run_underlying ht, Sem.run_bind, Result.andThen_ok, getObj, Sem.run, hb]
    simp [entI_len, go_sem]
  unfold Oper.wp execOp
  simp only [ho, resolve, invoke, builtin, Sem.run_bind, Sem.run_pure, Result.andThen_ok, List.map_toArray, List.map_cons, List.map_nil, hx, hr]
  exact hK _ _ h
theorem OneAt.new (w : World) : OneAt (w.alloc (mapI .i64 [])) w.heap.size [] := ⟨[], World.alloc_heap_new w _, rfl, by simp⟩
def encS (x : Nat × Nat) : Array Value := #[.int .i64 x.1, .int .i64 x.2]
/-- What the walk reads: the two boxes, the map of blocks, the next slices: all between lo and the end of W0. -/
structure WkAt (cs : List Nat) (n : Int) (mbx nbx mb lo : Nat) (W0 : World) : Prop where
  box : W0.cell? ⟨mbx, 0, none⟩ = some (.map (some mb))
  num : W0.cell? ⟨nbx, 0, none⟩ = some (.int .i64 n)
  map : MapB lo W0 mb (blksN cs)
  lbx : lo ≤ mbx
  lnx : lo ≤ nbx
  lmb : lo ≤ mb
  len : cs.length ≤ 200
def WkRd (lo : Nat) (W0 : World) (k : Nat) : Prop := lo ≤ k ∧ k < W0.heap.size
/-- The blocks that the walk reads are as they were. -/
def Old (lo : Nat) (W0 W : World) : Prop := ∀ k, WkRd lo W0 k → W.heap[k]? = W0.heap[k]?
theorem Old.cell {lo : Nat} {W0 W : World} (h : Old lo W0 W) {b o : Nat} {v : Value} (hl : lo ≤ b) (hc : W0.cell? ⟨b, o, none⟩ = some v) : W.cell? ⟨b, o, none⟩ = some v :=
  (World.cell?_of_block (h b ⟨hl, cell_lt hc⟩)).trans hc
theorem Old.below {lo : Nat} {W0 W W' : World} (h : Old lo W0 W) (hs : W0.heap.size ≤ W.heap.size) (hb : Below W.heap.size W W') : Old lo W0 W' := fun k hk => (hb.block k (by have := hk.2; omega)).trans (h k hk)
theorem Old.keep {lo : Nat} {W0 W W' : World} {O : Nat → Prop} (h : Old lo W0 W) (hs : W0.heap.size ≤ W.heap.size) (hk : Keep (fun k => O k ∨ WkRd lo W0 k) W W') : Old lo W0 W' := fun k hr => (hk.same k (by have := hr.2; omega) (.inr hr)).trans (h k hr)
theorem Old.only {lo : Nat} {W0 W W' : World} {O : Nat → Prop} (h : Old lo W0 W) (hs : W0.heap.size ≤ W.heap.size) (ho : Only O W W') (hO : ∀ k, O k → W0.heap.size ≤ k) : Old lo W0 W' := fun k hr => (ho.same k (by have := hr.2; omega) (fun h => by have := hO k h; have := hr.2; omega)).trans (h k hr)
theorem Old.next {cs : List Nat} {n : Int} {mbx nbx mb lo : Nat} {W0 W : World} (h : Old lo W0 W) {p : Option Addr} {q : Nat} {L : List Nat} (hI : IntsAt W0 p q L) (hp : L ≠ [] → ∀ x, p = some x → lo ≤ x.block) : IntsAt W p q L := by
  by_cases h0 : L = []
  · subst h0; exact ⟨fun i hi => absurd hi (by simp [natI]), hI.nil⟩
  · refine ⟨fun i hi => ?_, hI.nil⟩
    obtain ⟨b, o, e, hc⟩ := hI.row i hi
    exact ⟨b, o, e, h.cell (hp h0 _ e) hc⟩
theorem Old.map {lo : Nat} {W0 W : World} {mb : Nat} {bs : List BlkN} (h : Old lo W0 W) (hm : MapB lo W0 mb bs) (hl : lo ≤ mb) : MapB lo W mb bs := by
  obtain ⟨l, h1, h2, h3⟩ := hm
  refine ⟨l, (h mb ⟨hl, (Array.getElem?_eq_some_iff.1 h1).1⟩).trans h1, h2, fun j hj => ?_⟩
  obtain ⟨p, q, e, hI, hx⟩ := h3 j hj
  exact ⟨p, q, e, h.next (cs := []) (n := 0) (mbx := 0) (nbx := 0) (mb := 0) hI hx, hx⟩
/-- What the map of blocks has for a place: where it may go. -/
theorem MapB.nextAt {lo : Nat} {w : World} {mb : Nat} {bs : List BlkN} (h : MapB lo w mb bs) (k : Nat) : ∃ l p q F La X, w.heap[mb]? = some (mapI .i64 l) ∧
    (findI (k : Int) l).getD (.agg #[.int .i64 0, .int .i64 0, .slice none 0 0, .bool false]) = .agg #[.int .i64 F, .int .i64 La, .slice p (nextOf bs k).length q, .bool X] ∧ IntsAt w p q (nextOf bs k) ∧ (nextOf bs k ≠ [] → ∀ x, p = some x → lo ≤ x.block) := by
  obtain ⟨l, hm, hf⟩ := h.find (k : Int)
  rcases hf with ⟨hf, hno⟩ | ⟨j, hj, p, q, hjn, hjf, hf, hI, hlo⟩
  · have e : nextOf bs k = [] := by
      unfold nextOf findB
      rw [List.find?_eq_none.2 fun b hb => by have := hno b hb; simp; omega]
    refine ⟨l, none, 0, 0, 0, false, hm, by rw [hf, e]; rfl, ?_, fun h => absurd e h⟩
    rw [e]
    exact ⟨fun i hi => absurd hi (by simp [natI]), fun _ => rfl⟩
  · have e : nextOf bs k = bs[j].next := by
      unfold nextOf findB
      rw [show bs.find? (fun b => decide (b.first = k)) = some bs[j] from List.find?_eq_some_iff_getElem.2 ⟨by simp; omega, j, hj, rfl, fun i hi => by have := hjf i hi; simp; omega⟩]
    rw [e]
    exact ⟨l, p, q, bs[j].first, bs[j].last, bs[j].exit, hm, by rw [hf]; rfl, hI, hlo⟩
/-- The keys of the next layer, so far: D has been ranged, and i of L. -/
def NxI (bs : List BlkN) (S D L : List Nat) (i : Nat) (K : List Nat) : Prop := K.Nodup ∧ ∀ x, x ∈ K ↔ (x ∈ D.flatMap (nextOf bs) ∨ x ∈ L.take i) ∧ x ∉ S
theorem NxI.start (bs : List BlkN) (S L : List Nat) : NxI bs S [] L 0 [] := ⟨List.nodup_nil, fun x => by simp⟩
theorem NxI.turn {bs : List BlkN} {S D L K : List Nat} (h : NxI bs S D L 0 K) (L' : List Nat) : NxI bs S D L' 0 K := ⟨h.1, fun x => by rw [h.2]; simp⟩
theorem NxI.skip {bs : List BlkN} {S D L K : List Nat} {i : Nat} (h : NxI bs S D L i K) (hi : i < L.length) (hs : L[i] ∈ S) : NxI bs S D L (i + 1) K :=
  ⟨h.1, fun x => by
    rw [h.2, List.take_succ_eq_append_getElem hi, List.mem_append, List.mem_singleton]
    constructor
    · rintro ⟨h1, h2⟩; exact ⟨h1.elim .inl (fun h => .inr (.inl h)), h2⟩
    · rintro ⟨h1 | h1 | h1, h2⟩
      · exact ⟨.inl h1, h2⟩
      · exact ⟨.inr h1, h2⟩
      · rw [h1] at h2; exact absurd hs h2⟩
theorem NxI.add {bs : List BlkN} {S D L K : List Nat} {i : Nat} (h : NxI bs S D L i K) (hi : i < L.length) (hs : L[i] ∉ S) : NxI bs S D L (i + 1) (addK K L[i]) :=
  ⟨nodup_addK h.1 _, fun x => by
    rw [mem_addK, h.2, List.take_succ_eq_append_getElem hi, List.mem_append, List.mem_singleton]
    constructor
    · rintro (h1 | ⟨h1, h2⟩)
      · exact ⟨.inr (.inr h1), by rw [h1]; exact hs⟩
      · exact ⟨h1.elim .inl (fun h => .inr (.inl h)), h2⟩
    · rintro ⟨h1 | h1 | h1, h2⟩
      · exact .inr ⟨.inl h1, h2⟩
      · exact .inr ⟨.inr h1, h2⟩
      · exact .inl h1⟩
theorem NxI.done {bs : List BlkN} {S D K : List Nat} {k : Nat} (h : NxI bs S D (nextOf bs k) (nextOf bs k).length K) (L : List Nat) : NxI bs S (D ++ [k]) L 0 K :=
  ⟨h.1, fun x => by
    rw [h.2, List.take_length, List.flatMap_append, List.mem_append]
    simp⟩
theorem NxI.layer {bs : List BlkN} {S now D L K : List Nat} (h : NxI bs S D L 0 K) (hp : D.Perm now) : setL K = layerN bs S now := layer_of hp fun x => by rw [h.2]; simp
/-- The keys of these places. -/
def keysAt (KN sn : List Nat) : List Nat := sn.map fun j => (KN[j]?).getD 0
theorem keysAt_snoc (KN sn : List Nat) (j : Nat) (hj : j < KN.length) : keysAt KN (sn ++ [j]) = keysAt KN sn ++ [KN[j]] := by
  unfold keysAt; simp [hj]
theorem keysAt_all {KN sn : List Nat} (h : sn.Perm (List.range KN.length)) : (keysAt KN sn).Perm KN := by
  have := h.map fun j => (KN[j]?).getD 0
  refine this.trans (List.Perm.of_eq ?_)
  apply List.ext_getElem (by simp)
  intro i h1 h2
  simp [h2]
end Go.Proofs.YtijkdabmegbcjaaDoor
