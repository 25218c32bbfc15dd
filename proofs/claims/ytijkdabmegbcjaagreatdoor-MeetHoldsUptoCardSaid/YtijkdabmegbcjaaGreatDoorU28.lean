/- Texts of this claim, merged; no condition. -/
import Derived.Test.YtijkdabmegbcjaaGreatDoorU27
import Derived.Test.YtijkdabmegbcjaaGreatDoorU15
import Derived.Test.YtijkdabmegbcjaaGreatDoorU13
import Derived.Test.YtijkdabmegbcjaaGreatDoorU04
set_option linter.all false
namespace Go.Proofs.YtijkdabmegbcjaaGreatDoor
open Go.RowKit Go.Shelf

theorem IntsAt.only0 {O : Nat → Prop} {w w' : World} {a : Option Addr} {c : Nat} {l : List Nat} (h : IntsAt w a c l) (ho : Only O w w') (ha : l ≠ [] → ∀ x, a = some x → ¬ O x.block) : IntsAt w' a c l := by
  by_cases h0 : l = []
  · subst h0; exact ⟨fun i hi => absurd hi (by simp [natI]), h.nil⟩
  · exact h.only ho (ha h0)
theorem IntsAt.lt {w : World} {a : Option Addr} {c : Nat} {l : List Nat} (h : IntsAt w a c l) (h0 : l ≠ []) {x : Addr} (hx : a = some x) : x.block < w.heap.size := by
  obtain ⟨b, o', e, hc⟩ := h.get (i := 0) (List.length_pos_iff.2 h0)
  rw [e] at hx; cases hx
  exact cell_lt hc
/-- Blocks in a row of the call's own; their next ones lie elsewhere. -/
def OwnK (w0 w : World) (v : Value) (bs : List BlkN) : Prop :=
  ∃ C : Nat → List Value, w.ownsRow w0.heap.size 51 4 v bs.length ((List.range bs.length).flatMap C) ∧ (∀ j, (C j).length = 4) ∧
    ∀ j (h : j < bs.length), ∃ p q, C j = blkC p q bs[j] ∧ IntsAt w p q bs[j].next ∧ (bs[j].next ≠ [] → ∀ x, p = some x → w0.heap.size ≤ x.block ∧ v.ownBlock ≠ some x.block)
theorem OwnK.nil (w0 w : World) : OwnK w0 w (.slice none 0 0) [] := ⟨fun _ => blkC none 0 blk0, ⟨rfl, .inl ⟨rfl, rfl⟩⟩, fun _ => rfl, fun j h => absurd h (by simp)⟩
theorem OwnK.below {w0 w w' : World} {v : Value} {bs : List BlkN} (h : OwnK w0 w v bs) (hb : Below w.heap.size w w') : OwnK w0 w' v bs := by
  obtain ⟨C, h1, h2, h3⟩ := h
  refine ⟨C, own_keep h1 hb, h2, fun j hj => ?_⟩
  obtain ⟨p, q, e, k1, k2⟩ := h3 j hj
  exact ⟨p, q, e, k1.below hb, k2⟩
theorem grown_only {w w' : World} {v : Value} (hg : w.grownBy w' v.ownBlock) : Only (fun k => v.ownBlock = some k) w w' := ⟨hg.os, hg.tape, hg.output, hg.size, fun k hk ho => hg.block k hk (fun e => ho e.symm)⟩
theorem OwnK.own {w0 w : World} {v : Value} {bs : List BlkN} (h : OwnK w0 w v bs) : ∃ xs, w.ownsRow w0.heap.size 51 4 v bs.length xs ∧ ∀ w' v' (bn : BlkN) (p : Option Addr) (q : Nat), w'.ownsRow w0.heap.size 51 4 v' (bs.length + 1) (xs ++ blkC p q bn) → w.grownBy w' v.ownBlock →
    (v'.ownBlock = v.ownBlock ∨ ∀ k, v'.ownBlock = some k → w.heap.size ≤ k) → IntsAt w p q bn.next → (bn.next ≠ [] → ∀ x, p = some x → w0.heap.size ≤ x.block ∧ v.ownBlock ≠ some x.block) → OwnK w0 w' v' (bs ++ [bn]) := by
  obtain ⟨C, h1, h2, h3⟩ := h
  refine ⟨_, h1, fun w' v' bn p q o hg hv hI hp => ?_⟩
  have key : ∀ (b : BlkN) (p' : Option Addr) (q' : Nat), IntsAt w p' q' b.next → (b.next ≠ [] → ∀ x, p' = some x → w0.heap.size ≤ x.block ∧ v.ownBlock ≠ some x.block) →
      IntsAt w' p' q' b.next ∧ (b.next ≠ [] → ∀ x, p' = some x → w0.heap.size ≤ x.block ∧ v'.ownBlock ≠ some x.block) := fun b p' q' k1 k2 =>
    ⟨k1.only0 (grown_only hg) fun h0 x hx => (k2 h0 x hx).2, fun h0 x hx => ⟨(k2 h0 x hx).1, fun e => by
      rcases hv with hv | hv
      · exact (k2 h0 x hx).2 (hv.symm.trans e)
      · have := hv _ e; have := k1.lt h0 hx; omega⟩⟩
  refine ⟨updC C bs.length (blkC p q bn), ?_, fun j => ?_, fun j hj => ?_⟩
  · rw [List.length_append, List.length_singleton, List.range_succ, List.flatMap_append]
    have e : (List.range bs.length).flatMap (updC C bs.length (blkC p q bn)) = (List.range bs.length).flatMap C := by
      rw [List.flatMap_def, List.flatMap_def, List.map_congr_left fun j hj => ?_]
      unfold updC
      rw [if_neg (by have := List.mem_range.1 hj; omega)]
    rw [e]
    simpa [updC] using o
  · unfold updC; split
    · rfl
    · exact h2 j
  · by_cases e : j = bs.length
    · subst e
      simp only [List.getElem_append_right (Nat.le_refl _), Nat.sub_self, List.getElem_cons_zero]
      exact ⟨p, q, by unfold updC; rw [if_pos rfl], key bn p q hI hp⟩
    · have hj' : j < bs.length := by simp at hj; omega
      obtain ⟨p', q', e', k1, k2⟩ := h3 j hj'
      rw [List.getElem_append_left hj']
      exact ⟨p', q', by unfold updC; rw [if_neg e]; exact e', key _ _ _ k1 k2⟩
theorem OwnK.lt {w0 w : World} {v : Value} {bs : List BlkN} (h : OwnK w0 w v bs) {k : Nat} (hk : v.ownBlock = some k) : w0.heap.size ≤ k ∧ k < w.heap.size := by
  obtain ⟨C, h1, -⟩ := h
  exact own_lt h1 hk
theorem OwnK.base {w w1 w' : World} {v : Value} {bs : List BlkN} (h : OwnK w1 w' v bs) (hs : w.heap.size ≤ w1.heap.size) : OwnK w w' v bs := by
  obtain ⟨C, h1, h2, h3⟩ := h
  refine ⟨C, own_base h1 hs, h2, fun j hj => ?_⟩
  obtain ⟨p, q, e, k1, k2⟩ := h3 j hj
  exact ⟨p, q, e, k1, fun h0 x hx => ⟨Nat.le_trans hs (k2 h0 x hx).1, (k2 h0 x hx).2⟩⟩
/-- As a row, with where the next ones lie. -/
theorem OwnK.rows {w0 w : World} {v : Value} {bs : List BlkN} (h : OwnK w0 w v bs) : ∃ a c, v = .slice a bs.length c ∧ (a = none → c = 0) ∧ ∀ i (hi : i < bs.length), ∃ b o p q, a = some ⟨b, o, none⟩ ∧ w.rangeAt b (o + i * 4) (blkC p q bs[i]) ∧ IntsAt w p q bs[i].next ∧ (bs[i].next ≠ [] → ∀ x, p = some x → w0.heap.size ≤ x.block) := by
  obtain ⟨C, h1, h2, h3⟩ := h
  obtain ⟨a, c, rfl, hr, hn, hx, hl, h0⟩ := rowV_own h1
  refine ⟨a, c, rfl, hn, fun i hi => ?_⟩
  obtain ⟨p, q, e, k1, k2⟩ := h3 i hi
  have hlen := flat_len 4 C h2 (List.range bs.length)
  rw [List.length_range] at hlen
  have hi4 : ∀ j, j < 4 → i * 4 + j < ((List.range bs.length).flatMap C).length := fun j hj => by rw [hlen]; omega
  obtain ⟨b, o, rfl, -⟩ := hr (i * 4 + 0) (hi4 0 (by omega))
  refine ⟨b, o, p, q, rfl, fun j u hj => ?_, k1, fun h0 x hx => (k2 h0 x hx).1⟩
  have hj4 : j < 4 := (List.getElem?_eq_some_iff.1 hj).1
  obtain ⟨b', o', e', hc⟩ := hr (i * 4 + j) (hi4 j hj4)
  cases e'
  have hg := flat_get 4 C h2 (List.range bs.length) i j (by rw [List.length_range]; exact hi) hj4
  rw [List.getElem_range, e, hj] at hg
  obtain ⟨hlt, he⟩ := List.getElem?_eq_some_iff.1 hg
  rw [Nat.add_assoc, hc, he]
theorem blk_news (w : World) (T : TypeId) (vs : List Value) : ∀ (j : Nat) (u : Value), vs[j]? = some u → (w.alloc (.cells vs.toArray T)).cell? ((⟨w.heap.size, 0, none⟩ : Addr).add j) = some u := fun j u hj => by
  have := (BlkG.new w T vs).range j u hj
  have e : (⟨w.heap.size, 0, none⟩ : Addr).add j = ⟨w.heap.size, 0 + j, none⟩ := by
    unfold Addr.add
    split
    · rename_i h; subst h; rfl
    · rfl
  rw [e]; exact this
set_option maxRecDepth 100000 in
set_option maxHeartbeats 4000000 in
theorem blocks_own (cs : List Nat) (a : Option Addr) (c : Nat) (w : World) (h : CodeAt w a c cs) :
    Calls Tryz.prog 14 #[.slice a cs.length c] w fun e w' => (∃ v, e = .returned v ∧ OwnK w w' v (blksN cs)) ∧ Below w.heap.size w w' := by
  have hmade := Lib.hid (made_any cs a c w h)
  have hgl : (grps cs).length ≤ 200 := by have := grps_len cs; have := h.len; omega
  obtain ⟨i0, hi0, hz0, hz1, hz2⟩ := info_parts info_blk
  replace h := Lib.hid h
  go_enter Tryz.func14, Tryz.ntmps14
  go_wp2_with (go_at_call 41; refine hmade.out.mono ?_; rintro e w1 ⟨⟨cb, rfl, hC, hcb⟩, hb1⟩; obtain ⟨po, qo, pb, qb, hCut, hOps, hGrp, hnil⟩ := hC; have hc1 : w1.cell? ⟨cb, 2, none⟩ = some (.slice pb (grps cs).length qb) := (by simpa using hCut.range 2 _ rfl); replace hCut := Lib.hid hCut; replace hOps := Lib.hid hOps; replace hGrp := Lib.hid hGrp; replace hb1 := Lib.hid hb1)
  go_loopw [2, 13] (fun v iv wx => ∃ i : Nat, i ≤ (grps cs).length ∧ iv = .int .i64 i ∧ Hid (OwnK w1 wx v ((blksN cs).take i)) ∧ Hid (Below w1.heap.size w1 wx)) (fun _ iv _ => (grps cs).length - (intOf iv).toNat)
  case atStart => exact ⟨0, by omega, rfl, Lib.hid (OwnK.nil _ _), Lib.hid (xrefl _)⟩
  case round =>
    obtain ⟨i, hi, rfl, hO, hb⟩ := hrel
    by_cases hlt : i < (grps cs).length
    · have hltI : (i : Int) < (grps cs).length := by omega
      have hbl : (blksN cs).length = (grps cs).length := by unfold blksN; rw [List.length_map]
      have htk : Hid ((blksN cs).take (i + 1) = (blksN cs).take i ++ [blkN cs (grps cs)[i]]) := Lib.hid (by rw [List.take_add_one, List.getElem?_eq_getElem (by omega)]; simp [blksN])
      have hli : ((blksN cs).take i).length = i := by rw [List.length_take]; omega
      obtain ⟨b, o, p, q, rfl, hcg, hog⟩ := hGrp.out i hlt
      have hcg2 : wr.cell? ⟨b, o + i, none⟩ = some (.slice p (grps cs)[i].length q) := cbel hb.out hcg
      have hblock := Lib.hid (block_any cs (grps cs)[i] a po p c qo q cb _ wr (h.out.below (xtrans hb1.out hb.out)) (hCut.out.below hb.out) (hOps.out.below hb.out) (hog.below hb.out) (List.getElem_mem hlt))
      have hT := Lib.hid hbl
      generalize (blksN cs).take i = T at *
      generalize blkN cs (grps cs)[i] = B at *
      generalize (grps cs)[i].length = gl at *
      have hw0 : w1.heap.size ≤ wr.heap.size := hb.out.size
      have hblock2 : Hid (Calls Tryz.prog 42 #[.pointer (some ⟨cb, 0, none⟩), .slice p gl q] wr fun e w' => (∃ p' q', e = .returned (.agg #[.int .i64 B.first, .int .i64 B.last, .slice p' B.next.length q', .bool B.exit]) ∧ IntsAt w' p' q' B.next ∧ ∀ x, p' = some x → wr.heap.size ≤ x.block) ∧ Below wr.heap.size wr w') := Lib.hid hblock.out
      have hq1 : T.length + 1 ≤ maxLen := by rw [hli]; unfold maxLen; omega
      have hq2 : (T.length + 1) * 48 ≤ 140737488355328 := by rw [hli]; omega
      clear hblock
      replace hcg := Lib.hid hcg
      replace hog := Lib.hid hog
      have hwi : IntKind.i64.wrap ((i : Int) + 1) = (i : Int) + 1 := by simp [IntKind.wrap, IntKind.bits, IntKind.signed]; omega
      go_wp2_with (first
        | (at_builtin; refine wpList_append_blkV (w2.alloc (.cells #[.int .i64 B.first, .int .i64 B.last, .slice y B.next.length qy, .bool B.exit] 51)) rfl _ _ 25 rfl w1.heap.size 51 i0 (blkV none 0 blk0) 4 48 Tryz.underlying25 hi0 hz0 hz1 hz2 rfl (by decide) u2 T.length xs rfl hxs.out ⟨w2.heap.size, 0, none⟩ 1 1 [.int .i64 B.first, .int .i64 B.last, .slice y B.next.length qy, .bool B.exit] rfl rfl (blk_news w2 51 [.int .i64 B.first, .int .i64 B.last, .slice y B.next.length qy, .bool B.exit]) (by simp [Value.oneCell']) hq1 hq2 (by rw [World.size_alloc]; exact Nat.le_succ_of_le hsz2) ?_; intro v8 w8 ho8 hg8 hv8; have hO8 := Lib.hid (hnew.out w8 v8 B y qy ho8 hg8 hv8 (hI2.out.below (xalloc (xrefl w2) _)) (fun _ x hx => ⟨Nat.le_trans hw0 (hx2.out x hx), fun e => by have := hlt2.out _ e; have := hx2.out x hx; omega⟩)); have hb8 := Lib.hid ((xalloc hb2.out _).grown hg8 (by rw [World.size_alloc]; omega) (fun j hj => hlow.out _ hj)))
        | go_at_call 42; refine hblock2.out.mono ?_; rintro e w2 ⟨⟨y, qy, rfl, hI2, hx2⟩, hb2⟩; obtain ⟨xs, hxs, hnew⟩ := ((hO.out.below hb2).below (xalloc (xrefl w2) (.cells #[.int .i64 B.first, .int .i64 B.last, .slice y B.next.length qy, .bool B.exit] 51))).own; have hlt2 := Lib.hid (fun k (e : u2.ownBlock = some k) => (hO.out.lt e).2); replace hxs := Lib.hid hxs; replace hnew := Lib.hid hnew; have hsz2 := Nat.le_trans hw0 hb2.size; have hlow := Lib.hid (fun k (e : u2.ownBlock = some k) => (hO.out.lt e).1); replace hb2 := Lib.hid (xtrans hb.out hb2); replace hI2 := Lib.hid hI2; replace hx2 := Lib.hid hx2)
      exact ⟨⟨i + 1, by omega, by go_num, by rw [htk.out]; exact hO8, hb8⟩, by simp [intOf]; omega⟩
    · obtain rfl : i = (grps cs).length := by omega
      have hT : (blksN cs).take (grps cs).length = blksN cs := List.take_of_length_le (by unfold blksN; rw [List.length_map]; exact Nat.le_refl _)
      rw [hT] at hO
      clear hlt hT
      go_wp2
      go_ret
      exact ⟨⟨_, rfl, hO.out.base hb1.out.size⟩, xtrans hb1.out hb.out⟩
end Go.Proofs.YtijkdabmegbcjaaGreatDoor
namespace Go.Proofs.YtijkdabmegbcjaaGreatDoor
open Go.RowKit Go.Shelf

/-- A map that holds these blocks, in the order in which they came. -/
def MapB (lo : Nat) (w : World) (mb : Nat) (bs : List BlkN) : Prop := ∃ l, w.heap[mb]? = some (mapI .i64 l) ∧ l.length = bs.length ∧
  ∀ j (h : j < bs.length), ∃ p q, l[j]? = some ((bs[j].first : Int), blkV p q bs[j]) ∧ IntsAt w p q bs[j].next ∧ (bs[j].next ≠ [] → ∀ x, p = some x → lo ≤ x.block)
theorem MapB.below {lo : Nat} {w w' : World} {mb : Nat} {bs : List BlkN} (h : MapB lo w mb bs) (hb : Below w.heap.size w w') : MapB lo w' mb bs := by
  obtain ⟨l, h1, h2, h3⟩ := h
  refine ⟨l, (hb.block mb (Array.getElem?_eq_some_iff.1 h1).1).trans h1, h2, fun j hj => ?_⟩
  obtain ⟨p, q, e, hI, hx⟩ := h3 j hj
  exact ⟨p, q, e, hI.below hb, hx⟩
/-- The next ones lie in cells, the map does not. -/
theorem IntsAt.map_off {w w' : World} {mb : Nat} {q : IntKind} {l : List (Int × Value)} {a : Option Addr} {c : Nat} {L : List Nat} (h : IntsAt w a c L) (hm : w.heap[mb]? = some (mapI q l)) (ho : Only (· = mb) w w') : IntsAt w' a c L :=
  h.only0 ho fun h0 x hx e => by
    obtain ⟨b, o, e', hc⟩ := h.get (i := 0) (List.length_pos_iff.2 h0)
    rw [e'] at hx; cases hx
    have e2 : b = mb := e
    subst e2
    exact map_not_cell hm hc
theorem MapB.find {lo : Nat} {w : World} {mb : Nat} {bs : List BlkN} (h : MapB lo w mb bs) (n : Int) : ∃ l, w.heap[mb]? = some (mapI .i64 l) ∧ ((findI n l = none ∧ ∀ b ∈ bs, (b.first : Int) ≠ n) ∨ ∃ j, ∃ hj : j < bs.length, ∃ p q, (bs[j].first : Int) = n ∧ (∀ i (hi : i < j), ((bs[i]'(by omega)).first : Int) ≠ n) ∧ findI n l = some (blkV p q bs[j]) ∧ IntsAt w p q bs[j].next ∧ (bs[j].next ≠ [] → ∀ x, p = some x → lo ≤ x.block)) := by
  obtain ⟨l, h1, h2, h3⟩ := h
  refine ⟨l, h1, ?_⟩
  clear h1
  induction bs generalizing l with
  | nil => 
    have : l = [] := List.length_eq_zero_iff.1 (by simpa using h2)
    subst this
    exact .inl ⟨rfl, by simp⟩
  | cons b bs ih =>
    match l, h2 with
    | x :: l, h2 =>
      obtain ⟨p, q, e, hI⟩ := h3 0 (by simp)
      simp only [List.getElem?_cons_zero, List.getElem_cons_zero, Option.some.injEq] at e hI
      subst e
      by_cases hn : (b.first : Int) = n
      · refine .inr ⟨0, by simp, p, q, hn, fun i hi => absurd hi (by omega), ?_, hI⟩
        unfold findI
        rw [if_pos hn.symm]; rfl
      · have ih2 := ih l (by simpa using h2) fun j hj => by
          obtain ⟨p, q, e, hI⟩ := h3 (j + 1) (by simpa using hj)
          exact ⟨p, q, by simpa using e, by simpa using hI.1, by simpa using hI.2⟩
        have hf : findI n (((b.first : Int), blkV p q b) :: l) = findI n l := by
          show (if n = (b.first : Int) then _ else _) = _
          rw [if_neg (fun e => hn e.symm)]
        rw [hf]
        rcases ih2 with ⟨e1, e2⟩ | ⟨j, hj, p', q', k1, k2, k3, k4⟩
        · exact .inl ⟨e1, fun c hc => by
            rcases List.mem_cons.1 hc with rfl | hc
            · exact hn
            · exact e2 c hc⟩
        · refine .inr ⟨j + 1, by simpa using hj, p', q', by simpa using k1, fun i hi => ?_, by simpa using k3, by simpa using k4.1, by simpa using k4.2⟩
          match i, hi with
          | 0, _ => exact hn
          | i + 1, hi => simpa using k2 i (by omega)
end Go.Proofs.YtijkdabmegbcjaaGreatDoor
namespace Go.Proofs.YtijkdabmegbcjaaGreatDoor
open Go.RowKit Go.Shelf

/-- A map with these keys, each with the value 1. -/
def OneAt (W : World) (bm : Nat) (K : List Nat) : Prop := ∃ l, W.heap[bm]? = some (mapI .i64 l) ∧ l.map (·.1) = natI K ∧ ∀ x ∈ l, x.2 = .int .i64 1
theorem OneAt.below {W W' : World} {bm : Nat} {K : List Nat} (h : OneAt W bm K) (hb : Below W.heap.size W W') : OneAt W' bm K := by
  obtain ⟨l, h1, h2⟩ := h
  exact ⟨l, (hb.block bm (Array.getElem?_eq_some_iff.1 h1).1).trans h1, h2⟩
theorem OneAt.only {O : Nat → Prop} {W W' : World} {bm : Nat} {K : List Nat} (h : OneAt W bm K) (ho : Only O W W') (hb : ¬ O bm) : OneAt W' bm K := by
  obtain ⟨l, h1, h2⟩ := h
  exact ⟨l, (ho.same bm (Array.getElem?_eq_some_iff.1 h1).1 hb).trans h1, h2⟩
theorem OneAt.lt {W : World} {bm : Nat} {K : List Nat} (h : OneAt W bm K) : bm < W.heap.size := by
  obtain ⟨l, h1, -⟩ := h
  exact (Array.getElem?_eq_some_iff.1 h1).1
theorem updI_val {n : Int} {v u : Value} {l : List (Int × Value)} (h : ∀ x ∈ l, x.2 = u) (hv : v = u) : ∀ x ∈ updI n v l, x.2 = u := by
  induction l with
  | nil => intro x hx; simp [updI] at hx; subst hx; exact hv
  | cons y l ih =>
    intro x hx
    unfold updI at hx
    split at hx
    · rcases List.mem_cons.1 hx with rfl | hx
      · exact hv
      · exact h x (by simp [hx])
    · rcases List.mem_cons.1 hx with rfl | hx
      · exact h _ (by simp)
      · exact ih (fun z hz => h z (by simp [hz])) x hx
theorem OneAt.upd {W : World} {bm : Nat} {K : List Nat} {l : List (Int × Value)} (h1 : l.map (·.1) = natI K) (h2 : ∀ x ∈ l, x.2 = .int .i64 1) (n : Nat) (hw : W.heap[bm]? = some (mapI .i64 (updI n (.int .i64 1) l))) : OneAt W bm (addK K n) :=
  ⟨_, hw, updI_addK n _ l K h1, updI_val h2 rfl⟩
end Go.Proofs.YtijkdabmegbcjaaGreatDoor
namespace Go.Proofs.YtijkdabmegbcjaaGreatDoor
open Go.RowKit Go.Shelf

/-- A map is made. -/
theorem wpList_mk {P : Program} {ops : Array Oper} {rest : List Oper} {o : Oper} {a : Act} {w : World} {Q : Exit → Act → World → Prop} (hgd : o.guard = none) (t : TypeId) (ho : o.op = .makeMap t none)
    (h : wpList P ops Q rest (a.put o.dst (.map (some w.heap.size))) (w.alloc (mapI .i64 []))) : wpList P ops Q (o :: rest) a w := by
  refine wpList_plain hgd fun _ hK => ?_
  unfold Oper.wp execOp
  simp only [ho]
  exact hK _ _ h
theorem wpList_lookI {P : Program} {ops : Array Oper} {rest : List Oper} {o : Oper} {a : Act} {w : World} {Q : Exit → Act → World → Prop} (hgd : o.guard = none) (t k e : TypeId) (q : IntKind) (x y : Operand) (c : Bool) (ho : o.op = .lookup t x y c)
    (ht : P.underlying t = some (.map k e)) (hk : P.underlying k = some (.int q)) {z : Value} (hz : ∀ w, (zeroValue e).run P w = .ok z w) (n : Int) (b : Nat) (l : List (Int × Value)) (hx : a.eval x = .map (some b)) (hy : a.eval y = .int q n) (hb : w.heap[b]? = some (mapI q l))
    (h : wpList P ops Q rest (a.put o.dst (if c then .tuple #[(findI n l).getD z, .bool (findI n l).isSome] else (findI n l).getD z)) w) : wpList P ops Q (o :: rest) a w := by
  refine wpList_plain hgd fun _ hK => ?_
  unfold Oper.wp execOp
  have := run_lookI ht hk hz n w b l c hb
  simp only [ho, hx, hy, Sem.run_bind, this, Result.andThen_ok, Sem.run_pure]
  exact hK _ _ h
theorem wpListIn_putI {F : Fence} {N : Nat} {P : Program} {ops : Array Oper} {rest : List Oper} {o : Oper} {a : Act} {w : World} {Q : Exit → Act → World → Prop} (hgd : o.guard = none) (t k e : TypeId) (q : IntKind) (x y z : Operand) (ho : o.op = .mapUpdate t x y z)
    (ht : P.underlying t = some (.map k e)) (hk : P.underlying k = some (.int q)) (b : Nat) (n : Int) (v : Value) (l : List (Int × Value)) (hx : a.eval x = .map (some b)) (hy : a.eval y = .int q n) (hz : a.eval z = v)
    (hb : w.heap[b]? = some (mapI q l))
    (h : ∀ w', w'.heap[b]? = some (mapI q (updI n v l)) → Only (· = b) w w' → wpListIn F N P ops Q rest (a.put o.dst undef) w') : wpListIn F N P ops Q (o :: rest) a w := by
  refine wpListIn_plain hgd fun K hK => ?_
  unfold Oper.wpIn
  refine ⟨by simp [Oper.about, ho], ?_⟩
  rw [Oper.semAt_plain F _ _ (by rw [ho]; intro c hc; cases hc)]
  unfold execOp
  simp only [ho, hx, hy, hz, Sem.run_bind, run_putI ht hk n v w b l hb, Result.andThen_ok, Sem.run_pure]
  have hlt : b < w.heap.size := (Array.getElem?_eq_some_iff.1 hb).1
  exact hK _ _ (h _ (World.putObj_heap_same hlt) ((Only.refl _ _).putObj b _ rfl))
theorem OneAt.new (w : World) : OneAt (w.alloc (mapI .i64 [])) w.heap.size [] := ⟨[], World.alloc_heap_new w _, rfl, by simp⟩
def WkRd (lo : Nat) (W0 : World) (k : Nat) : Prop := lo ≤ k ∧ k < W0.heap.size
/-- The blocks that the walk reads are as they were. -/
def Old (lo : Nat) (W0 W : World) : Prop := ∀ k, WkRd lo W0 k → W.heap[k]? = W0.heap[k]?
theorem Old.cell {lo : Nat} {W0 W : World} (h : Old lo W0 W) {b o : Nat} {v : Value} (hl : lo ≤ b) (hc : W0.cell? ⟨b, o, none⟩ = some v) : W.cell? ⟨b, o, none⟩ = some v :=
  (World.cell?_of_block (h b ⟨hl, cell_lt hc⟩)).trans hc
theorem Old.below {lo : Nat} {W0 W W' : World} (h : Old lo W0 W) (hs : W0.heap.size ≤ W.heap.size) (hb : Below W.heap.size W W') : Old lo W0 W' := fun k hk => (hb.block k (by have := hk.2; omega)).trans (h k hk)
theorem Old.only {lo : Nat} {W0 W W' : World} {O : Nat → Prop} (h : Old lo W0 W) (hs : W0.heap.size ≤ W.heap.size) (ho : Only O W W') (hO : ∀ k, O k → W0.heap.size ≤ k) : Old lo W0 W' := fun k hr => (ho.same k (by have := hr.2; omega) (fun h => by have := hO k h; have := hr.2; omega)).trans (h k hr)
end Go.Proofs.YtijkdabmegbcjaaGreatDoor
namespace Go.Proofs.YtijkdabmegbcjaaGreatDoor
open Go.RowKit

/-- The entries of a set. -/
structure SetE (E : List (Int × Value × Nat)) (clk : Nat) (K : List Nat) : Prop where
  key : E.map (·.1) = natI K
  nd : K.Nodup
  val : ∀ e ∈ E, e.2.1 = .bool true
  sn : (E.map (·.2.2)).Nodup
  lt : ∀ e ∈ E, e.2.2 < clk
def SetAt (w : World) (b : Nat) (K : List Nat) : Prop := ∃ E clk, w.heap[b]? = some (mapQ .i64 E clk) ∧ SetE E clk K
theorem SetAt.lt {w : World} {b : Nat} {K : List Nat} (h : SetAt w b K) : b < w.heap.size := by
  obtain ⟨E, clk, h1, -⟩ := h
  exact (Array.getElem?_eq_some_iff.1 h1).1
theorem SetAt.same {w w' : World} {b : Nat} {K : List Nat} (h : SetAt w b K) (hs : w'.heap[b]? = w.heap[b]?) : SetAt w' b K := by
  obtain ⟨E, clk, h1, h2⟩ := h
  exact ⟨E, clk, hs.trans h1, h2⟩
theorem SetAt.below {w w' : World} {b : Nat} {K : List Nat} (h : SetAt w b K) (hb : Below w.heap.size w w') : SetAt w' b K := h.same (hb.block b h.lt)
theorem SetAt.only {O : Nat → Prop} {w w' : World} {b : Nat} {K : List Nat} (h : SetAt w b K) (ho : Only O w w') (hb : ¬ O b) : SetAt w' b K := h.same (ho.same b h.lt hb)
theorem SetAt.new (w : World) : SetAt (w.alloc (mapI .i64 [])) w.heap.size [] := ⟨[], 0, World.alloc_heap_new w _, rfl, List.nodup_nil, by simp, by simp, by simp⟩
theorem SetE.mem {E : List (Int × Value × Nat)} {clk : Nat} {K : List Nat} (h : SetE E clk K) {k : Nat} : k ∈ K ↔ ∃ e ∈ E, e.1 = (k : Int) := by
  constructor
  · intro hk
    have : (k : Int) ∈ natI K := List.mem_map.2 ⟨k, hk, rfl⟩
    rw [← h.key, List.mem_map] at this
    obtain ⟨e, he, h2⟩ := this
    exact ⟨e, he, h2⟩
  · rintro ⟨e, he, h2⟩
    have : e.1 ∈ natI K := by rw [← h.key]; exact List.mem_map.2 ⟨e, he, rfl⟩
    obtain ⟨j, hj, h3⟩ := List.mem_map.1 this
    have : j = k := by rw [h2] at h3; omega
    rw [← this]; exact hj
theorem SetE.nat {E : List (Int × Value × Nat)} {clk : Nat} {K : List Nat} (h : SetE E clk K) {e : Int × Value × Nat} (he : e ∈ E) : ∃ k ∈ K, e.1 = ((k : Nat) : Int) := by
  have : e.1 ∈ natI K := by rw [← h.key]; exact List.mem_map.2 ⟨e, he, rfl⟩
  obtain ⟨j, hj, h3⟩ := List.mem_map.1 this
  exact ⟨j, hj, h3.symm⟩
theorem SetE.find {E : List (Int × Value × Nat)} {clk : Nat} {K : List Nat} (h : SetE E clk K) (k : Nat) : valQ (k : Int) E = if k ∈ K then some (.bool true) else none := by
  unfold valQ
  by_cases hk : k ∈ K
  · rw [if_pos hk]
    obtain ⟨e, he, h2⟩ := h.mem.1 hk
    cases hf : E.find? (fun e => e.1 == (k : Int)) with
    | none => exact absurd (List.find?_eq_none.1 hf e he) (by simp [h2])
    | some x =>
      show some x.2.1 = _
      rw [h.val x (List.mem_of_find?_eq_some hf)]
  · rw [if_neg hk, List.find?_eq_none.2]
    · rfl
    · intro e he
      have : ¬ e.1 = (k : Int) := fun h2 => hk (h.mem.2 ⟨e, he, h2⟩)
      simpa using this
theorem SetE.len {E : List (Int × Value × Nat)} {clk : Nat} {K : List Nat} (h : SetE E clk K) : E.length = K.length := by
  have := congrArg List.length h.key
  simpa [natI] using this
theorem SetE.keyNd {E : List (Int × Value × Nat)} {clk : Nat} {K : List Nat} (h : SetE E clk K) : (E.map (·.1)).Nodup := by
  rw [h.key]
  unfold natI
  exact List.Pairwise.map _ (fun a b hab e => hab (by omega)) h.nd
theorem SetE.add {E : List (Int × Value × Nat)} {clk : Nat} {K : List Nat} (h : SetE E clk K) {k : Nat} (hk : k ∉ K) : SetE (E ++ [((k : Int), .bool true, clk)]) (clk + 1) (K ++ [k]) := by
  refine ⟨by rw [List.map_append, h.key, natI_app]; rfl, List.nodup_append.2 ⟨h.nd, by simp, fun a ha b hb e => hk (by simp at hb; rw [← hb, ← e]; exact ha)⟩, fun e he => ?_, ?_, fun e he => ?_⟩
  · rcases List.mem_append.1 he with he | he
    · exact h.val e he
    · rw [List.mem_singleton] at he; rw [he]
  · rw [List.map_append, List.nodup_append]
    refine ⟨h.sn, by simp, fun a ha b hb e => ?_⟩
    obtain ⟨x, hx, rfl⟩ := List.mem_map.1 ha
    have := h.lt x hx
    simp at hb
    omega
  · rcases List.mem_append.1 he with he | he
    · have := h.lt e he; omega
    · rw [List.mem_singleton] at he; rw [he]; exact Nat.lt_succ_self _
theorem SetE.drop {E : List (Int × Value × Nat)} {clk : Nat} {K : List Nat} (h : SetE E clk K) (p : Nat → Bool) : SetE (E.filter fun e => p e.1.toNat) clk (K.filter p) := by
  have hk : (E.filter fun e => p e.1.toNat).map (·.1) = natI (K.filter p) := by
    have : ∀ (E : List (Int × Value × Nat)) (K : List Nat), E.map (·.1) = natI K → (E.filter fun e => p e.1.toNat).map (·.1) = natI (K.filter p) := by
      intro E
      induction E with
      | nil =>
        intro K hK
        match K, hK with
        | [], _ => rfl
      | cons e E ih =>
        intro K hK
        match K, hK with
        | k :: K, hK =>
          rw [List.map_cons, natI_cons] at hK
          injection hK with h1 h2
          have h3 : e.1.toNat = k := by rw [h1]; exact Int.toNat_natCast k
          by_cases hp : p k = true
          · rw [List.filter_cons_of_pos (by rw [h3]; exact hp), List.filter_cons_of_pos hp, List.map_cons, natI_cons, ih K h2, h1]
          · rw [List.filter_cons_of_neg (by rw [h3]; exact hp), List.filter_cons_of_neg hp, ih K h2]
    exact this E K h.key
  exact ⟨hk, h.nd.filter _, fun e he => h.val e (List.mem_filter.1 he).1, (List.filter_sublist.map _).nodup h.sn, fun e he => h.lt e (List.mem_filter.1 he).1⟩
section
variable {P : Program} {t k : TypeId} {w : World} {b : Nat} {K : List Nat}
theorem SetAt.look (h : SetAt w b K) {e : TypeId} (ht : P.underlying t = some (.map k e)) (hk : P.underlying k = some (.int .i64)) (hz : ∀ w, (zeroValue e).run P w = .ok (.bool false) w) (n : Nat) :
    (Instr.lookup t (.map (some b)) (.int .i64 n) false).run P w = .ok (.bool (decide (n ∈ K))) w := by
  obtain ⟨E, clk, h1, h2⟩ := h
  rw [run_lookQ ht hk hz _ _ h1, h2.find, if_neg (by decide)]
  by_cases hn : n ∈ K
  · rw [if_pos hn, decide_eq_true hn]; rfl
  · rw [if_neg hn, decide_eq_false hn]; rfl
theorem SetAt.len (h : SetAt w b K) {e : TypeId} (ht : P.underlying t = some (.map k e)) (T : TypeId) : (Builtin.len_ #[t] T #[.map (some b)]).run P w = .ok (.int .i64 K.length) w := by
  obtain ⟨E, clk, h1, h2⟩ := h
  rw [run_lenQ ht T h1, h2.len]
theorem SetAt.put (h : SetAt w b K) {e : TypeId} (ht : P.underlying t = some (.map k e)) (hk : P.underlying k = some (.int .i64)) (n : Nat) :
    ∃ w', (Instr.mapUpdate t (.map (some b)) (.int .i64 n) (.bool true)).run P w = .ok () w' ∧ SetAt w' b (addK K n) ∧ Only (· = b) w w' := by
  have hb := h.lt
  obtain ⟨E, clk, h1, h2⟩ := h
  by_cases hn : n ∈ K
  · obtain ⟨r, hr1, hr2⟩ := findNow_Q .i64 (n : Int) E 0
    rcases hr2 with ⟨-, h3⟩ | ⟨d, hd, -, h3, h4⟩
    · obtain ⟨x, hx, h5⟩ := h2.mem.1 hn
      exact absurd h5 (h3 x hx)
    · refine ⟨_, run_putQ_old ht hk _ _ h1 hd h3 h4, ?_, (Only.refl _ _).putObj b _ rfl⟩
      have he : E.set d ((n : Int), .bool true, E[d].2.2) = E := by
        have : ((n : Int), Value.bool true, E[d].2.2) = E[d] := by
          rw [← h3, ← h2.val E[d] (List.getElem_mem hd)]
        rw [this, List.set_getElem_self]
      rw [he]
      unfold addK
      rw [if_pos hn]
      exact ⟨E, clk, World.putObj_heap_same hb, h2⟩
  · refine ⟨_, run_putQ_new ht hk _ _ h1 (fun e he h3 => hn (h2.mem.2 ⟨e, he, h3⟩)), ?_, (Only.refl _ _).putObj b _ rfl⟩
    unfold addK
    rw [if_neg hn]
    exact ⟨_, _, World.putObj_heap_same hb, h2.add hn⟩
end
section
variable {P : Program} {o : Oper} {a : Act} {w : World} {ops : Array Oper} {rest : List Oper} {Q : Exit → Act → World → Prop}
theorem exec_lookS (t k e : TypeId) (x y : Operand) (ho : o.op = .lookup t x y false) (ht : P.underlying t = some (.map k e)) (hk : P.underlying k = some (.int .i64)) (hz : ∀ w, (zeroValue e).run P w = .ok (.bool false) w) (b n : Nat) (K : List Nat)
    (hx : a.eval x = .map (some b)) (hy : a.eval y = .int .i64 n) (h : SetAt w b K) : (execOp a.eval o).run P w = .ok (.value (.bool (decide (n ∈ K)))) w := by
  unfold execOp
  simp only [ho, hx, hy, Sem.run_bind, h.look ht hk hz n, Result.andThen_ok, Sem.run_pure]
theorem exec_lenS (t k e : TypeId) (x : Operand) (ho : o.op = .call { callee := .builtin .len, args := #[x], argTypes := #[t] }) (ht : P.underlying t = some (.map k e)) (b : Nat) (K : List Nat) (hx : a.eval x = .map (some b)) (h : SetAt w b K) :
    (execOp a.eval o).run P w = .ok (.value (.int .i64 K.length)) w := by
  unfold execOp
  simp only [ho, resolve, invoke, builtin, Sem.run_bind, Sem.run_pure, Result.andThen_ok, List.map_toArray, List.map_cons, List.map_nil, hx, h.len ht]
theorem wpList_putS (hgd : o.guard = none) (t k e : TypeId) (x y z : Operand) (ho : o.op = .mapUpdate t x y z) (ht : P.underlying t = some (.map k e)) (hk : P.underlying k = some (.int .i64)) (b n : Nat) (K : List Nat) (hx : a.eval x = .map (some b)) (hy : a.eval y = .int .i64 n) (hz : a.eval z = .bool true) (hS : SetAt w b K)
    (h : ∀ w', SetAt w' b (addK K n) → Only (· = b) w w' → wpList P ops Q rest (a.put o.dst undef) w') : wpList P ops Q (o :: rest) a w := by
  refine wpList_plain hgd fun _ hK => ?_
  obtain ⟨w', h1, h2, h3⟩ := hS.put ht hk n
  unfold Oper.wp execOp
  simp only [ho, hx, hy, hz, Sem.run_bind, h1, Result.andThen_ok, Sem.run_pure]
  exact hK _ _ (h w' h2 h3)
theorem wpList_delQ (hgd : o.guard = none) (t k e : TypeId) (x y : Operand) (ho : o.op = .call { callee := .builtin .delete, args := #[x, y], argTypes := #[t, k] }) (ht : P.underlying t = some (.map k e)) (hk : P.underlying k = some (.int .i64)) (b : Nat) (n : Int) (E : List (Int × Value × Nat)) (clk : Nat) (hx : a.eval x = .map (some b)) (hy : a.eval y = .int .i64 n) (hb : w.heap[b]? = some (mapQ .i64 E clk)) (hn : (E.map (·.1)).Nodup)
    (h : wpList P ops Q rest (a.put o.dst (.tuple #[])) (w.putObj b (mapQ .i64 (E.filter fun e => decide (e.1 ≠ n)) clk))) : wpList P ops Q (o :: rest) a w := by
  refine wpList_plain hgd fun _ hK => ?_
  unfold Oper.wp execOp
  simp only [ho, resolve, invoke, builtin, Sem.run_bind, Sem.run_pure, Result.andThen_ok, List.map_toArray, List.map_cons, List.map_nil, hx, hy, run_delQ ht hk n hb hn]
  exact hK _ _ h
end
/-- How many stamps an iterator has handed out. -/
def seenQ (W : World) (it : Nat) : Nat := match W.heap[it]? with | some (.mapIter _ _ s _) => s.size | _ => 0
theorem seenQ_eq {W : World} {it b clk : Nat} {S : List Nat} (h : W.heap[it]? = some (itQ b clk S)) : seenQ W it = S.length := by
  unfold seenQ; rw [h]; simp [itQ]
theorem stamps_le {E : List (Int × Value × Nat)} {S : List Nat} (hn : S.Nodup) (hs : ∀ s ∈ S, ∃ e ∈ E, e.2.2 = s) : S.length ≤ E.length := by
  have := hn.length_le_of_subset (l₂ := E.map (·.2.2)) fun s h => by
    obtain ⟨e, he, h2⟩ := hs s h
    exact List.mem_map.2 ⟨e, he, h2⟩
  simpa using this
theorem stamps_lt {E : List (Int × Value × Nat)} {S : List Nat} (hn : S.Nodup) (hs : ∀ s ∈ S, ∃ e ∈ E, e.2.2 = s) {e : Int × Value × Nat} (he : e ∈ E) (h : e.2.2 ∉ S) : S.length < E.length := by
  have := stamps_le (E := E) (S := e.2.2 :: S) (List.nodup_cons.2 ⟨h, hn⟩) (fun s hs2 => by
    rcases List.mem_cons.1 hs2 with rfl | h2
    · exact ⟨e, he, rfl⟩
    · exact hs s h2)
  simp at this
  omega
/-- What is left of a set while some of it goes: what has not come, and what stays. -/
def leftP (S Ks : List Nat) (e : Int × Value × Nat) : Bool := decide (e.2.2 ∉ S) || decide (e.1.toNat ∈ Ks)
theorem nodup_inj {α β : Type} {f : α → β} : ∀ {l : List α}, (l.map f).Nodup → ∀ {x y}, x ∈ l → y ∈ l → f x = f y → x = y
  | [], _, _, _, h, _, _ => by cases h
  | a :: l, hn, x, y, hx, hy, e => by
    rw [List.map_cons, List.nodup_cons] at hn
    rcases List.mem_cons.1 hx with e1 | hx2
    · rcases List.mem_cons.1 hy with e2 | hy2
      · rw [e1, e2]
      · exact absurd (List.mem_map.2 ⟨y, hy2, by rw [← e, e1]⟩) hn.1
    · rcases List.mem_cons.1 hy with e2 | hy2
      · exact absurd (List.mem_map.2 ⟨x, hx2, by rw [e, e2]⟩) hn.1
      · exact nodup_inj hn.2 hx2 hy2 e
theorem left_stay {E : List (Int × Value × Nat)} {clk : Nat} {K S Ks : List Nat} (h : SetE E clk K) {e : Int × Value × Nat} (he : e ∈ E) (hk : e.1.toNat ∈ Ks) : E.filter (leftP (S ++ [e.2.2]) Ks) = E.filter (leftP S Ks) := List.filter_congr fun x hx => by
  unfold leftP
  by_cases hs : x.2.2 = e.2.2
  · have := nodup_inj h.sn hx he hs
    subst this
    simp [hk]
  · simp [hs]
theorem left_go {E : List (Int × Value × Nat)} {clk : Nat} {K S Ks : List Nat} (h : SetE E clk K) {e : Int × Value × Nat} (he : e ∈ E) (hk : e.1.toNat ∉ Ks) (hS : e.2.2 ∉ S) : (E.filter (leftP S Ks)).filter (fun x => decide (x.1 ≠ e.1)) = E.filter (leftP (S ++ [e.2.2]) Ks) := by
  rw [List.filter_filter]
  refine List.filter_congr fun x hx => ?_
  unfold leftP
  by_cases hs : x.2.2 = e.2.2
  · have := nodup_inj h.sn hx he hs
    subst this
    simp [hk]
  · have hne : ¬ x.1 = e.1 := fun h2 => hs (by rw [nodup_inj h.keyNd hx he h2])
    simp [hs, hne]
theorem left_all {E : List (Int × Value × Nat)} {S Ks : List Nat} (h : ∀ e ∈ E.filter (leftP S Ks), e.2.2 ∈ S) : E.filter (leftP S Ks) = E.filter fun e => decide (e.1.toNat ∈ Ks) := List.filter_congr fun x hx => by
  have hS : x.2.2 ∈ S := by
    by_cases hs : x.2.2 ∈ S
    · exact hs
    · exact h x (List.mem_filter.2 ⟨hx, by unfold leftP; simp [hs]⟩)
  unfold leftP
  simp [hS]
end Go.Proofs.YtijkdabmegbcjaaGreatDoor
