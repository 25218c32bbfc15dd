/- Texts of this claim, merged; no condition. -/
import Derived.Test.YtijkdabmegbcjaaGreatDoorT28
import Derived.Test.YtijkdabmegbcjaaGreatDoorT14
import Derived.Test.YtijkdabmegbcjaaGreatDoorT12
import Derived.Test.YtijkdabmegbcjaaGreatDoorT17
import Derived.Test.YtijkdabmegbcjaaGreatDoorTA
set_option linter.all false
namespace Go.Proofs.YtijkdabmegbcjaaGreatDoor
section
open Go.RowKit Go.Shelf
theorem IntsAt.only0 {O : Nat → Prop} {w w' : World} {a : Option Addr} {c : Nat} {l : List Nat} (h : IntsAt w a c l) (ho : Only O w w') (ha : l ≠ [] → ∀ x, a = some x → ¬ O x.block) : IntsAt w' a c l := by
  by_cases h0 : l = []
  · subst h0; exact ⟨fun i hi => absurd hi (by simp [natI]), h.nil⟩
  · exact h.only ho (ha h0)
theorem IntsAt.lt {w : World} {a : Option Addr} {c : Nat} {l : List Nat} (h : IntsAt w a c l) (h0 : l ≠ []) {x : Addr} (hx : a = some x) : x.block < w.heap.size := by
  obtain ⟨b, o', e, hc⟩ := h.get (i := 0) (List.length_pos_iff.2 h0)
  rw [e] at hx; cases hx
  exact cell_lt hc
def OwnK (w0 w : World) (v : Value) (bs : List BlkN) : Prop :=
  ∃ C : Nat → List Value, w.ownsRow w0.heap.size 51 4 v bs.length ((List.range bs.length).flatMap C) ∧ (∀ j, (C j).length = 4) ∧
    ∀ j (h : j < bs.length), ∃ p q, C j = blkC p q bs[j] ∧ IntsAt w p q bs[j].next ∧ (bs[j].next ≠ [] → ∀ x, p = some x → w0.heap.size ≤ x.block ∧ v.ownBlock ≠ some x.block)
theorem OwnK.nil (w0 w : World) : OwnK w0 w (.slice none 0 0) [] := ⟨fun _ => blkC none 0 blk0, ⟨rfl, .inl ⟨rfl, rfl⟩⟩, fun _ => rfl, fun j h => absurd h (by simp)⟩
theorem OwnK.below {w0 w w' : World} {v : Value} {bs : List BlkN} (h : OwnK w0 w v bs) (hb : Below w.heap.size w w') : OwnK w0 w' v bs := by
  obtain ⟨C, h1, h2, h3⟩ := h
  refine ⟨C, own_keep h1 hb, h2, fun j hj => ?_⟩
  obtain ⟨p, q, e, k1, k2⟩ := h3 j hj
  exact ⟨p, q, e, k1.below hb, k2⟩
theorem grown_only {w w' : World} {v : Value} (hg : w.grownBy w' v.ownBlock) : Only (fun k => v.ownBlock = some k) w w' := ⟨hg.os, hg.tape, hg.output, hg.size, fun k hk ho => hg.block k hk (fun e => ho e.symm)⟩
theorem OwnK.own {w0 w : World} {v : Value} {bs : List BlkN} (h : OwnK w0 w v bs) : ∃ xs, w.ownsRow w0.heap.size 51 4 v bs.length xs ∧ ∀ w' v' (bn : BlkN) (p : Option Addr) (q : Nat), w'.ownsRow w0.heap.size 51 4 v' (bs.length + 1) (xs ++ blkC p q bn) → w.grownBy w' v.ownBlock →
    (v'.ownBlock = v.ownBlock ∨ ∀ k, v'.ownBlock = some k → w.heap.size ≤ k) → IntsAt w p q bn.next → (bn.next ≠ [] → ∀ x, p = some x → w0.heap.size ≤ x.block ∧ v.ownBlock ≠ some x.block) → OwnK w0 w' v' (bs ++ [bn]) := by
  obtain ⟨C, h1, h2, h3⟩ := h
  refine ⟨_, h1, fun w' v' bn p q o hg hv hI hp => ?_⟩
  have key : ∀ (b : BlkN) (p' : Option Addr) (q' : Nat), IntsAt w p' q' b.next → (b.next ≠ [] → ∀ x, p' = some x → w0.heap.size ≤ x.block ∧ v.ownBlock ≠ some x.block) →
      IntsAt w' p' q' b.next ∧ (b.next ≠ [] → ∀ x, p' = some x → w0.heap.size ≤ x.block ∧ v'.ownBlock ≠ some x.block) := fun b p' q' k1 k2 =>
    ⟨k1.only0 (grown_only hg) fun h0 x hx => (k2 h0 x hx).2, fun h0 x hx => ⟨(k2 h0 x hx).1, fun e => by
      rcases hv with hv | hv
      · exact (k2 h0 x hx).2 (hv.symm.trans e)
      · have := hv _ e; have := k1.lt h0 hx; omega⟩⟩
  refine ⟨updC C bs.length (blkC p q bn), ?_, fun j => ?_, fun j hj => ?_⟩
  · rw [List.length_append, List.length_singleton, List.range_succ, List.flatMap_append]
    have e : (List.range bs.length).flatMap (updC C bs.length (blkC p q bn)) = (List.range bs.length).flatMap C := by
      rw [List.flatMap_def, List.flatMap_def, List.map_congr_left fun j hj => ?_]
      unfold updC
      rw [if_neg (by have := List.mem_range.1 hj; omega)]
    rw [e]
    simpa [updC] using o
  · unfold updC; split
    · rfl
    · exact h2 j
  · by_cases e : j = bs.length
    · subst e
      simp only [List.getElem_append_right (Nat.le_refl _), Nat.sub_self, List.getElem_cons_zero]
      exact ⟨p, q, by unfold updC; rw [if_pos rfl], key bn p q hI hp⟩
    · have hj' : j < bs.length := by simp at hj; omega
      obtain ⟨p', q', e', k1, k2⟩ := h3 j hj'
      rw [List.getElem_append_left hj']
      exact ⟨p', q', by unfold updC; rw [if_neg e]; exact e', key _ _ _ k1 k2⟩
theorem OwnK.lt {w0 w : World} {v : Value} {bs : List BlkN} (h : OwnK w0 w v bs) {k : Nat} (hk : v.ownBlock = some k) : w0.heap.size ≤ k ∧ k < w.heap.size := by
  obtain ⟨C, h1, -⟩ := h
  exact own_lt h1 hk
theorem OwnK.base {w w1 w' : World} {v : Value} {bs : List BlkN} (h : OwnK w1 w' v bs) (hs : w.heap.size ≤ w1.heap.size) : OwnK w w' v bs := by
  obtain ⟨C, h1, h2, h3⟩ := h
  refine ⟨C, own_base h1 hs, h2, fun j hj => ?_⟩
  obtain ⟨p, q, e, k1, k2⟩ := h3 j hj
  exact ⟨p, q, e, k1, fun h0 x hx => ⟨Nat.le_trans hs (k2 h0 x hx).1, (k2 h0 x hx).2⟩⟩
theorem OwnK.rows {w0 w : World} {v : Value} {bs : List BlkN} (h : OwnK w0 w v bs) : ∃ a c, v = .slice a bs.length c ∧ (a = none → c = 0) ∧ ∀ i (hi : i < bs.length), ∃ b o p q, a = some ⟨b, o, none⟩ ∧ w.rangeAt b (o + i * 4) (blkC p q bs[i]) ∧ IntsAt w p q bs[i].next ∧ (bs[i].next ≠ [] → ∀ x, p = some x → w0.heap.size ≤ x.block) := by
  obtain ⟨C, h1, h2, h3⟩ := h
  obtain ⟨a, c, rfl, hr, hn, hx, hl, h0⟩ := rowV_own h1
  refine ⟨a, c, rfl, hn, fun i hi => ?_⟩
  obtain ⟨p, q, e, k1, k2⟩ := h3 i hi
  have hlen := flat_len 4 C h2 (List.range bs.length)
  rw [List.length_range] at hlen
  have hi4 : ∀ j, j < 4 → i * 4 + j < ((List.range bs.length).flatMap C).length := fun j hj => by rw [hlen]; omega
  obtain ⟨b, o, rfl, -⟩ := hr (i * 4 + 0) (hi4 0 (by omega))
  refine ⟨b, o, p, q, rfl, fun j u hj => ?_, k1, fun h0 x hx => (k2 h0 x hx).1⟩
  have hj4 : j < 4 := (List.getElem?_eq_some_iff.1 hj).1
  obtain ⟨b', o', e', hc⟩ := hr (i * 4 + j) (hi4 j hj4)
  cases e'
  have hg := flat_get 4 C h2 (List.range bs.length) i j (by rw [List.length_range]; exact hi) hj4
  rw [List.getElem_range, e, hj] at hg
  obtain ⟨hlt, he⟩ := List.getElem?_eq_some_iff.1 hg
  rw [Nat.add_assoc, hc, he]
theorem blk_news (w : World) (T : TypeId) (vs : List Value) : ∀ (j : Nat) (u : Value), vs[j]? = some u → (w.alloc (.cells vs.toArray T)).cell? ((⟨w.heap.size, 0, none⟩ : Addr).add j) = some u := fun j u hj => by
  have := (BlkG.new w T vs).range j u hj
  have e : (⟨w.heap.size, 0, none⟩ : Addr).add j = ⟨w.heap.size, 0 + j, none⟩ := by
    unfold Addr.add
    split
    · rename_i h; subst h; rfl
    · rfl
  rw [e]; exact this
set_option maxRecDepth 100000 in
set_option maxHeartbeats 4000000 in
theorem blocks_own (cs : List Nat) (a : Option Addr) (c : Nat) (w : World) (h : CodeAt w a c cs) :
    Calls Tryz.prog 14 #[.slice a cs.length c] w fun e w' => (∃ v, e = .returned v ∧ OwnK w w' v (blksN cs)) ∧ Below w.heap.size w w' := by
  have hmade := qh (made_any cs a c w h)
  have hgl : (grps cs).length ≤ 200 := by have := grps_len cs; have := h.len; omega
  obtain ⟨i0, hi0, hz0, hz1, hz2⟩ := info_parts info_blk
  replace h := qh h
  go_enter Tryz.func14, Tryz.ntmps14
  go_wp2_with (go_at_call 41; refine hmade.out.mono ?_; rintro e w1 ⟨⟨cb, rfl, hC, hcb⟩, hb1⟩; obtain ⟨po, qo, pb, qb, hCut, hOps, hGrp, hnil⟩ := hC; have hc1 : w1.cell? ⟨cb, 2, none⟩ = some (.slice pb (grps cs).length qb) := (by simpa using hCut.range 2 _ rfl); replace hCut := qh hCut; replace hOps := qh hOps; replace hGrp := qh hGrp; replace hb1 := qh hb1)
  go_loopw [2, 13] (fun v iv wx => ∃ i : Nat, i ≤ (grps cs).length ∧ iv = .int .i64 i ∧ Hid (OwnK w1 wx v ((blksN cs).take i)) ∧ Hid (Below w1.heap.size w1 wx)) (fun _ iv _ => (grps cs).length - (intOf iv).toNat)
  case atStart => exact ⟨0, by omega, rfl, qh (OwnK.nil _ _), qh (xrefl _)⟩
  case round =>
    obtain ⟨i, hi, rfl, hO, hb⟩ := hrel
    by_cases hlt : i < (grps cs).length
    · have hltI : (i : Int) < (grps cs).length := by omega
      have hbl : (blksN cs).length = (grps cs).length := by unfold blksN; rw [List.length_map]
      have htk : Hid ((blksN cs).take (i + 1) = (blksN cs).take i ++ [blkN cs (grps cs)[i]]) := qh (by rw [List.take_add_one, List.getElem?_eq_getElem (by omega)]; simp [blksN])
      have hli : ((blksN cs).take i).length = i := by rw [List.length_take]; omega
      obtain ⟨b, o, p, q, rfl, hcg, hog⟩ := hGrp.out i hlt
      have hcg2 : wr.cell? ⟨b, o + i, none⟩ = some (.slice p (grps cs)[i].length q) := cbel hb.out hcg
      have hblock := qh (block_any cs (grps cs)[i] a po p c qo q cb _ wr (h.out.below (xtrans hb1.out hb.out)) (hCut.out.below hb.out) (hOps.out.below hb.out) (hog.below hb.out) (List.getElem_mem hlt))
      have hT := qh hbl
      generalize (blksN cs).take i = T at *
      generalize blkN cs (grps cs)[i] = B at *
      generalize (grps cs)[i].length = gl at *
      have hw0 : w1.heap.size ≤ wr.heap.size := hb.out.size
      have hblock2 : Hid (Calls Tryz.prog 42 #[.pointer (some ⟨cb, 0, none⟩), .slice p gl q] wr fun e w' => (∃ p' q', e = .returned (.agg #[.int .i64 B.first, .int .i64 B.last, .slice p' B.next.length q', .bool B.exit]) ∧ IntsAt w' p' q' B.next ∧ ∀ x, p' = some x → wr.heap.size ≤ x.block) ∧ Below wr.heap.size wr w') := qh hblock.out
      have hq1 : T.length + 1 ≤ maxLen := by rw [hli]; unfold maxLen; omega
      have hq2 : (T.length + 1) * 48 ≤ 140737488355328 := by rw [hli]; omega
      clear hblock
      replace hcg := qh hcg
      replace hog := qh hog
      have hwi : IntKind.i64.wrap ((i : Int) + 1) = (i : Int) + 1 := by simp [IntKind.wrap, IntKind.bits, IntKind.signed]; omega
      go_wp2_with (first
        | (at_builtin; refine wpList_append_blkV (w2.alloc (.cells #[.int .i64 B.first, .int .i64 B.last, .slice y B.next.length qy, .bool B.exit] 51)) rfl _ _ 25 rfl w1.heap.size 51 i0 (blkV none 0 blk0) 4 48 Tryz.underlying25 hi0 hz0 hz1 hz2 rfl (by decide) u2 T.length xs rfl hxs.out ⟨w2.heap.size, 0, none⟩ 1 1 [.int .i64 B.first, .int .i64 B.last, .slice y B.next.length qy, .bool B.exit] rfl rfl (blk_news w2 51 [.int .i64 B.first, .int .i64 B.last, .slice y B.next.length qy, .bool B.exit]) (by simp [Value.oneCell']) hq1 hq2 (by rw [World.size_alloc]; exact Nat.le_succ_of_le hsz2) ?_; intro v8 w8 ho8 hg8 hv8; have hO8 := qh (hnew.out w8 v8 B y qy ho8 hg8 hv8 (hI2.out.below (xalloc (xrefl w2) _)) (fun _ x hx => ⟨Nat.le_trans hw0 (hx2.out x hx), fun e => by have := hlt2.out _ e; have := hx2.out x hx; omega⟩)); have hb8 := qh ((xalloc hb2.out _).grown hg8 (by rw [World.size_alloc]; omega) (fun j hj => hlow.out _ hj)))
        | go_at_call 42; refine hblock2.out.mono ?_; rintro e w2 ⟨⟨y, qy, rfl, hI2, hx2⟩, hb2⟩; obtain ⟨xs, hxs, hnew⟩ := ((hO.out.below hb2).below (xalloc (xrefl w2) (.cells #[.int .i64 B.first, .int .i64 B.last, .slice y B.next.length qy, .bool B.exit] 51))).own; have hlt2 := qh (fun k (e : u2.ownBlock = some k) => (hO.out.lt e).2); replace hxs := qh hxs; replace hnew := qh hnew; have hsz2 := Nat.le_trans hw0 hb2.size; have hlow := qh (fun k (e : u2.ownBlock = some k) => (hO.out.lt e).1); replace hb2 := qh (xtrans hb.out hb2); replace hI2 := qh hI2; replace hx2 := qh hx2)
      exact ⟨⟨i + 1, by omega, by go_num, by rw [htk.out]; exact hO8, hb8⟩, by simp [intOf]; omega⟩
    · obtain rfl : i = (grps cs).length := by omega
      have hT : (blksN cs).take (grps cs).length = blksN cs := List.take_of_length_le (by unfold blksN; rw [List.length_map]; exact Nat.le_refl _)
      rw [hT] at hO
      clear hlt hT
      go_wp2
      go_ret
      exact ⟨⟨_, rfl, hO.out.base hb1.out.size⟩, xtrans hb1.out hb.out⟩
end
section
open Go.RowKit Go.Shelf
theorem fixedZ_found {cs : List Nat} {n : Int} {i : Nat} (hi : i < (grps cs).length) (hp : ∀ j (h : j < i), ((lstN ((grps cs)[j]'(by omega)) : Nat) : Int) ≠ n) (e : ((lstN (grps cs)[i] : Nat) : Int) = n) : fixedZ cs n = fixG cs (grps cs)[i] := by
  subst e
  rw [fixedZ_nat]
  unfold fixedN
  have : (grps cs).find? (fun g => decide (lstN g = lstN (grps cs)[i])) = some (grps cs)[i] := by
    rw [List.find?_eq_some_iff_getElem]
    refine ⟨by simp, i, hi, rfl, fun j hj => ?_⟩
    have := hp j hj
    simp
    omega
  rw [this]
theorem fixedZ_no {cs : List Nat} {n : Int} (hp : ∀ j (h : j < (grps cs).length), ((lstN (grps cs)[j] : Nat) : Int) ≠ n) : fixedZ cs n = none := by
  unfold fixedZ
  split
  · rename_i h0
    obtain ⟨k, rfl⟩ := Int.eq_ofNat_of_zero_le h0
    unfold fixedN
    have : (grps cs).find? (fun g => decide (lstN g = ((k : Int)).toNat)) = none := by
      rw [List.find?_eq_none]
      intro g hg
      obtain ⟨j, hj, rfl⟩ := List.getElem_of_mem hg
      have := hp j hj
      simp
      omega
    rw [this]
  · rfl
theorem atZ_found {cs : List Nat} {n : Int} {i : Nat} (hi : i < (grps cs).length) (e : inN (grps cs)[i] n = true) : atZ cs n = some (fstN (grps cs)[i]) := by
  unfold inN at e
  rw [List.any_eq_true] at e
  obtain ⟨x, hx, e⟩ := e
  rw [beq_iff_eq] at e
  subst e
  exact atZ_in (List.getElem_mem hi) hx
theorem atZ_no {cs : List Nat} {n : Int} (hp : ∀ j (h : j < (grps cs).length), inN (grps cs)[j] n = false) : atZ cs n = none := by
  refine atZ_out ?_
  cases h : inN (opsL cs) n with
  | false => rfl
  | true =>
    obtain ⟨k, hk, rfl⟩ := inN_true h
    obtain ⟨g, hg, hkg⟩ := grp_of_op hk
    obtain ⟨j, hj, rfl⟩ := List.getElem_of_mem hg
    have := hp j hj
    rw [inN_nat, decide_eq_false_iff_not] at this
    exact absurd hkg this
set_option maxRecDepth 100000 in
set_option maxHeartbeats 4000000 in
theorem fixed_any (cs : List Nat) (n : Int) (a : Option Addr) (c : Nat) (w : World) (h : CodeAt w a c cs) :
    Calls Tryz.prog 18 #[.slice a cs.length c, .int .i64 n] w fun e w' => e = .returned (optV (fixedZ cs n)) ∧ Below w.heap.size w w' := by
  have hgl : (grps cs).length ≤ 200 := by have := grps_len cs; have := h.len; omega
  have hR0 : Hid (BlkG (w.alloc (.cells #[.int .u64 0, .int .u64 0, .int .u64 0, .int .u64 0] 32)) w.heap.size 32 [.int .u64 0, .int .u64 0, .int .u64 0, .int .u64 0]) := qh (BlkG.new w _ [.int .u64 0, .int .u64 0, .int .u64 0, .int .u64 0])
  have hb0 : Hid (Below w.heap.size w (w.alloc (.cells #[.int .u64 0, .int .u64 0, .int .u64 0, .int .u64 0] 32))) := qh (xalloc (xrefl _) _)
  have hmade := qh (made_any cs a c _ (h.below hb0.out))
  have hu := Tryz.underlying32
  replace h := qh h
  go_enter Tryz.func18, Tryz.ntmps18
  go_wp2_with (go_at_call 41; refine hmade.out.mono ?_; rintro e w1 ⟨⟨cb, rfl, hC, hcb⟩, hb1⟩; obtain ⟨po, qo, pb, qb, hCut, hOps, hGrp, hnil⟩ := hC; have hc1 : w1.cell? ⟨cb, 2, none⟩ = some (.slice pb (grps cs).length qb) := (by simpa using hCut.range 2 _ rfl); have hct := qh (show w1.cell? ⟨cb, 0, none⟩ = some (.slice a cs.length c) ∧ w1.cell? ⟨cb, 1, none⟩ = some (.slice po (opsL cs).length qo) from ⟨by simpa using hCut.range 0 _ rfl, by simpa using hCut.range 1 _ rfl⟩); replace hCut := qh hCut; replace hOps := qh hOps; replace hGrp := qh hGrp; replace hR0 := qh (hR0.out.below hb1); replace hb1 := qh (xtrans hb0.out hb1))
  go_loopw [16] (fun iv wx => ∃ i : Nat, i ≤ (grps cs).length ∧ iv = .int .i64 i ∧ Hid (∀ j (h : j < i) (h2 : j < (grps cs).length), ((lstN (grps cs)[j] : Nat) : Int) ≠ n) ∧ Hid (BlkG wx w.heap.size 32 [.int .u64 0, .int .u64 0, .int .u64 0, .int .u64 0]) ∧ Hid (Below w1.heap.size w1 wx)) (fun iv _ => (grps cs).length - (intOf iv).toNat)
  case atStart => exact ⟨0, by omega, rfl, qh (fun j h => absurd h (by omega)), hR0, qh (xrefl _)⟩
  case round =>
    clear hR0
    obtain ⟨i, hi, rfl, hN, hR0, hb⟩ := hrel
    by_cases hlt : i < (grps cs).length
    · have hltI : (i : Int) < (grps cs).length := by omega
      have hgm := List.getElem_mem hlt
      have hne := grps_ne hgm
      have hgc : ∀ x ∈ (grps cs)[i], x < cs.length := fun x hx => opsL_lt (grps_mem hgm hx)
      have hgl5 : (grps cs)[i].length ≤ 200 := by have := nodup_le (grps_sl hgm).nodup hgc; have := h.out.len; omega
      obtain ⟨b, o, p, q, rfl, hcg, hog⟩ := hGrp.out i hlt
      have hcg2 : wr.cell? ⟨b, o + i, none⟩ = some (.slice p (grps cs)[i].length q) := cbel hb.out hcg
      have hc6 : wr.cell? ⟨cb, 0, none⟩ = some (.slice a cs.length c) := cbel hb.out hct.out.1
      have hc7 : wr.cell? ⟨cb, 1, none⟩ = some (.slice po (opsL cs).length qo) := cbel hb.out hct.out.2
      have hfix := qh (fixedT_any cs (grps cs)[i] a po p c (opsL cs).length qo q wr (h.out.below (xtrans hb1.out hb.out)) (hog.below hb.out) hne hgl5 hgc)
      obtain ⟨n1, hn1⟩ : ∃ n1, (grps cs)[i].length = n1 + 1 := ⟨(grps cs)[i].length - 1, by have := List.length_pos_iff.2 hne; omega⟩
      have hn2 : n1 ≤ 199 := by omega
      obtain ⟨gb, go, rfl, hgr⟩ := hog.elt n1 (by omega)
      rw [← lst_at hn1] at hgr
      have hl0 : wr.cell? ⟨gb, go + n1 * 2, none⟩ = some (.int .i64 (lstN (grps cs)[i])) := cbel hb.out (hgr 0 _ rfl)
      have hfd : Hid (((lstN (grps cs)[i] : Nat) : Int) = n → fixedZ cs n = fixG cs (grps cs)[i]) := qh (fixedZ_found hlt fun j hj => hN.out j hj (by omega))
      have hwm : IntKind.i64.wrap (n1 : Int) = n1 := by simp [IntKind.wrap, IntKind.bits, IntKind.signed]; omega
      have hml : (n1 : Int) < (n1 : Int) + 1 := by omega
      have hwi : IntKind.i64.wrap ((i : Int) + 1) = (i : Int) + 1 := by simp [IntKind.wrap, IntKind.bits, IntKind.signed]; omega
      have hN1 : Hid ((lstN (grps cs)[i] : Int) ≠ n → ∀ j (h : j < i + 1) (h2 : j < (grps cs).length), ((lstN (grps cs)[j] : Nat) : Int) ≠ n) := qh fun hne j hj h2 => by
        by_cases e : j = i
        · subst e; exact hne
        · exact hN.out j (by omega) h2
      rw [hn1] at hfix hcg2
      clear hgr hn1 hgm hne hgc hgl5
      replace hog := qh hog
      replace hcg := qh hcg
      generalize lstN (grps cs)[i] = l at *
      generalize fixG cs (grps cs)[i] = G at *
      by_cases hln : (l : Int) = n
      · have hfz := qh (hfd.out hln)
        have hfix2 : Hid (Calls Tryz.prog 50 #[.agg #[.slice a cs.length c, .slice po (opsL cs).length qo], .slice (some ⟨gb, go, none⟩) (n1 + 1) q] wr fun e w' => e = .returned (.tuple #[.agg ((wordL (G.getD 0)).map (Value.int .u64)).toArray, .bool G.isSome]) ∧ Below wr.heap.size wr w') := qh hfix.out
        have hLo : Hid ((wordL (G.getD 0)).map (Value.int .u64) = [.int .u64 (limb (G.getD 0) 0), .int .u64 (limb (G.getD 0) 1), .int .u64 (limb (G.getD 0) 2), .int .u64 (limb (G.getD 0) 3)]) := qh rfl
        clear hfd hfix hN1
        go_wp2_with (first
          | (go_at_call 50; refine hfix2.out.mono ?_; rintro e w2 ⟨rfl, hb2⟩; have hR2 := qh (hR0.out.below hb2); replace hb2 := qh (xtrans hb1.out (xtrans hb.out hb2)))
          | (refine wpList_store_blkG rfl 32 _ _ rfl w.heap.size rfl 32 _ ((wordL (G.getD 0)).map (Value.int .u64)) hR2.out rfl rfl (by kernel_rfl) rfl ?_; intro w6 hX6 ho6; replace hX6 := qh hX6; have hb7 := qh (ho6.below hb2.out hb2.out.size (by rintro k rfl; omega)); clear ho6))
        exact bodyPost_ret (results_blkG2 (p := 4) rfl _ _ w.heap.size 32 _ _ rfl hX6.out hu rfl (by kernel_rfl)) rfl ⟨by rw [hfz.out]; rfl, hb7.out⟩
      · have hlb : ((l : Int) == n) = false := by simpa using hln
        replace hN1 := qh (hN1.out hln)
        clear hfd hfix
        go_wp2
        exact ⟨⟨i + 1, by omega, by go_num, hN1, hR0, hb⟩, by simp [intOf]; omega⟩
    · obtain rfl : i = (grps cs).length := by omega
      have hfz := qh (fixedZ_no fun j hj => hN.out j hj hj)
      clear hlt
      have hb2 := qh (xtrans hb1.out hb.out)
      go_wp2_with (refine wpList_store_blkG rfl 32 _ _ rfl w.heap.size rfl 32 _ [.int .u64 0, .int .u64 0, .int .u64 0, .int .u64 0] hR0.out rfl rfl (by kernel_rfl) rfl ?_; intro w6 hX6 ho6; replace hX6 := qh hX6; have hb7 := qh (ho6.below hb2.out hb2.out.size (by rintro k rfl; omega)); clear ho6)
      exact bodyPost_ret (results_blkG2 (p := 4) rfl _ _ w.heap.size 32 _ _ rfl hX6.out hu rfl (by kernel_rfl)) rfl ⟨by rw [hfz.out]; rfl, hb7.out⟩
end
section
open Go.RowKit Go.Shelf
attribute [local go_sem 20000] run_max_big run_min_small
def opOk (cs : List Nat) (i : Nat) : Bool := if byN cs i = 86 ∨ byN cs i = 87 then (fixedN cs i).isSome else (infoN (byN cs i)).quiet
def opT (x : InfoN) : StN := ⟨x.gas, x.gas, -(x.ins : Int), bigF 0 ((x.outs : Int) - x.ins), (x.outs : Int) - x.ins⟩
def opS (cs : List Nat) (i : Nat) : Option StN := if opOk cs i = true then some (opT (infoN (byN cs i))) else none
def StR (r : Option StN) (e : Ending) : Prop := match r with
  | some s => e = .returned (stV s)
  | none => e = .panicked noneP
set_option maxRecDepth 100000 in
set_option maxHeartbeats 4000000 in
theorem op_any (cs : List Nat) (i : Nat) (a : Option Addr) (c : Nat) (w : World) (h : CodeAt w a c cs) (hi : i < cs.length) :
    Calls Tryz.prog 165 #[.agg #[.slice a cs.length c], .int .i64 i, .int .u8 (byN cs i)] w fun e w' => StR (opS cs i) e ∧ Below w.heap.size w w' := by
  have h256 := byN_lt h.ok i
  have hb0 : Below w.heap.size w ((w.alloc (.cells #[.slice a cs.length c] 144)).alloc (.cells #[.int .u64 0, .int .u64 0, .int .i64 0, .int .i64 0, .int .i64 0] 142)) := xalloc (xalloc (xrefl w) _) _
  have hX0 : Hid (BlkG ((w.alloc (.cells #[.slice a cs.length c] 144)).alloc (.cells #[.int .u64 0, .int .u64 0, .int .i64 0, .int .i64 0, .int .i64 0] 142)) w.heap.size 144 [.slice a cs.length c]) := qh ((BlkG.new w _ _).alloc _)
  have hR0 : Hid (BlkG ((w.alloc (.cells #[.slice a cs.length c] 144)).alloc (.cells #[.int .u64 0, .int .u64 0, .int .i64 0, .int .i64 0, .int .i64 0] 142)) (w.heap.size + 1) 142 (stC zeroS)) := qh (by have := BlkG.new (w.alloc (.cells #[.slice a cs.length c] 144)) 142 (stC zeroS); rwa [World.size_alloc] at this)
  have hinf := qh fun W => info_any (byN cs i) W h256
  have hfx := qh fun W (hW : Below w.heap.size w W) => fixed_any cs i a c W (h.below hW)
  have hsm := info_small (byN cs i) h256
  have hu := Tryz.underlying142
  rw [fixedZ_nat] at hfx
  unfold optV wordV at hfx
  unfold opS opOk StR
  replace hb0 := qh hb0
  generalize infoN (byN cs i) = X at *
  generalize namedN (byN cs i) = nm at *
  obtain ⟨nam, ins, outs, gas, quiet, size⟩ := X
  unfold opT
  simp only at hsm ⊢
  unfold infoV at hinf
  simp only at hinf
  have e1 : IntKind.i64.wrap ((outs : Int) - ins) = (outs : Int) - ins := by simp [IntKind.wrap, IntKind.bits, IntKind.signed]; omega
  have e2 : IntKind.i64.wrap (-(ins : Int)) = -(ins : Int) := by simp [IntKind.wrap, IntKind.bits, IntKind.signed]; omega
  have key : ∀ (j q : Bool), (byN cs i = 86 ∨ byN cs i = 87 ↔ j = true) → (if j = true then (fixedN cs i).isSome else quiet) = q → Calls Tryz.prog 165 #[.agg #[.slice a cs.length c], .int .i64 i, .int .u8 (byN cs i)] w fun e w' => (match (if q = true then some (⟨gas, gas, -(ins : Int), bigF 0 ((outs : Int) - ins), (outs : Int) - ins⟩ : StN) else none) with | some s => e = .returned (stV s) | none => e = .panicked noneP) ∧ Below w.heap.size w w' := by
    intro j q hj hq
    generalize fixedN cs i = f at *
    have hnl : Hid (((wordL (f.getD 0)).map (Value.int .u64)).length = 4) := qh rfl
    cases j with
    | true =>
      have hc := hj.2 rfl
      rw [if_pos rfl] at hq
      clear hj h hsm
      rcases hc with hc | hc
      all_goals
        rw [hc] at hinf ⊢
        clear hc h256
        cases hqq : q with
        | true =>
          subst hqq
          rw [hq] at hfx
          replace hq := qh hq
          go_enter Tryz.func165, Tryz.ntmps165
          go_wp2_with (first
            | (go_at_call 107; refine (hinf.out _).mono ?_; rintro e w1 ⟨rfl, hb1⟩; have hX1 := hX0.out.below hb1; have cX1 := hX1.cell 0 (by simp); have hR1 := qh (hR0.out.below hb1); replace hb1 := qh (xtrans hb0.out hb1); replace hX1 := qh hX1)
            | (refine wpList_store_blkG rfl 113 _ _ rfl w1.heap.size rfl 113 info0 [.string ⟨nam.toArray⟩, .int .i64 ins, .int .i64 outs, .int .u64 gas, .bool quiet, .int .i64 size] (BlkG.new w1 _ _) rfl rfl (by kernel_rfl) rfl ?_; intro w2 hI2 ho2; have hb2 := ho2.below (xalloc (xrefl w1) _) (xalloc (xrefl w1) _).size (by rintro k rfl; exact Nat.le_refl _); have cX2 := cbel hb2 cX1; have hR2 := qh (hR1.out.below hb2); replace hb2 := qh (xtrans hb1.out hb2); replace hI2 := qh hI2; clear ho2 cX1 hX1)
            | (go_at_call 18; refine (hfx.out _ hb2.out).mono ?_; rintro e w3 ⟨rfl, hb3⟩; have hR3 := qh (hR2.out.below hb3); have hI3 := qh (hI2.out.below hb3); replace hb3 := qh (xtrans hb2.out hb3); clear cX2)
            | (refine wpList_store_blkG rfl 32 _ _ rfl w3.heap.size rfl 32 [.int .u64 0, .int .u64 0, .int .u64 0, .int .u64 0] ((wordL (f.getD 0)).map (Value.int .u64)) (BlkG.new w3 _ _) rfl rfl (by rw [hnl.out]; kernel_rfl) rfl ?_; intro w4 hI4 ho4; have hb4 := ho4.below (xalloc (xrefl w3) _) (xalloc (xrefl w3) _).size (by rintro k rfl; exact Nat.le_refl _); have hR4 := qh (hR3.out.below hb4); have hJ4 := hI3.out.below hb4; have d1 := hJ4.cell 1 (by simp); have d2 := hJ4.cell 2 (by simp); have d3 := hJ4.cell 3 (by simp); simp only [List.getElem_cons_succ, List.getElem_cons_zero] at d1 d2 d3; replace hb4 := qh (xtrans hb3.out hb4); clear ho4 hI4 hJ4)
            | (go_at_call 100; refine (must_true _).mono ?_; rintro e w' ⟨rfl, rfl⟩)
            | (refine wpList_store_blkG rfl 142 _ _ rfl (w.heap.size + 1) rfl 142 (stC zeroS) [.int .u64 gas, .int .u64 gas, .int .i64 (-(ins : Int)), .int .i64 (bigF 0 ((outs : Int) - ins)), .int .i64 ((outs : Int) - ins)] hR4.out rfl rfl (by kernel_rfl) rfl ?_; intro wA hRA hoA; replace hRA := qh hRA; replace hb4 := qh (hoA.below hb4.out hb4.out.size (by rintro k rfl; omega))))
          exact bodyPost_ret (results_blkG rfl _ _ (w.heap.size + 1) 142 _ _ rfl hRA.out hu rfl (by kernel_rfl)) rfl ⟨rfl, hb4.out⟩
        | false =>
          subst hqq
          rw [hq] at hfx
          replace hq := qh hq
          go_enter Tryz.func165, Tryz.ntmps165
          go_wp2_with (first
            | (go_at_call 107; refine (hinf.out _).mono ?_; rintro e w1 ⟨rfl, hb1⟩; have hX1 := hX0.out.below hb1; have cX1 := hX1.cell 0 (by simp); have hR1 := qh (hR0.out.below hb1); replace hb1 := qh (xtrans hb0.out hb1); replace hX1 := qh hX1)
            | (refine wpList_store_blkG rfl 113 _ _ rfl w1.heap.size rfl 113 info0 [.string ⟨nam.toArray⟩, .int .i64 ins, .int .i64 outs, .int .u64 gas, .bool quiet, .int .i64 size] (BlkG.new w1 _ _) rfl rfl (by kernel_rfl) rfl ?_; intro w2 hI2 ho2; have hb2 := ho2.below (xalloc (xrefl w1) _) (xalloc (xrefl w1) _).size (by rintro k rfl; exact Nat.le_refl _); have cX2 := cbel hb2 cX1; replace hb2 := qh (xtrans hb1.out hb2); clear ho2 cX1 hX1 hI2)
            | (go_at_call 18; refine (hfx.out _ hb2.out).mono ?_; rintro e w3 ⟨rfl, hb3⟩; replace hb3 := qh (xtrans hb2.out hb3); clear cX2)
            | (refine wpList_store_blkG rfl 32 _ _ rfl w3.heap.size rfl 32 [.int .u64 0, .int .u64 0, .int .u64 0, .int .u64 0] ((wordL (f.getD 0)).map (Value.int .u64)) (BlkG.new w3 _ _) rfl rfl (by rw [hnl.out]; kernel_rfl) rfl ?_; intro w4 hI4 ho4; have hb4 := ho4.below (xalloc (xrefl w3) _) (xalloc (xrefl w3) _).size (by rintro k rfl; exact Nat.le_refl _); replace hb4 := qh (xtrans hb3.out hb4); clear ho4 hI4)
            | (go_at_call 100; refine (must_false _).mono ?_; rintro e w' ⟨rfl, rfl⟩))
          exact ⟨rfl, rfl, hb4.out⟩
    | false =>
      have hc1 : ((byN cs i : Int) == 86) = false := by rw [beq_eq_false_iff_ne]; intro e; have := hj.1 (.inl (by omega)); cases this
      have hc2 : ((byN cs i : Int) == 87) = false := by rw [beq_eq_false_iff_ne]; intro e; have := hj.1 (.inr (by omega)); cases this
      rw [if_neg (by simp)] at hq
      subst hq
      clear hj h hsm
      generalize byN cs i = op at *
      cases hqq : quiet with
      | true =>
        subst hqq
        go_enter Tryz.func165, Tryz.ntmps165
        go_wp2_with (first
          | (go_at_call 107; refine (hinf.out _).mono ?_; rintro e w1 ⟨rfl, hb1⟩; have hR1 := qh (hR0.out.below hb1); replace hb1 := qh (xtrans hb0.out hb1))
          | (refine wpList_store_blkG rfl 113 _ _ rfl w1.heap.size rfl 113 info0 [.string ⟨nam.toArray⟩, .int .i64 ins, .int .i64 outs, .int .u64 gas, .bool true, .int .i64 size] (BlkG.new w1 _ _) rfl rfl (by kernel_rfl) rfl ?_; intro w2 hI2 ho2; have hb2 := ho2.below (xalloc (xrefl w1) _) (xalloc (xrefl w1) _).size (by rintro k rfl; exact Nat.le_refl _); have hR4 := qh (hR1.out.below hb2); have d1 := hI2.cell 1 (by simp); have d2 := hI2.cell 2 (by simp); have d3 := hI2.cell 3 (by simp); have d4 := hI2.cell 4 (by simp); simp only [List.getElem_cons_succ, List.getElem_cons_zero] at d1 d2 d3 d4; have hb4 := qh (xtrans hb1.out hb2); clear ho2 hI2 hb2)
          | (go_at_call 100; refine (must_true _).mono ?_; rintro e w' ⟨rfl, rfl⟩)
          | (refine wpList_store_blkG rfl 142 _ _ rfl (w.heap.size + 1) rfl 142 (stC zeroS) [.int .u64 gas, .int .u64 gas, .int .i64 (-(ins : Int)), .int .i64 (bigF 0 ((outs : Int) - ins)), .int .i64 ((outs : Int) - ins)] hR4.out rfl rfl (by kernel_rfl) rfl ?_; intro wA hRA hoA; replace hRA := qh hRA; replace hb4 := qh (hoA.below hb4.out hb4.out.size (by rintro k rfl; omega))))
        exact bodyPost_ret (results_blkG rfl _ _ (w.heap.size + 1) 142 _ _ rfl hRA.out hu rfl (by kernel_rfl)) rfl ⟨rfl, hb4.out⟩
      | false =>
        subst hqq
        go_enter Tryz.func165, Tryz.ntmps165
        go_wp2_with (first
          | (go_at_call 107; refine (hinf.out _).mono ?_; rintro e w1 ⟨rfl, hb1⟩; replace hb1 := qh (xtrans hb0.out hb1))
          | (refine wpList_store_blkG rfl 113 _ _ rfl w1.heap.size rfl 113 info0 [.string ⟨nam.toArray⟩, .int .i64 ins, .int .i64 outs, .int .u64 gas, .bool false, .int .i64 size] (BlkG.new w1 _ _) rfl rfl (by kernel_rfl) rfl ?_; intro w2 hI2 ho2; have hb2 := ho2.below (xalloc (xrefl w1) _) (xalloc (xrefl w1) _).size (by rintro k rfl; exact Nat.le_refl _); have d4 := hI2.cell 4 (by simp); simp only [List.getElem_cons_succ, List.getElem_cons_zero] at d4; have hb4 := qh (xtrans hb1.out hb2); clear ho2 hI2 hb2)
          | (go_at_call 100; refine (must_false _).mono ?_; rintro e w' ⟨rfl, rfl⟩))
        exact ⟨rfl, rfl, hb4.out⟩
  have := key (decide (byN cs i = 86 ∨ byN cs i = 87)) _ (by rw [decide_eq_true_eq]) rfl
  simp only [decide_eq_true_eq] at this
  exact this
end
end Go.Proofs.YtijkdabmegbcjaaGreatDoor
