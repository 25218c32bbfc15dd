/- Texts of this claim, merged; no condition. -/
import Derived.Test.YtijkdabmegbcjaaGreatDoorT06
import Derived.Test.YtijkdabmegbcjaaGreatDoorT04
import Derived.Test.YtijkdabmegbcjaaGreatDoorT10
import Derived.Test.YtijkdabmegbcjaaGreatDoorTA
set_option linter.all false
namespace Go.Proofs.YtijkdabmegbcjaaGreatDoor
section
open Go.RowKit
theorem run_append_own_blkV {P : Program} (w : World) (base : Nat) (t ty e : TypeId) (i : TypeInfo) (z : Value) (size bytes : Nat) (ht : P.underlying t = some (.slice e)) (hi : P.info? e = some i) (hz : i.zero = some z)
    (hsize : i.size = size) (hby : i.bytes = bytes) (hzs : z.cells.size = size) (hsz : 0 < size) (v : Value) (n : Nat) (xs : List Value) (hown : w.ownsRow base e size v n xs)
    (a : Addr) (m c : Nat) (news : List Value) (hl : news.length = m * size) (hnews : ∀ j u, news[j]? = some u → w.cell? (a.add j) = some u) (h1 : ∀ u ∈ news, u.oneCell' = true)
    (h63 : n + m ≤ maxLen) (hbytes : (n + m) * bytes ≤ 140737488355328) (hbase : base ≤ w.heap.size) :
    ∃ v' w', (Builtin.append_ #[t, t] ty #[v, .slice (some a) m c]).run P w = .ok v' w' ∧ w'.ownsRow base e size v' (n + m) (xs ++ news) ∧ w.grownBy w' v.ownBlock ∧
      (v'.ownBlock = v.ownBlock ∨ ∀ k, v'.ownBlock = some k → w.heap.size ≤ k) := by
  obtain ⟨v', w', hr, ho, hg, -⟩ := run_append_own (P := P) w base t ty e i z size bytes ht hi hz hsize hby hzs hsz v n xs hown a m c news hl hnews h1 h63 hbytes hbase
  refine ⟨v', w', hr, ho, hg, ?_⟩
  rcases hown.2 with ⟨rfl, rfl⟩ | ⟨g, cap, cur, rfl, hbg, hgg, hnc, hcm, hcs, htake⟩
  · obtain ⟨v2, w2, hr2, ho2, -, -⟩ := run_append_own (P := P) w w.heap.size t ty e i z size bytes ht hi hz hsize hby hzs hsz (.slice none 0 0) 0 [] (World.ownsRow_nil _ _ _ _) a m c news hl hnews h1 (by simpa using h63) (by simpa using hbytes) (Nat.le_refl _)
    rw [hr] at hr2
    obtain ⟨rfl, rfl⟩ : v' = v2 ∧ w' = w2 := by injection hr2; exact ⟨by assumption, by assumption⟩
    exact .inr fun k hk => (ho2.lt k hk).1
  · by_cases hroom : n + m ≤ cap
    · have hmul : (n + m) * size ≤ cap * size := Nat.mul_le_mul_right _ hroom
      rw [Nat.add_mul] at hmul
      have hcells : ∀ j, j < cur.size → w.cell? ⟨g, j, none⟩ = cur[j]? := fun j _ => by rw [cell_of_row w g j cur e (0, 0) hgg]
      have hr2 := run_append_room_cells (P := P) w t ty e i ht hi g 0 n cap a m c news (by rw [hsize, hl]) hnews h1 hroom (fun j hj => by
        have hlt : 0 + n * i.size + j < cur.size := by rw [hsize, hcs]; omega
        rw [hcells _ hlt, Array.getElem?_eq_getElem hlt]; rfl) (fun j hj => frozen_of_row w g _ cur e hgg)
      rw [hr] at hr2
      obtain ⟨rfl, rfl⟩ : v' = .slice (some ⟨g, 0, none⟩) (n + m) cap ∧ w' = _ := by injection hr2; exact ⟨by assumption, by assumption⟩
      exact .inl rfl
    · obtain ⟨v2, w2, hr2, ho2, -⟩ := run_append_arg_grows (P := P) w t ty e i z size bytes ht hi hz hsize hby hzs hsz ⟨g, 0, none⟩ n cap xs hown.1 (fun j u hj => hown.cells (g := g) rfl j u hj) a m c news hl hnews (by omega) h63 hbytes
      rw [hr] at hr2
      obtain ⟨rfl, rfl⟩ : v' = v2 ∧ w' = w2 := by injection hr2; exact ⟨by assumption, by assumption⟩
      exact .inr fun k hk => (ho2.lt k hk).1
theorem wpListIn_append_blkV {F : Fence} {N : Nat} {P : Program} (w : World) {ops : Array Oper} {rest : List Oper} {o : Oper} {ac : Act} {Q : Exit → Act → World → Prop} (hgd : o.guard = none) (s x : Operand) (t : TypeId)
    (hop : o.op = .call { callee := .builtin .append, args := #[s, x], argTypes := #[t, t] })
    (base : Nat) (e : TypeId) (i : TypeInfo) (z : Value) (size bytes : Nat) (ht : P.underlying t = some (.slice e)) (hi : P.info? e = some i) (hz : i.zero = some z)
    (hsize : i.size = size) (hby : i.bytes = bytes) (hzs : z.cells.size = size) (hsz : 0 < size) (v : Value) (n : Nat) (xs : List Value) (hs : ac.eval s = v) (hown : w.ownsRow base e size v n xs)
    (a : Addr) (m c : Nat) (news : List Value) (hx : ac.eval x = .slice (some a) m c) (hl : news.length = m * size) (hnews : ∀ j u, news[j]? = some u → w.cell? (a.add j) = some u) (h1 : ∀ u ∈ news, u.oneCell' = true)
    (h63 : n + m ≤ maxLen) (hbytes : (n + m) * bytes ≤ 140737488355328) (hbase : base ≤ w.heap.size)
    (hK : ∀ v' w', w'.ownsRow base e size v' (n + m) (xs ++ news) → w.grownBy w' v.ownBlock → (v'.ownBlock = v.ownBlock ∨ ∀ k, v'.ownBlock = some k → w.heap.size ≤ k) → wpListIn F N P ops Q rest (ac.put o.dst v') w') : wpListIn F N P ops Q (o :: rest) ac w := by
  refine wpListIn_plain hgd fun K hK' => ?_
  obtain ⟨v', w', hrun, r1, r2, r3⟩ := run_append_own_blkV (P := P) w base t o.type e i z size bytes ht hi hz hsize hby hzs hsz v n xs hown a m c news hl hnews h1 h63 hbytes hbase
  unfold Oper.wpIn
  refine ⟨?_, ?_⟩
  · simp [Oper.about, hop, resolve, Target.leads, Sem.run_pure]
  · rw [Oper.semAt_plain F _ _ (by rw [hop]; intro c hc'; cases hc')]
    simp [execOp, hop, resolve, invoke, builtin, hs, hx, hrun, Result.andThen]
    exact hK' _ _ (hK v' w' r1 r2 r3)
theorem wpList_append_blkV {P : Program} (w : World) {ops : Array Oper} {rest : List Oper} {o : Oper} {ac : Act} {Q : Exit → Act → World → Prop} (hgd : o.guard = none) (s x : Operand) (t : TypeId)
    (ho : o.op = .call { callee := .builtin .append, args := #[s, x], argTypes := #[t, t] })
    (base : Nat) (e : TypeId) (i : TypeInfo) (z : Value) (size bytes : Nat) (ht : P.underlying t = some (.slice e)) (hi : P.info? e = some i) (hz : i.zero = some z)
    (hsize : i.size = size) (hby : i.bytes = bytes) (hzs : z.cells.size = size) (hsz : 0 < size) (v : Value) (n : Nat) (xs : List Value) (hs : ac.eval s = v) (hown : w.ownsRow base e size v n xs)
    (a : Addr) (m c : Nat) (news : List Value) (hx : ac.eval x = .slice (some a) m c) (hl : news.length = m * size) (hnews : ∀ j u, news[j]? = some u → w.cell? (a.add j) = some u) (h1 : ∀ u ∈ news, u.oneCell' = true)
    (h63 : n + m ≤ maxLen) (hbytes : (n + m) * bytes ≤ 140737488355328) (hbase : base ≤ w.heap.size)
    (h : ∀ v' w', w'.ownsRow base e size v' (n + m) (xs ++ news) → w.grownBy w' v.ownBlock → (v'.ownBlock = v.ownBlock ∨ ∀ k, v'.ownBlock = some k → w.heap.size ≤ k) → wpList P ops Q rest (ac.put o.dst v') w') : wpList P ops Q (o :: rest) ac w := by
  obtain ⟨v', w', h1, h2, h3, h4⟩ := run_append_own_blkV (P := P) w base t o.type e i z size bytes ht hi hz hsize hby hzs hsz v n xs hown a m c news hl hnews h1 h63 hbytes hbase
  exact Lib.wpList_append_run w hgd s x t t ho _ _ hs hx v' w' h1 (h v' w' h2 h3 h4)
theorem flat_len {α β : Type} (k : Nat) (g : α → List β) (hg : ∀ x, (g x).length = k) : ∀ l : List α, (l.flatMap g).length = l.length * k
  | [] => by simp
  | x :: l => by rw [List.flatMap_cons, List.length_append, hg, flat_len k g hg l, List.length_cons, Nat.add_mul]; omega
theorem flat_get {α β : Type} (k : Nat) (g : α → List β) (hg : ∀ x, (g x).length = k) : ∀ (l : List α) (i j : Nat) (h : i < l.length), j < k → (l.flatMap g)[i * k + j]? = (g l[i])[j]?
  | x :: l, 0, j, _, hj => by
    rw [List.flatMap_cons, Nat.zero_mul, Nat.zero_add, List.getElem?_append_left (by rw [hg]; exact hj)]; rfl
  | x :: l, i + 1, j, h, hj => by
    rw [List.flatMap_cons, List.getElem?_append_right (by rw [hg, Nat.add_mul]; omega), hg, show (i + 1) * k + j - k = i * k + j by rw [Nat.add_mul]; omega]
    exact flat_get k g hg l i j (by simpa using h) hj
end
section
open Go.RowKit
def valsT (n : Nat) (vs : List Value) : Told := ⟨fun v => ∃ b : Nat, v = .slice (some ⟨b, 0, none⟩) n n, fun v W => ∀ b : Nat, v = .slice (some ⟨b, 0, none⟩) n n → RowV W (some ⟨b, 0, none⟩) vs, ⟨_, 0, rfl⟩, fun v W W' h hb b e => (h b e).below hb⟩
def spanB (g : List Nat) : BlkN := ⟨fstN g, lstN g, [], false⟩
def spansN (cs : List Nat) : List BlkN := (grps cs).map spanB
def OwnB (w w' : World) (v : Value) (bs : List BlkN) : Prop := w'.ownsRow w.heap.size 51 4 v bs.length (bs.flatMap (blkC none 0)) ∧ ∀ b ∈ bs, b.next = []
theorem OwnB.nil (w : World) : OwnB w w (.slice none 0 0) [] := ⟨⟨rfl, .inl ⟨rfl, rfl⟩⟩, by simp⟩
theorem info_blk : (Tryz.prog.info? 51).map (fun i => (i.zero, i.size, i.bytes)) = some (some (blkV none 0 blk0), 4, 48) := by kernel_rfl
theorem OwnB.snoc {w w' : World} {v : Value} {bs : List BlkN} {b : BlkN} (h : w'.ownsRow w.heap.size 51 4 v (bs.length + 1) (bs.flatMap (blkC none 0) ++ blkC none 0 b)) (hb : ∀ b ∈ bs, b.next = []) (hn : b.next = []) : OwnB w w' v (bs ++ [b]) := by
  refine ⟨?_, fun x hx => ?_⟩
  · rw [List.length_append, List.flatMap_append]
    simpa using h
  · rcases List.mem_append.1 hx with e | e
    · exact hb x e
    · rw [List.mem_singleton] at e; rw [e]; exact hn
theorem OwnB.slice {w w' : World} {v : Value} {bs : List BlkN} (h : OwnB w w' v bs) : ∃ a c, v = .slice a bs.length c ∧ BlksAt w' a c bs ∧ (∀ x, a = some x → w.heap.size ≤ x.block) ∧ (bs ≠ [] → ∃ b, a = some ⟨b, 0, none⟩ ∧ w.heap.size ≤ b ∧ ∃ vs, BlkG w' b 51 (bs.flatMap (blkC none 0) ++ vs)) := by
  obtain ⟨a, c, rfl, hr, hn, hx, hl, h0⟩ := rowV_own h.1
  refine ⟨a, c, rfl, ⟨fun i hi => ?_, hn⟩, hx, fun hne => ?_⟩
  · have hg := fun j (hj : j < 4) => flat_get 4 (blkC none 0) (fun _ => rfl) bs i j hi hj
    have hlen := flat_len 4 (blkC none 0) (fun _ => rfl) bs
    have h00 : i * 4 < (bs.flatMap (blkC none 0)).length := by rw [hlen]; omega
    obtain ⟨b, o, e, -⟩ := hr (i * 4) h00
    refine ⟨b, o, none, 0, e, fun j u hj => ?_, by rw [h.2 _ (List.getElem_mem hi)]; exact intsAt_nil _⟩
    have hj4 : j < 4 := (List.getElem?_eq_some_iff.1 hj).1
    have hlt : i * 4 + j < (bs.flatMap (blkC none 0)).length := by rw [hlen]; omega
    obtain ⟨b', o', e', hc⟩ := hr (i * 4 + j) hlt
    rw [e] at e'; cases e'
    have := hg j hj4
    rw [List.getElem?_eq_getElem hlt, hj] at this
    injection this with this
    rw [Nat.add_assoc, hc, this]
  · rcases h.1.2 with ⟨e, -⟩ | ⟨g, cap, cur, e, hb, hg, hnc, hcm, hcs, htake⟩
    · injection e with e1
      exact absurd e1 (h0 (fun e => hne (List.eq_nil_of_length_eq_zero e)))
    · injection e with e1
      subst e1
      refine ⟨g, rfl, hb, cur.toList.drop (bs.length * 4), ?_⟩
      unfold BlkG
      rw [hg, ← htake, List.take_append_drop]
theorem own_sliceV {w : World} {base : Nat} {e : TypeId} {size : Nat} {v : Value} {n : Nat} {xs : List Value} (h : w.ownsRow base e size v n xs) : ∃ a c, v = .slice a n c := by
  obtain ⟨a, c, e, -⟩ := rowV_own h
  exact ⟨a, c, e⟩
theorem cuts_eq (cs l : List Nat) (i : Nat) (h : i < l.length) : cutsN cs l[i] l[i + 1]? = cutN (byN cs) l[i] (l.drop (i + 1)) := by
  unfold cutsN cutN
  congr 1
  by_cases h2 : i + 1 < l.length
  · rw [List.getElem?_eq_getElem h2, List.drop_eq_getElem_cons h2]; rfl
  · rw [List.getElem?_eq_none (by omega), List.drop_eq_nil_of_le (by omega)]; rfl
theorem cut_next (f : Nat → Nat) (l : List Nat) (i : Nat) (hi : i + 1 < l.length) (h0 : i < l.length) (hc : cutN f l[i] (l.drop (i + 1)) = false) : f l[i + 1] ≠ 91 := by
  obtain ⟨y, r, e, hy⟩ := cutN_not hc
  rw [List.drop_eq_getElem_cons hi] at e
  rw [(List.cons.inj e).1]; exact hy
theorem cut_last (f : Nat → Nat) (l : List Nat) (i : Nat) (hi : i < l.length) (hn : i + 1 = l.length) : cutN f l[i] (l.drop (i + 1)) = true := by
  cases e : cutN f l[i] (l.drop (i + 1)) with
  | true => rfl
  | false =>
    obtain ⟨y, r, e2, -⟩ := cutN_not e
    rw [List.drop_eq_nil_of_le (by omega)] at e2
    cases e2
theorem grp_end (f : Nat → Nat) (l : List Nat) : grpA f ((l.take l.length).drop l.length) (l.drop l.length) = [] := by
  rw [List.take_length, List.drop_length]; rfl
set_option maxRecDepth 100000 in
set_option maxHeartbeats 4000000 in
theorem refSpans_anyL (cs : List Nat) (a : Option Addr) (c : Nat) (w : World) (h : CodeL w a c cs) :
    Calls Tryz.prog 43 #[.slice a cs.length c] w fun e w' => (∃ v, e = .returned v ∧ OwnB w w' v (spansN cs)) ∧ Below w.heap.size w w' := by
  obtain ⟨i0, hi0, hz0, hz1, hz2⟩ := info_parts info_blk
  have hcl := h.len
  have hol := opsL_len cs
  have hgl := grps_len cs
  have hops := qh (refOps_anyL cs a c w h)
  have hgrp : Hid (grpA (byN cs) (((opsL cs).take 0).drop 0) ((opsL cs).drop 0) = grps cs) := qh rfl
  have hall : Hid (∀ x ∈ opsL cs, x < cs.length) := qh fun x hx => opsL_lt hx
  have hcut : Hid (∀ (W : World) (x : Nat) (y : Option Nat), Below w.heap.size w W → x < cs.length → (∀ k, y = some k → k < cs.length) → Calls Tryz.prog 77 #[.slice a cs.length c, .int .i64 x, .int .i64 (nxI y)] W fun e w' => e = .returned (.bool (cutsN cs x y)) ∧ Below W.heap.size W w') := qh fun W x y hW hx hy => refCuts_anyL cs x y a c W (h.below hW) hx hy
  replace h := qh h
  have hsp : spansN cs = (grps cs).map spanB := rfl
  rw [hsp]
  clear hsp
  have hstep := qh (span_step (byN cs) (opsL cs))
  have hends := qh (span_ends (opsL cs))
  have hce := qh (cuts_eq cs (opsL cs))
  have hge := qh (grp_end (byN cs) (opsL cs))
  have hnot := qh (cut_next (byN cs) (opsL cs))
  have hlast := qh (cut_last (byN cs) (opsL cs))
  generalize opsL cs = l at *
  generalize hG : grps cs = G at *
  replace hG := qh hG
  go_enter Tryz.func43, Tryz.ntmps43
  go_wp2_with (go_at_call 48; refine hops.out.mono ?_; rintro e w1 ⟨⟨v, rfl, hv⟩, hb1⟩; obtain ⟨a1, c1, rfl, hI, -⟩ := hv.at; replace hI := qh hI; clear hv hops; replace hb1 := qh hb1)
  go_loopw [3, 5, 6] (fun v fv iv wx => ∃ (j i : Nat) (gs : List (List Nat)), j ≤ i ∧ i ≤ l.length ∧ fv = .int .i64 j ∧ iv = .int .i64 i ∧ Hid (gs.length ≤ i) ∧ Hid (∀ hi : i < l.length, j = i ∨ byN cs l[i] ≠ 91) ∧ Hid (i = l.length → j = i) ∧ Hid (G = gs ++ grpA (byN cs) ((l.take i).drop j) (l.drop i)) ∧ Hid (OwnB w1 wx v (gs.map spanB)) ∧ Hid (Below w1.heap.size w1 wx)) (fun _ _ iv _ => 1048700 - (intOf iv).toNat)
  case atStart => exact ⟨0, 0, [], by omega, by omega, rfl, rfl, qh (by simp), qh fun _ => .inl rfl, qh fun _ => rfl, qh (by rw [← hgrp.out]; rfl), qh (OwnB.nil w1), qh (xrefl w1)⟩
  case round =>
    obtain ⟨j, i, gs, hji, hi, rfl, rfl, hgsl, hm, hfin, hGe, hown, hb⟩ := hrel
    by_cases hlt : i < l.length
    · have hltI : (i : Int) < l.length := by omega
      obtain ⟨b1, o1, rfl, -⟩ := hI.out.get hlt
      have hcl2 : Hid (∀ k, (hk : k < l.length) → ∀ W, Below w1.heap.size w1 W → W.cell? ⟨b1, o1 + k, none⟩ = some (.int .i64 (l[k] : Int))) := qh fun k hk W hW => by
        obtain ⟨b', o', e, hc⟩ := (hI.out.below hW).get hk
        cases e; exact hc
      have hjl : j < l.length := by omega
      have hxl := hall.out _ (List.getElem_mem hlt)
      have hst := hstep.out i j hlt hji (hm.out hlt)
      obtain ⟨hf, hla⟩ := hends.out i j hlt hji
      have hc := hcut.out wr l[i] l[i + 1]? (xtrans hb1.out hb.out) hxl (fun k hk => hall.out k (List.mem_of_getElem? hk))
      rw [hce.out i hlt] at hc
      have hc1 := hcl2.out i hlt wr hb.out
      have hl := hlast.out i hlt
      have hn := fun hi => hnot.out i hi hlt
      replace hst := qh hst
      replace hf := qh hf
      replace hla := qh hla
      replace hn := qh hn
      replace hl := qh hl
      have hcall : Hid (∃ z : Int, z = nxI l[i + 1]? ∧ ((i + 1 < l.length ∧ ∀ W, Below w1.heap.size w1 W → W.cell? ⟨b1, o1 + (i + 1), none⟩ = some (.int .i64 z)) ∨ (¬ i + 1 < l.length ∧ z = -1))) := qh (by
        by_cases h2 : i + 1 < l.length
        · refine ⟨_, rfl, .inl ⟨h2, fun W hW => ?_⟩⟩
          rw [List.getElem?_eq_getElem h2]
          exact hcl2.out (i + 1) h2 W hW
        · refine ⟨_, rfl, .inr ⟨h2, ?_⟩⟩
          rw [List.getElem?_eq_none (by omega)]; rfl)
      obtain ⟨z, hz, hz2⟩ := hcall.out
      rw [← hz] at hc
      clear hz hcall
      have ca : Hid (wr.cell? ⟨b1, o1 + j, none⟩ = some (.int .i64 (l[j] : Int))) := qh (hcl2.out j hjl wr hb.out)
      have ci := qh hc1
      have hsb : ∀ W, Below wr.heap.size wr W → w1.heap.size ≤ W.heap.size := fun W hW => by have := hb.out.size; have := hW.size; omega
      have hgl2 : (gs.map spanB).length ≤ 1048576 := by rw [List.length_map]; have := hgsl.out; omega
      replace hsb := qh hsb
      cases hq : cutN (byN cs) l[i] (l.drop (i + 1)) with
      | true =>
        rw [hq] at hc hst hl hn
        have hst2 := hst.out
        rw [if_pos rfl] at hst2
        have hGe2 : Hid (G = (gs ++ [(l.take (i + 1)).drop j]) ++ grpA (byN cs) ((l.take (i + 1)).drop (i + 1)) (l.drop (i + 1))) := qh (by rw [hGe.out, hst2, span_none]; simp)
        have hsp : Hid (spanB ((l.take (i + 1)).drop j) = ⟨l[j], l[i], [], false⟩) := qh (by unfold spanB; rw [hf.out, hla.out])
        clear hst hst2 hGe hq hf hla hn hl
        generalize (l.take (i + 1)).drop j = g1 at *
        have hm2 : Hid (∀ hi : i + 1 < l.length, i + 1 = i + 1 ∨ byN cs l[i + 1] ≠ 91) := qh fun _ => .inl rfl
        generalize l[j] = x at *
        generalize l[i] = y at *
        replace hc := qh hc
        have hjI : (j : Int) < l.length := by omega
        rcases hz2 with ⟨h2, hzc⟩ | ⟨h2, rfl⟩
        · have hzc1 := hzc wr hb.out
          have h2I : (i : Int) + 1 < l.length := by omega
          clear hzc
          obtain ⟨a5, c5, rfl⟩ := own_sliceV hown.out.1
          generalize hv : Value.slice a5 (gs.map spanB).length c5 = v at *
          replace hv := qh hv
          go_wp2_with (go_at_call 77; refine hc.out.mono ?_; rintro e w3 ⟨rfl, hb3⟩; replace ca := qh (cbel hb3 ca.out); replace ci := qh (cbel hb3 ci.out); replace hown := qh (⟨own_keep hown.out.1 hb3, hown.out.2⟩ : OwnB w1 w3 v (gs.map spanB)); have hsb3 := qh (hsb.out w3 hb3); replace hb := qh (xtrans hb.out hb3); clear hb3 hc1)
          refine wp_region_growL 11 [fixd (v), fixd (.slice (some ⟨b1, o1, none⟩) l.length c1), fixd (.int .i64 j), fixd (.pointer (some ⟨b1, o1 + j, none⟩)), fixd (.int .i64 x), fixd (.slice (some ⟨b1, o1, none⟩) l.length c1), fixd (.int .i64 i), fixd (.pointer (some ⟨b1, o1 + i, none⟩)), fixd (.int .i64 y), fixd (.agg #[.int .i64 x, .int .i64 y, .slice none 0 0, .bool false]), valsT 1 [.int .i64 x, .int .i64 y, .slice none 0 0, .bool false]] (by kernel_rfl) (by kernel_rfl) ?_
          simp only [List.take_succ_cons, List.take_zero, List.drop_succ_cons, List.drop_zero]
          try simp only [Act.put, zA, zB, zC, zD, zE]
          refine wpGrowV_fix _ rfl rfl (fun W hb _ => by go_simp; first | exact xrefl W | exact ⟨rfl, xrefl W⟩) ?_
          try simp only [Act.put, zA, zB, zC, zD, zE]
          refine wpGrowV_fix _ rfl rfl (fun W hb _ => by go_simp; first | exact xrefl W | exact ⟨rfl, xrefl W⟩) ?_
          try simp only [Act.put, zA, zB, zC, zD, zE]
          refine wpGrowV_fix _ rfl rfl (fun W hb _ => by go_simp; first | exact xrefl W | exact ⟨rfl, xrefl W⟩) ?_
          try simp only [Act.put, zA, zB, zC, zD, zE]
          refine wpGrowV_fix _ rfl rfl (fun W hb _ => by go_simp; first | exact xrefl W | exact ⟨rfl, xrefl W⟩) ?_
          try simp only [Act.put, zA, zB, zC, zD, zE]
          refine wpGrowV_fix _ rfl rfl (fun W hb _ => by have c := cbel hb ca.out; go_simp; first | exact xrefl W | exact ⟨rfl, xrefl W⟩) ?_
          try simp only [Act.put, zA, zB, zC, zD, zE]
          refine wpGrowV_fix _ rfl rfl (fun W hb _ => by go_simp; first | exact xrefl W | exact ⟨rfl, xrefl W⟩) ?_
          try simp only [Act.put, zA, zB, zC, zD, zE]
          refine wpGrowV_fix _ rfl rfl (fun W hb _ => by go_simp; first | exact xrefl W | exact ⟨rfl, xrefl W⟩) ?_
          try simp only [Act.put, zA, zB, zC, zD, zE]
          refine wpGrowV_fix _ rfl rfl (fun W hb _ => by go_simp; first | exact xrefl W | exact ⟨rfl, xrefl W⟩) ?_
          try simp only [Act.put, zA, zB, zC, zD, zE]
          refine wpGrowV_fix _ rfl rfl (fun W hb _ => by have c := cbel hb ci.out; go_simp; first | exact xrefl W | exact ⟨rfl, xrefl W⟩) ?_
          try simp only [Act.put, zA, zB, zC, zD, zE]
          refine wpGrowV_fix _ rfl rfl (fun W hb _ => by go_simp; first | exact xrefl W | exact ⟨rfl, xrefl W⟩) ?_
          try simp only [Act.put, zA, zB, zC, zD, zE]
          refine wpGrowV_any (valsT 1 [.int .i64 x, .int .i64 y, .slice none 0 0, .bool false]) rfl rfl (fun W hb _ => ?_) (fun v hv => ?_)
          · go_simp
            exact ⟨⟨⟨_, rfl⟩, fun b e => by cases e; exact rowV_new W _ [.int .i64 x, .int .i64 y, .slice none 0 0, .bool false]⟩, xalloc (xrefl W) _⟩
          obtain ⟨qb, rfl⟩ := hv
          try simp only [Act.put, zA, zB, zC, zD, zE]
          refine wpGrowV_nil fun W5 hb5 hmem => ?_
          have hq5 := hmem 10 (by decide) qb rfl
          have hsb5 : w1.heap.size ≤ W5.heap.size := Nat.le_trans hsb3.out hb5.size
          go_wp2_with (at_builtin; refine wpList_append_vals W5 rfl _ _ 25 rfl w1.heap.size 51 i0 (blkV none 0 blk0) 4 48 Tryz.underlying25 hi0 hz0 hz1 hz2 rfl (by decide) _ (gs.map spanB).length _ rfl (own_keep hown.out.1 hb5) (some ⟨qb, 0, none⟩) 1 1 [.int .i64 x, .int .i64 y, .slice none 0 0, .bool false] rfl (by simp) rfl hq5 (by intro u hu; simp at hu; rcases hu with rfl | rfl | rfl | rfl <;> rfl) (by unfold maxLen; omega) (by omega) hsb5 ?_; intro v7 w7 ho7 hg7; have hb7 := (xtrans hb.out hb5).grown hg7 hsb5 (fun j hj => (hown.out.1.lt j hj).1); replace hb7 := qh hb7; replace ho7 := qh ho7; clear hg7)
          exact ⟨⟨i + 1, i + 1, gs ++ [g1], by omega, by omega, rfl, rfl, qh (by have := hgsl.out; simp; omega), qh (fun _ => .inl rfl), qh (fun _ => rfl), hGe2, qh (by rw [List.map_append, List.map_singleton, hsp.out]; exact OwnB.snoc ho7.out hown.out.2 rfl), hb7⟩, by simp [intOf]; omega⟩
        · have h2I : ¬ (i : Int) + 1 < l.length := by omega
          obtain ⟨a5, c5, rfl⟩ := own_sliceV hown.out.1
          generalize hv : Value.slice a5 (gs.map spanB).length c5 = v at *
          replace hv := qh hv
          go_wp2_with (go_at_call 77; refine hc.out.mono ?_; rintro e w3 ⟨rfl, hb3⟩; replace ca := qh (cbel hb3 ca.out); replace ci := qh (cbel hb3 ci.out); replace hown := qh (⟨own_keep hown.out.1 hb3, hown.out.2⟩ : OwnB w1 w3 v (gs.map spanB)); have hsb3 := qh (hsb.out w3 hb3); replace hb := qh (xtrans hb.out hb3); clear hb3 hc1)
          refine wp_region_growL 11 [fixd (v), fixd (.slice (some ⟨b1, o1, none⟩) l.length c1), fixd (.int .i64 j), fixd (.pointer (some ⟨b1, o1 + j, none⟩)), fixd (.int .i64 x), fixd (.slice (some ⟨b1, o1, none⟩) l.length c1), fixd (.int .i64 i), fixd (.pointer (some ⟨b1, o1 + i, none⟩)), fixd (.int .i64 y), fixd (.agg #[.int .i64 x, .int .i64 y, .slice none 0 0, .bool false]), valsT 1 [.int .i64 x, .int .i64 y, .slice none 0 0, .bool false]] (by kernel_rfl) (by kernel_rfl) ?_
          simp only [List.take_succ_cons, List.take_zero, List.drop_succ_cons, List.drop_zero]
          try simp only [Act.put, zA, zB, zC, zD, zE]
          refine wpGrowV_fix _ rfl rfl (fun W hb _ => by go_simp; first | exact xrefl W | exact ⟨rfl, xrefl W⟩) ?_
          try simp only [Act.put, zA, zB, zC, zD, zE]
          refine wpGrowV_fix _ rfl rfl (fun W hb _ => by go_simp; first | exact xrefl W | exact ⟨rfl, xrefl W⟩) ?_
          try simp only [Act.put, zA, zB, zC, zD, zE]
          refine wpGrowV_fix _ rfl rfl (fun W hb _ => by go_simp; first | exact xrefl W | exact ⟨rfl, xrefl W⟩) ?_
          try simp only [Act.put, zA, zB, zC, zD, zE]
          refine wpGrowV_fix _ rfl rfl (fun W hb _ => by go_simp; first | exact xrefl W | exact ⟨rfl, xrefl W⟩) ?_
          try simp only [Act.put, zA, zB, zC, zD, zE]
          refine wpGrowV_fix _ rfl rfl (fun W hb _ => by have c := cbel hb ca.out; go_simp; first | exact xrefl W | exact ⟨rfl, xrefl W⟩) ?_
          try simp only [Act.put, zA, zB, zC, zD, zE]
          refine wpGrowV_fix _ rfl rfl (fun W hb _ => by go_simp; first | exact xrefl W | exact ⟨rfl, xrefl W⟩) ?_
          try simp only [Act.put, zA, zB, zC, zD, zE]
          refine wpGrowV_fix _ rfl rfl (fun W hb _ => by go_simp; first | exact xrefl W | exact ⟨rfl, xrefl W⟩) ?_
          try simp only [Act.put, zA, zB, zC, zD, zE]
          refine wpGrowV_fix _ rfl rfl (fun W hb _ => by go_simp; first | exact xrefl W | exact ⟨rfl, xrefl W⟩) ?_
          try simp only [Act.put, zA, zB, zC, zD, zE]
          refine wpGrowV_fix _ rfl rfl (fun W hb _ => by have c := cbel hb ci.out; go_simp; first | exact xrefl W | exact ⟨rfl, xrefl W⟩) ?_
          try simp only [Act.put, zA, zB, zC, zD, zE]
          refine wpGrowV_fix _ rfl rfl (fun W hb _ => by go_simp; first | exact xrefl W | exact ⟨rfl, xrefl W⟩) ?_
          try simp only [Act.put, zA, zB, zC, zD, zE]
          refine wpGrowV_any (valsT 1 [.int .i64 x, .int .i64 y, .slice none 0 0, .bool false]) rfl rfl (fun W hb _ => ?_) (fun v hv => ?_)
          · go_simp
            exact ⟨⟨⟨_, rfl⟩, fun b e => by cases e; exact rowV_new W _ [.int .i64 x, .int .i64 y, .slice none 0 0, .bool false]⟩, xalloc (xrefl W) _⟩
          obtain ⟨qb, rfl⟩ := hv
          try simp only [Act.put, zA, zB, zC, zD, zE]
          refine wpGrowV_nil fun W5 hb5 hmem => ?_
          have hq5 := hmem 10 (by decide) qb rfl
          have hsb5 : w1.heap.size ≤ W5.heap.size := Nat.le_trans hsb3.out hb5.size
          go_wp2_with (at_builtin; refine wpList_append_vals W5 rfl _ _ 25 rfl w1.heap.size 51 i0 (blkV none 0 blk0) 4 48 Tryz.underlying25 hi0 hz0 hz1 hz2 rfl (by decide) _ (gs.map spanB).length _ rfl (own_keep hown.out.1 hb5) (some ⟨qb, 0, none⟩) 1 1 [.int .i64 x, .int .i64 y, .slice none 0 0, .bool false] rfl (by simp) rfl hq5 (by intro u hu; simp at hu; rcases hu with rfl | rfl | rfl | rfl <;> rfl) (by unfold maxLen; omega) (by omega) hsb5 ?_; intro v7 w7 ho7 hg7; have hb7 := (xtrans hb.out hb5).grown hg7 hsb5 (fun j hj => (hown.out.1.lt j hj).1); replace hb7 := qh hb7; replace ho7 := qh ho7; clear hg7)
          exact ⟨⟨i + 1, i + 1, gs ++ [g1], by omega, by omega, rfl, rfl, qh (by have := hgsl.out; simp; omega), qh (fun _ => .inl rfl), qh (fun _ => rfl), hGe2, qh (by rw [List.map_append, List.map_singleton, hsp.out]; exact OwnB.snoc ho7.out hown.out.2 rfl), hb7⟩, by simp [intOf]; omega⟩
      | false =>
        rw [hq] at hc hst hl hn
        have h2 : i + 1 < l.length := by
          by_cases h2 : i + 1 < l.length
          · exact h2
          · exact absurd (hl.out (by omega)) (by decide)
        have hst2 := hst.out
        rw [if_neg (by decide)] at hst2
        have hGe2 : Hid (G = gs ++ grpA (byN cs) ((l.take (i + 1)).drop j) (l.drop (i + 1))) := qh (by rw [hGe.out, hst2])
        have hm2 : Hid (∀ hi : i + 1 < l.length, j = i + 1 ∨ byN cs l[i + 1] ≠ 91) := qh fun hi => .inr (hn.out hi rfl)
        rcases hz2 with ⟨-, hzc⟩ | ⟨h3, -⟩
        · have hzc1 := hzc wr hb.out
          have h2I : (i : Int) + 1 < l.length := by omega
          replace hc := qh hc
          clear hst hst2 hGe hq hf hla hn hl hzc hz0 hz1 hz2 hi0
          have ei : o1 + (i + 1) = o1 + (i + 1) := rfl
          go_wp2_with (go_at_call 77; refine hc.out.mono ?_; rintro e w3 ⟨rfl, hb3⟩)
          exact ⟨⟨j, i + 1, gs, by omega, by omega, rfl, rfl, qh (by have := hgsl.out; omega), hm2, qh (fun e => by omega), hGe2, qh ⟨own_keep hown.out.1 hb3, hown.out.2⟩, qh (xtrans hb.out hb3)⟩, by simp [intOf]; omega⟩
        · exact absurd h2 h3
    · have e : i = l.length := by omega
      have e2 := hfin.out e
      have hG2 : Hid (OwnB w1 wr _ (G.map spanB)) := qh (by
        rw [hGe.out, e2, e, hge.out, List.append_nil]; exact hown.out)
      have hltI : ¬ (i : Int) < l.length := by omega
      clear hlt e e2 hown hGe hm hfin
      go_wp2
      go_ret
      exact ⟨⟨_, rfl, own_base hG2.out.1 hb1.out.size, hG2.out.2⟩, xtrans hb1.out hb.out⟩
theorem refSpans_any (cs : List Nat) (a : Option Addr) (c : Nat) (w : World) (h : CodeAt w a c cs) :
    Calls Tryz.prog 43 #[.slice a cs.length c] w fun e w' => (∃ v, e = .returned v ∧ OwnB w w' v (spansN cs)) ∧ Below w.heap.size w w' :=
  refSpans_anyL cs a c w h.long
end
end Go.Proofs.YtijkdabmegbcjaaGreatDoor
