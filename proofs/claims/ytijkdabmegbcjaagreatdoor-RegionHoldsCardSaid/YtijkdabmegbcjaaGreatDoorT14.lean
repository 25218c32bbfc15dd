/- Texts of this claim, merged; no condition. -/
import Derived.Test.YtijkdabmegbcjaaGreatDoorT12
import Derived.Test.YtijkdabmegbcjaaGreatDoorT11
import Derived.Test.YtijkdabmegbcjaaGreatDoorT13
import Derived.Test.YtijkdabmegbcjaaGreatDoorT05
import Derived.Test.YtijkdabmegbcjaaGreatDoorT00
import Derived.Test.YtijkdabmegbcjaaGreatDoorTA
set_option linter.all false
namespace Go.Proofs.YtijkdabmegbcjaaGreatDoor
section
open Go.RowKit
theorem setCells_mid (b : Nat) (T : TypeId) : ∀ (vs mid pre rest : List Value) (w : World), w.heap[b]? = some (.cells (pre ++ (mid ++ rest)).toArray T (0, 0)) → vs.length = mid.length → (w.setCells b pre.length vs).heap[b]? = some (.cells (pre ++ (vs ++ rest)).toArray T (0, 0))
  | [], mid, pre, rest, w, h, hl => by
    have : mid = [] := List.length_eq_zero_iff.1 (by simpa using hl.symm)
    subst this
    exact h
  | v :: vs, m :: mid, pre, rest, w, h, hl => by
    have h2 : (w.setCell ⟨b, pre.length, none⟩ v).heap[b]? = some (.cells ((pre ++ [v]) ++ (mid ++ rest)).toArray T (0, 0)) := by
      rw [heap_setCell_same w b pre.length _ T _ h]
      congr 2
      apply Array.ext'
      simp
    have := setCells_mid b T vs mid (pre ++ [v]) rest (w.setCell ⟨b, pre.length, none⟩ v) h2 (by simpa using hl)
    rw [World.setCells]
    simpa using this
def RowC (w : World) (b : Nat) (T : TypeId) (n : Nat) (C : Nat → List Value) (vs : List Value) : Prop := BlkG w b T ((List.range n).flatMap C ++ vs)
def updC (C : Nat → List Value) (i : Nat) (x : List Value) : Nat → List Value := fun j => if j = i then x else C j
theorem flat_range {α : Type} (f : α → List Value) (d : α) (l : List α) : l.flatMap f = (List.range l.length).flatMap (fun i => f (l.getD i d)) := by
  have e : l = (List.range l.length).map (fun i => l.getD i d) := by
    apply List.ext_getElem (by simp)
    intro i h1 h2
    simp [h1]
  exact (show l.flatMap f = ((List.range l.length).map (fun i => l.getD i d)).flatMap f by rw [← e]).trans (by rw [List.flatMap_map])
section
variable {w w' : World} {b n : Nat} {T : TypeId} {C : Nat → List Value} {vs : List Value} {k : Nat}
theorem RowC.below (h : RowC w b T n C vs) (hb : Below w.heap.size w w') : RowC w' b T n C vs := BlkG.below h hb
theorem RowC.lt (h : RowC w b T n C vs) : b < w.heap.size := BlkG.lt h
theorem rowC_get (hC : ∀ j, (C j).length = k) {i j : Nat} (hi : i < n) (hj : j < k) : ((List.range n).flatMap C ++ vs)[i * k + j]? = (C i)[j]? := by
  have hl := flat_len k C hC (List.range n)
  have h1 : i * k + j < n * k := by
    have : (i + 1) * k ≤ n * k := Nat.mul_le_mul_right _ hi
    rw [Nat.add_mul] at this; omega
  rw [List.getElem?_append_left (by rw [hl, List.length_range]; exact h1), flat_get k C hC (List.range n) i j (by simpa using hi) hj]
  simp
theorem RowC.at (h : RowC w b T n C vs) (hC : ∀ j, (C j).length = k) {i : Nat} (hi : i < n) : w.rangeAt b (0 + i * k) (C i) := fun j v hj => by
  have hj4 : j < k := by rw [← hC i]; exact (List.getElem?_eq_some_iff.1 hj).1
  have hg := rowC_get (vs := vs) hC hi hj4
  rw [hj] at hg
  obtain ⟨hlt, he⟩ := List.getElem?_eq_some_iff.1 hg
  rw [Nat.zero_add, BlkG.cell h _ hlt, he]
theorem RowC.there (h : RowC w b T n C vs) (hC : ∀ j, (C j).length = k) {i : Nat} (hi : i < n) : w.there b (i * k) k := fun j hj => by
  have hg := rowC_get (vs := vs) hC hi hj
  have hj' : j < (C i).length := by rw [hC]; exact hj
  rw [List.getElem?_eq_getElem hj'] at hg
  obtain ⟨hlt, he⟩ := List.getElem?_eq_some_iff.1 hg
  exact ⟨by rw [BlkG.cell h _ hlt]; rfl, BlkG.free h _⟩
theorem RowC.set (h : RowC w b T n C vs) (hC : ∀ j, (C j).length = k) {i : Nat} (hi : i < n) {x : List Value} (hx : x.length = k) : RowC (w.setCells b (i * k) x) b T n (updC C i x) vs := by
  have hm : i ∈ List.range n := List.mem_range.2 hi
  obtain ⟨s, t, e⟩ := List.append_of_mem hm
  have hnd : (List.range n).Nodup := List.nodup_range
  have hs : s.length = i := by
    have h1 : (List.range n)[s.length]? = some i := by rw [e]; simp
    have h2 := (List.getElem?_eq_some_iff.1 h1).2
    simpa using h2
  rw [e, List.nodup_append] at hnd
  obtain ⟨-, hnt, hd⟩ := hnd
  have hs' : ∀ j ∈ s, updC C i x j = C j := fun j hj => by
    unfold updC; rw [if_neg (hd j hj i (by simp))]
  have ht' : ∀ j ∈ t, updC C i x j = C j := fun j hj => by
    unfold updC; rw [if_neg]
    rintro rfl
    exact (List.nodup_cons.1 hnt).1 hj
  have fm : ∀ (l : List Nat), (∀ j ∈ l, updC C i x j = C j) → l.flatMap (updC C i x) = l.flatMap C := fun l hl => by
    rw [List.flatMap_def, List.flatMap_def, List.map_congr_left hl]
  unfold RowC BlkG at *
  rw [e, List.flatMap_append, List.flatMap_cons] at h ⊢
  rw [fm s hs', fm t ht', show updC C i x i = x from if_pos rfl]
  have hl := flat_len k C hC s
  rw [hs] at hl
  have := setCells_mid b T x (C i) (s.flatMap C) (t.flatMap C ++ vs) w (by simpa using h) (by rw [hx, hC])
  rw [hl] at this
  simpa using this
end
theorem wpList_store_rowC {P : Program} {ops : Array Oper} {rest : List Oper} {o : Oper} {a : Act} {w : World} {Q : Exit → Act → World → Prop} (hgd : o.guard = none) (ty : TypeId) (x y : Operand) (ho : o.op = .store ty x y)
    (b i k f : Nat) (hf : f = i * k) (hx : a.eval x = .pointer (some ⟨b, f, none⟩)) (T : TypeId) (n : Nat) (C : Nat → List Value) (vs x' : List Value) (hB : RowC w b T n C vs) (hC : ∀ j, (C j).length = k) (hi : i < n) (hy : a.eval y = .agg x'.toArray) (hl : x'.length = k)
    (hsz : (P.info? ty).map (·.size) = some x'.length) (h1 : x'.all (·.oneCell') = true)
    (h : ∀ w', RowC w' b T n (updC C i x') vs → Only (· = b) w w' → wpList P ops Q rest (a.put o.dst undef) w') : wpList P ops Q (o :: rest) a w :=
  wpList_plain hgd fun _ hK => wp_store_mid ty x y ho b f _ hx hy (by subst hf; have := hB.there hC hi; simpa [hl] using this) (by simpa using hsz) (by simpa using h1) (hK _ _ (h _ (by subst hf; exact hB.set hC hi hl) (setCells_only _ _ _ _)))
end
section
open Go.RowKit
def BlkX (w0 w : World) (b n : Nat) (C : Nat → List Value) (vs : List Value) (F : Nat → BlkN) : Prop :=
  RowC w b 51 n C vs ∧ (∀ j, (C j).length = 4) ∧ ∀ i, i < n → ∃ p q, C i = blkC p q (F i) ∧ IntsAt w p q (F i).next ∧ ∀ x, p = some x → w0.heap.size ≤ x.block ∧ x.block ≠ b
section
variable {w0 w w' : World} {b n : Nat} {C : Nat → List Value} {vs : List Value} {F F' : Nat → BlkN}
theorem BlkX.below (h : BlkX w0 w b n C vs F) (hb : Below w.heap.size w w') : BlkX w0 w' b n C vs F := ⟨h.1.below hb, h.2.1, fun i hi => by
  obtain ⟨p, q, e, h1, h2⟩ := h.2.2 i hi
  exact ⟨p, q, e, h1.below hb, h2⟩⟩
theorem BlkX.set (h : BlkX w0 w b n C vs F) (ho : Only (· = b) w w') {i : Nat} {p : Option Addr} {q : Nat} {B : BlkN} (hr : RowC w' b 51 n (updC C i (blkC p q B)) vs) (hI : IntsAt w p q B.next) (hp : ∀ x, p = some x → w0.heap.size ≤ x.block ∧ x.block ≠ b) :
    BlkX w0 w' b n (updC C i (blkC p q B)) vs (fun j => if j = i then B else F j) := ⟨hr, fun (j : Nat) => by
  show (if j = i then blkC p q B else C j).length = 4
  split
  · rfl
  · exact h.2.1 j, fun j hj => by
  show ∃ p' q', (if j = i then blkC p q B else C j) = blkC p' q' (if j = i then B else F j) ∧ IntsAt w' p' q' (if j = i then B else F j).next ∧ _
  by_cases e : j = i
  · rw [if_pos e, if_pos e]
    exact ⟨p, q, rfl, hI.only ho (fun x hx => (hp x hx).2), hp⟩
  · rw [if_neg e, if_neg e]
    obtain ⟨p', q', e', h1, h2⟩ := h.2.2 j hj
    exact ⟨p', q', e', h1.only ho (fun x hx => (h2 x hx).2), h2⟩⟩
theorem BlkX.congr (h : BlkX w0 w b n C vs F) (e : ∀ i, i < n → F i = F' i) : BlkX w0 w b n C vs F' := ⟨h.1, h.2.1, fun i hi => by rw [← e i hi]; exact h.2.2 i hi⟩
theorem BlkX.at (h : BlkX w0 w b n C vs F) {i : Nat} (hi : i < n) : ∃ p q, w.rangeAt b (0 + i * 4) (blkC p q (F i)) ∧ IntsAt w p q (F i).next := by
  obtain ⟨p, q, e, h1, -⟩ := h.2.2 i hi
  exact ⟨p, q, by rw [← e]; exact h.1.at h.2.1 hi, h1⟩
theorem BlkX.all (h : BlkX w0 w b n C vs F) {bs : List BlkN} (hn : bs.length = n) (e : ∀ i (hi : i < bs.length), F i = bs[i]) (c : Nat) : BlksAt w (some ⟨b, 0, none⟩) c bs := ⟨fun i hi => by
  obtain ⟨p, q, h1, h2⟩ := h.at (i := i) (by omega)
  rw [e i hi] at h1 h2
  exact ⟨b, 0, p, q, rfl, h1, h2⟩, by simp⟩
end
theorem getD_lt {α : Type} {l : List α} {i : Nat} (d : α) (h : i < l.length) : l.getD i d = l[i] := by simp [h]
def goF (cs : List Nat) (G : List (List Nat)) (k i : Nat) : BlkN := if i < k then blkN cs (G.getD i []) else spanB (G.getD i [])
theorem goF_step (cs : List Nat) (G : List (List Nat)) (k i : Nat) : (if i = k then blkN cs (G.getD k []) else goF cs G k i) = goF cs G (k + 1) i := by
  unfold goF
  by_cases e : i = k
  · subst e; rw [if_pos rfl, if_pos (by omega)]
  · rw [if_neg e]
    by_cases h : i < k
    · rw [if_pos h, if_pos (by omega)]
    · rw [if_neg h, if_neg (by omega)]
def MadeB (w w' : World) (e : Ending) (bs : List BlkN) : Prop := ∃ p q, e = .returned (.slice p bs.length q) ∧ BlksAt w' p q bs ∧ ∀ x, p = some x → w.heap.size ≤ x.block
set_option maxRecDepth 100000 in
set_option maxHeartbeats 4000000 in
theorem refBlocks_anyL (cs : List Nat) (a : Option Addr) (c : Nat) (w : World) (h : CodeL w a c cs) :
    Calls Tryz.prog 15 #[.slice a cs.length c] w fun e w' => MadeB w w' e (blksN cs) ∧ Below w.heap.size w w' := by
  have hsp := refSpans_anyL cs a c w h
  have hgo := fun (g : List Nat) (hg : g ∈ grps cs) (W : World) (hW : Below w.heap.size w W) => refGoes_anyL cs g hg a c W (h.below hW)
  have hG : (spansN cs).length = (grps cs).length := by unfold spansN; rw [List.length_map]
  have hgl : (grps cs).length ≤ 1048576 := by have := grps_len cs; have := h.len; omega
  have hu := Tryz.underlying51
  by_cases h0 : (grps cs).length = 0
  · have hs0 : spansN cs = [] := List.eq_nil_of_length_eq_zero (by omega)
    have hb0 : blksN cs = [] := by unfold blksN; rw [List.eq_nil_of_length_eq_zero h0]; rfl
    rw [hb0]
    rw [hs0] at hsp
    clear hs0 hb0 hG h0 hgo hgl hu
    replace h := qh h
    go_enter Tryz.func15, Tryz.ntmps15
    go_wp2_with (go_at_call 43; refine hsp.mono ?_; rintro e w1 ⟨⟨v, rfl, hv⟩, hb1⟩; obtain ⟨a1, c1, rfl, hB1, hx1, -⟩ := hv.slice; clear hsp hv; replace hb1 := qh hb1; replace hB1 := qh hB1; replace hx1 := qh hx1)
    go_loop [4] (fun iv => iv = .int .i64 0) (fun _ => 0)
    case atStart => rfl
    case round =>
      subst hrel
      go_wp2
      go_ret
      exact ⟨⟨a1, c1, rfl, hB1.out, hx1.out⟩, hb1.out⟩
  · have hmem : Hid (∀ i, i < (grps cs).length → (grps cs).getD i [] ∈ grps cs) := qh fun i hi => by rw [getD_lt _ hi]; exact List.getElem_mem hi
    have hne : spansN cs ≠ [] := fun e => by rw [e] at hG; simp at hG; omega
    have hst : Hid (∀ i, i < (grps cs).length → (spansN cs).getD i blk0 = goF cs (grps cs) 0 i) := qh fun i hi => by
      unfold goF spansN
      rw [if_neg (by omega), getD_lt _ (by rw [List.length_map]; exact hi), getD_lt _ hi, List.getElem_map]
    have hall : Hid (∀ i (hi : i < (blksN cs).length), goF cs (grps cs) (grps cs).length i = (blksN cs)[i]) := qh fun i hi => by
      have hi' : i < (grps cs).length := by unfold blksN at hi; simpa using hi
      unfold goF
      rw [if_pos hi', getD_lt _ hi']
      simp [blksN]
    have hbl : (blksN cs).length = (grps cs).length := by unfold blksN; rw [List.length_map]
    have hat : Hid (∀ i, goF cs (grps cs) i i = spanB ((grps cs).getD i [])) := qh fun i => by unfold goF; rw [if_neg (by omega)]
    have hstep := qh (goF_step cs (grps cs))
    have hfl := flat_range (blkC none 0) blk0 (spansN cs)
    have hno : ∀ b ∈ spansN cs, b.next = [] := fun b hb => by
      unfold spansN at hb
      obtain ⟨g, -, rfl⟩ := List.mem_map.1 hb
      rfl
    replace h := qh h
    rw [hG] at hfl
    have hsp2 : Hid (Calls Tryz.prog 43 #[.slice a cs.length c] w fun e w' => (∃ b q, ∃ C vs, e = .returned (.slice (some ⟨b, 0, none⟩) (grps cs).length q) ∧ BlkX w w' b (grps cs).length C vs (goF cs (grps cs) 0) ∧ (∀ j, 0 ≤ j → j < (grps cs).length → C j = blkC none 0 (goF cs (grps cs) 0 j)) ∧ w.heap.size ≤ b) ∧ Below w.heap.size w w') := qh (hsp.mono fun e w' ⟨⟨v, e1, hv⟩, hb⟩ => by
      obtain ⟨a1, c1, e2, -, -, hx⟩ := hv.slice
      obtain ⟨b, rfl, hbb, vs, hB⟩ := hx hne
      rw [hfl] at hB
      refine ⟨⟨b, c1, fun i => blkC none 0 ((spansN cs).getD i blk0), vs, by rw [e1, e2, hG], ⟨hB, fun j => rfl, fun i hi => ⟨none, 0, by show blkC none 0 _ = _; rw [hst.out i hi], ?_, fun x hx => by cases hx⟩⟩, fun j _ hj => by show blkC none 0 _ = _; rw [hst.out j hj], hbb⟩, hb⟩
      rw [← hst.out i hi, hno _ (by rw [getD_lt _ (by omega)]; exact List.getElem_mem _)]
      exact intsAt_nil _)
    clear hsp hfl hno hne hst hG
    replace hgo := qh hgo
    generalize hR : blksN cs = R at *
    generalize hGG : grps cs = G at *
    clear hR hGG
    replace hbl := qh hbl
    generalize hn : G.length = n at *
    replace hn := qh hn
    go_enter Tryz.func15, Tryz.ntmps15
    go_wp2_with (go_at_call 43; refine hsp2.out.mono ?_; rintro e w1 ⟨⟨b, q, C, vs, rfl, hX, hN, hbb⟩, hb1⟩; clear hsp2; replace hN := qh hN; replace hb1 := qh hb1; replace hX := qh hX; replace hbb := qh hbb)
    go_loopw [4] (fun iv wx => ∃ (i : Nat) (C : Nat → List Value), i ≤ n ∧ iv = .int .i64 i ∧ Hid (BlkX w wx b n C vs (goF cs G i)) ∧ Hid (∀ j, i ≤ j → j < n → C j = blkC none 0 (goF cs G i j)) ∧ Hid (Below w.heap.size w wx)) (fun iv _ => n - (intOf iv).toNat)
    case atStart => exact ⟨0, C, by omega, rfl, hX, hN, hb1⟩
    case round =>
      clear hX hb1 hN C
      obtain ⟨i, C, hi, rfl, hX, hN, hb1⟩ := hrel
      by_cases hlt : i < n
      · have hltI : (i : Int) < n := by omega
        have hr := hX.out.1.at hX.out.2.1 hlt
        have hC := hX.out.2.1
        have hbw := hX.out.1.lt
        have hbz := hb1.out.size
        rw [hN.out i (Nat.le_refl _) hlt, hat.out] at hr
        have hgo1 := hgo.out _ (hmem.out i hlt) wr hb1.out
        have hgs := qh (hstep.out i)
        generalize G.getD i [] = g at *
        replace hgo1 := qh hgo1
        replace hC := qh hC
        generalize hBB : blkN cs g = BB at *
        replace hBB := qh hBB
        go_wp2_with (first
          | (refine wpList_load_mid rfl 51 _ rfl b (0 + i * 4) (by rw [Nat.zero_add]; rfl) (blkC none 0 (spanB g)) _ hr hu rfl (by kernel_rfl) ?_)
          | (go_at_call 44; refine hgo1.out.mono ?_; rintro e w2 ⟨⟨p, q, rfl, hI, hz⟩, hb2⟩; replace hX := qh (hX.out.below hb2); replace hI := qh hI; replace hz := qh hz; replace hb2 := qh hb2)
          | (refine wpList_store_rowC rfl 51 _ _ rfl b i 4 (i * 4) rfl rfl 51 n C vs (blkC p q BB) hX.out.1 hC.out hlt rfl rfl (by kernel_rfl) rfl ?_; intro w3 hr3 ho3; replace hr3 := qh hr3; replace ho3 := qh ho3))
        refine ⟨⟨i + 1, updC C i (blkC p q BB), by omega, by go_num, qh ?_, qh fun j h1 h2 => ?_, qh ?_⟩, by simp [intOf]; omega⟩
        · exact (hX.out.set ho3.out hr3.out hI.out (fun x hx => by have := hz.out x hx; omega)).congr fun j _ => hgs.out j
        · have e := hN.out j (by omega) h2
          have e2 := hgs.out j
          rw [if_neg (by omega)] at e2
          show (if j = i then _ else C j) = _
          rw [if_neg (by omega), e, e2]
        · exact ho3.out.below (xtrans hb1.out hb2.out) (Nat.le_trans hbz hb2.out.size) (by rintro k rfl; exact hbb.out)
      · obtain rfl : i = n := by omega
        clear hlt
        go_wp2
        go_ret
        refine ⟨⟨_, q, by rw [hbl.out]; rfl, hX.out.all hbl.out hall.out q, fun x hx => ?_⟩, hb1.out⟩
        cases hx
        exact hbb.out
theorem refBlocks_any (cs : List Nat) (a : Option Addr) (c : Nat) (w : World) (h : CodeAt w a c cs) :
    Calls Tryz.prog 15 #[.slice a cs.length c] w fun e w' => MadeB w w' e (blksN cs) ∧ Below w.heap.size w w' :=
  refBlocks_anyL cs a c w h.long
end
section
open Go.RowKit
def RdOn (S : Nat → Prop) (R : World → Prop) : Prop := ∀ W W', R W → W.heap.size ≤ W'.heap.size → (∀ k, S k → k < W.heap.size → W'.heap[k]? = W.heap[k]?) → R W'
theorem RdOn.only {S O : Nat → Prop} {R : World → Prop} {W W' : World} (h : RdOn S R) (hR : R W) (ho : Only O W W') (hO : ∀ k, S k → ¬ O k) : R W' := h W W' hR ho.size fun k hk hl => ho.same k hl (hO k hk)
theorem RdOn.below {S : Nat → Prop} {R : World → Prop} {W W' : World} (h : RdOn S R) (hR : R W) (hb : Below W.heap.size W W') : R W' := h W W' hR hb.size fun k _ hl => hb.block k hl
structure Fac (S : Nat → Prop) (R : World → Prop) : Prop where
  on : RdOn S R
  lt : ∀ W, R W → ∀ k, S k → k < W.heap.size
theorem Fac.below {S : Nat → Prop} {R : World → Prop} {W W' : World} (h : Fac S R) (hR : R W) (hb : Below W.heap.size W W') : R W' := h.on.below hR hb
section
variable {α : Type} {brk : Nat} {w : World} {F : World → Prop} {S : Nat → Prop} {rc p8 : Nat} {x : Int} {t M : Nat}
end
end
section
open Go.RowKit Go.Shelf
theorem wpIn_scope_wide {P : Program} {c : Code} {Q : Exit → Act → World → Prop} {a : Act} {w : World} (h : c.wpIn Fence.wide 0 P (Exit.noGoto Q) a w) : (Code.scope c).wpIn Fence.wide 0 P Q a w :=
  wpIn_wide.2 (wp_scope_straight (wpIn_wide.1 h))
theorem Fac.only' {S O : Nat → Prop} {R : World → Prop} {W W' : World} (h : Fac S R) (hR : R W) (ho : Only O W W') (hO : ∀ k, S k → ¬ O k) : R W' := h.on.only hR ho hO
theorem take_snoc {α : Type} {l pre : List α} {x : α} {k : Nat} (hk : k ≤ l.length) (h : pre ++ [x] = l.take k) : ∃ hl : pre.length < l.length, l[pre.length] = x ∧ pre = l.take pre.length := by
  have hlen := congrArg List.length h
  rw [List.length_append, List.length_take, List.length_singleton] at hlen
  have hkk : k = pre.length + 1 := by omega
  have hl : pre.length < l.length := by omega
  refine ⟨hl, ?_, ?_⟩
  · rw [hkk, List.take_succ_eq_append_getElem hl] at h
    have := (List.append_inj' h rfl).2
    simpa using this.symm
  · rw [hkk, List.take_succ_eq_append_getElem hl] at h
    exact (List.append_inj' h rfl).1
def postL (k : Nat) (St : Nat → (Nat → Prop) → World → Prop) (Stop : Nat → Code → (Nat → Prop) → World → Prop) (S : Nat → Prop) (W : World) : Exit → Act → World → Prop
  | .normal, _, W' => Only S W W' ∧ ∃ S', (∀ j, S' j → S j ∨ W.heap.size ≤ j) ∧ St (k + 1) S' W'
  | .ret, _, W' => Only S W W' ∧ ∃ S', (∀ j, S' j → S j ∨ W.heap.size ≤ j) ∧ Stop k .ret S' W'
  | .exit id, _, W' => Only S W W' ∧ ∃ S', (∀ j, S' j → S j ∨ W.heap.size ≤ j) ∧ Stop k (.exit id) S' W'
  | .goto t, _, W' => Only S W W' ∧ ∃ S', (∀ j, S' j → S j ∨ W.heap.size ≤ j) ∧ Stop k (.goto t) S' W'
  | .panic _, _, _ => False
  | .outgrown, _, _ => False
theorem wp_rangeL {P : Program} {α : Type} {g : Operand} {ps : Array Tmp} {assign body : Code} {Q : Exit → Act → World → Prop} {a : Act} {w w0 : World}
    {gf : Nat} {lb : Array Value} (hg : a.eval g = .func (.func gf) #[] lb) (eg : ∀ args w, (callFunc gf args).run P w = .ok (.enter gf args) w)
    {encs : α → Array Value} {Rd : Nat → Prop} (l : List α) (hRd : ∀ k, Rd k → k < w.heap.size) (hw0 : Below w0.heap.size w0 w)
    (hseq : ∀ W, Below w.heap.size w W → SeqP P gf lb encs Rd (fun xs => xs = l) (fun pre => ∃ k, k ≤ l.length ∧ pre = l.take k) l.length false W) (hps : ∀ x, (encs x).size = ps.size)
    (St : Nat → (Nat → Prop) → World → Prop) (Stop : Nat → Code → (Nat → Prop) → World → Prop) (fac : ∀ k S, Fac S (St k S)) (facS : ∀ k c S, Fac S (Stop k c S))
    (S0 : Nat → Prop) (hS0 : ∀ j, S0 j → w0.heap.size ≤ j ∧ ¬ Rd j) (h0 : St 0 S0 w)
    (hround : ∀ (l0 k : Nat) (hk : k < l.length) (W : World),
      assign.wpIn (Fence.wide.inRound l0) 0 P (Exit.then (fun a₁ W₁ => W₁ = W ∧ ∀ S W₂, Below w0.heap.size w0 W₂ → w.heap.size ≤ W₂.heap.size → (∀ j, Rd j → W₂.heap[j]? = w.heap[j]?) → (∀ j, S j → w0.heap.size ≤ j ∧ ¬ Rd j) → St k S W₂ →
        body.wpIn (Fence.wide.inRound l0) 0 P (postL k St Stop S W₂) a₁ W₂) (fun _ _ _ => False))
        { tmps := (ps.zip (encs l[k])).foldl (fun t (p, v) => t.setIfInBounds p v) a.tmps, defers := [] } W)
    (hdone : ∀ (D : Nat) (S : Nat → Prop) (W : World), w.heap.size ≤ D → ¬ S D → Below w0.heap.size w0 W → (∀ j, Rd j → W.heap[j]? = w.heap[j]?) → (∀ j, S j → w0.heap.size ≤ j) → St l.length S W → W.heap[D]? = some (.deferred (some [])) → Q .normal { a with defers := { target := .collected D, args := #[] } :: a.defers } W)
    (hstop : ∀ (D k : Nat) (c : Code) (S : Nat → Prop) (W : World), k < l.length → w.heap.size ≤ D → ¬ S D → Below w0.heap.size w0 W → (∀ j, Rd j → W.heap[j]? = w.heap[j]?) → (∀ j, S j → w0.heap.size ≤ j) → Stop k c S W → W.heap[D]? = some (.deferred (some [])) → c.wpIn Fence.wide 0 P Q { a with defers := { target := .collected D, args := #[] } :: a.defers } W) :
    (Code.rangeFunc g ps assign body).wpIn Fence.wide 0 P Q a w := by
  have stab : ∀ (F : Nat → (Nat → Prop) → World → Prop) (_ : ∀ k S, Fac S (F k S)) (m : List α → Nat), Stable w.heap.size (fun O (pre : List α) W => Below w0.heap.size w0 W ∧ w.heap.size ≤ W.heap.size ∧ (∀ j, Rd j → W.heap[j]? = w.heap[j]?) ∧ ∃ S, (∀ j, S j → ¬ O j ∧ w0.heap.size ≤ j ∧ ¬ Rd j) ∧ F (m pre) S W) := by
    rintro F fF m O O' s W W' ⟨h1, h2, h3, S, h4, h5⟩ hO hon hO'
    refine ⟨hon.below h1 h1.size (fun i hi => by have := hO i hi; have := hw0.size; omega), Nat.le_trans h2 hon.size, fun j hj => ?_, S, fun j hj => ⟨fun h => ?_, (h4 j hj).2⟩, (fF _ S).only' h5 hon fun j hj => (h4 j hj).1⟩
    · have := hRd j hj
      rw [hon.same j (by omega) (fun h => by have := hO j h; omega)]
      exact h3 j hj
    · have hl := (fF _ S).lt _ h5 j hj
      rcases hO' j h with h | h
      · exact (h4 j hj).1 h
      · omega
  refine wp_rangeP hg eg (encs := encs) (Rd := Rd) (S := fun xs => xs = l) (Sp := fun pre => ∃ k, k ≤ l.length ∧ pre = l.take k) (N := l.length) (inf := false) hRd hseq hps
    (fun O pre W => Below w0.heap.size w0 W ∧ w.heap.size ≤ W.heap.size ∧ (∀ j, Rd j → W.heap[j]? = w.heap[j]?) ∧ ∃ S, (∀ j, S j → ¬ O j ∧ w0.heap.size ≤ j ∧ ¬ Rd j) ∧ St pre.length S W)
    (fun c O pre W => Below w0.heap.size w0 W ∧ w.heap.size ≤ W.heap.size ∧ (∀ j, Rd j → W.heap[j]? = w.heap[j]?) ∧ ∃ S, (∀ j, S j → ¬ O j ∧ w0.heap.size ≤ j ∧ ¬ Rd j) ∧ (Stop (pre.length - 1) c S W ∧ pre.length - 1 < l.length))
    (stab St fac List.length) (fun c => stab (fun k S W => Stop k c S W ∧ k < l.length) (fun k S => ⟨fun W W' h hz hs => ⟨(facS k c S).on W W' h.1 hz hs, h.2⟩, fun W h => (facS k c S).lt W h.1⟩) (fun pre => pre.length - 1)) ⟨hw0, Nat.le_refl _, fun _ _ => rfl, S0, fun j hj => ⟨fun h => h, hS0 j hj⟩, h0⟩ (fun h => by cases h) ?_ ?_ ?_
  · rintro l0 O pre x W hOl hO hI hlen ⟨k, hk, hsp⟩
    obtain ⟨hl, hx, -⟩ := take_snoc hk hsp
    subst hx
    refine wpIn_mono (hround l0 pre.length hl W) ?_
    rintro e a1 W1 hp
    cases e with
    | normal =>
      obtain ⟨rfl, hb⟩ := hp
      refine ⟨Keep.refl _ _, fun W2 hon => ?_⟩
      obtain ⟨h1, h2, h3, S, h4, h5⟩ := stab St fac List.length O O pre W1 W2 hI (fun k h => (hO k h).1) (hon.mono fun j _ e => by rw [e]; exact hOl) (fun k h => .inl h)
      have hO2 : ∀ k, O k → k < W2.heap.size := fun k h => Nat.lt_of_lt_of_le (hO k h).2 hon.size
      refine wpIn_mono (hb S W2 h1 h2 h3 (fun j hj => (h4 j hj).2) h5) ?_
      have key : ∀ (F : Nat → (Nat → Prop) → World → Prop) (W3 : World), Only S W2 W3 → (∃ S', (∀ j, S' j → S j ∨ W2.heap.size ≤ j) ∧ F 0 S' W3) →
          Keep (fun k => O k ∨ Rd k) W2 W3 ∧ Below w0.heap.size w0 W3 ∧ w.heap.size ≤ W3.heap.size ∧ (∀ j, Rd j → W3.heap[j]? = w.heap[j]?) ∧ ∃ S, (∀ j, S j → ¬ O j ∧ w0.heap.size ≤ j ∧ ¬ Rd j) ∧ F 0 S W3 := by
        rintro F W3 ho ⟨S', e1, e2⟩
        refine ⟨⟨ho.size, fun j hj h => ho.same j hj fun hs => ?_⟩, ho.below h1 h1.size (fun j hj => (h4 j hj).2.1), Nat.le_trans h2 ho.size, fun j hj => ?_, S', fun j hj => ?_, e2⟩
        · rcases h with h | h
          · exact (h4 j hs).1 h
          · exact (h4 j hs).2.2 h
        · have := hRd j hj
          rw [ho.same j (by omega) fun hs => (h4 j hs).2.2 hj]
          exact h3 j hj
        · rcases e1 j hj with h | h
          · exact h4 j h
          · have := hw0.size
            exact ⟨fun ho => by have := hO2 j ho; omega, by omega, fun hr => by have := hRd j hr; omega⟩
      rintro e a3 W3 hp
      cases e with
      | normal =>
        obtain ⟨ho, hs⟩ := hp
        obtain ⟨r1, r2, r3, r4, r5⟩ := key (fun _ S W => St (pre.length + 1) S W) W3 ho hs
        exact ⟨r1, r2, r3, r4, by rw [List.length_append]; exact r5⟩
      | ret =>
        obtain ⟨ho, S', hS', hs⟩ := hp
        obtain ⟨r1, r2, r3, r4, r5⟩ := key (fun _ S W => Stop pre.length .ret S W ∧ pre.length < l.length) W3 ho ⟨S', hS', hs, hl⟩
        exact ⟨r1, r2, r3, r4, by rw [List.length_append]; exact r5⟩
      | exit id =>
        obtain ⟨ho, S', hS', hs⟩ := hp
        obtain ⟨r1, r2, r3, r4, r5⟩ := key (fun _ S W => Stop pre.length (.exit id) S W ∧ pre.length < l.length) W3 ho ⟨S', hS', hs, hl⟩
        exact ⟨r1, r2, r3, r4, by rw [List.length_append]; exact r5⟩
      | goto t =>
        obtain ⟨ho, S', hS', hs⟩ := hp
        obtain ⟨r1, r2, r3, r4, r5⟩ := key (fun _ S W => Stop pre.length (.goto t) S W ∧ pre.length < l.length) W3 ho ⟨S', hS', hs, hl⟩
        exact ⟨r1, r2, r3, r4, by rw [List.length_append]; exact r5⟩
      | panic ch => exact hp.elim
      | outgrown => exact hp.elim
    | _ => exact hp.elim
  · rintro D xs O W hD hOD hO hS ⟨h1, h2, h3, S, h4, h5⟩ hK
    rw [show xs = l from hS] at h5
    exact hdone D S W hD (fun h => (h4 D h).1 hOD) h1 h3 (fun j hj => (h4 j hj).2.1) h5 hK
  · rintro D c pre O W hD hOD hO hSp ⟨h1, h2, h3, S, h4, h5, h6⟩ hK
    exact hstop D _ c S W h6 hD (fun h => (h4 D h).1 hOD) h1 h3 (fun j hj => (h4 j hj).2.1) h5 hK
end
section
open Go.RowKit Go.Shelf
attribute [local go_sem] Oper.semAt_some
theorem size_any (c : Nat) (w : World) (hc : c < 256) : Calls Tryz.prog 131 #[.int .u8 c] w fun e w' => e = .returned (.int .i64 (szN c)) ∧ w = w' := by
  by_cases h1 : 96 ≤ c
  · by_cases h2 : c ≤ 127
    · have e : szN c = c - 95 := by unfold szN; rw [if_pos ⟨h1, h2⟩]
      have e2 : ((c - 95 : Nat) : Int) = (c : Int) - 95 := by omega
      rw [e, e2]
      have h3 : (95 : Int) < c := by omega
      have h4 : (c : Int) ≤ 127 := by omega
      clear e e2
      go_enter Tryz.func131, Tryz.ntmps131
      go_wp2
      go_ret
      exact ⟨rfl, rfl⟩
    · have e : szN c = 0 := by unfold szN; rw [if_neg (by omega)]
      rw [e]
      have h3 : (95 : Int) < c := by omega
      have h4 : (127 : Int) < c := by omega
      clear e
      go_enter Tryz.func131, Tryz.ntmps131
      go_wp2
      go_ret
      exact ⟨rfl, rfl⟩
  · have e : szN c = 0 := by unfold szN; rw [if_neg (by omega)]
    rw [e]
    have h3 : (c : Int) ≤ 95 := by omega
    clear e
    go_enter Tryz.func131, Tryz.ntmps131
    go_wp2
    go_ret
    exact ⟨rfl, rfl⟩
theorem ops_any (a : Option Addr) (n c : Nat) (w : World) : Calls Tryz.prog 106 #[.slice a n c] w fun e w' => e = .returned (.func (.func 130) #[] #[.pointer (some ⟨w.heap.size, 0, none⟩)]) ∧ w.alloc (.cells #[.slice a n c] 22) = w' := by
  go_enter Tryz.func106, Tryz.ntmps106
  go_wp2
  go_ret
  exact ⟨rfl, rfl⟩
def encOp (cs : List Nat) (x : Nat) : Array Value := #[.int .i64 x, .int .u8 (byN cs x)]
def codeRd (bx : Nat) (a : Option Addr) (cs : List Nat) (k : Nat) : Prop := k = bx ∨ (cs ≠ [] ∧ ∃ y, a = some y ∧ y.block = k)
theorem code_keep {O : Nat → Prop} {W W' : World} {a : Option Addr} {c : Nat} {cs : List Nat} (h : CodeAt W a c cs) (hk : Keep O W W') (hO : ∀ k, (cs ≠ [] ∧ ∃ y, a = some y ∧ y.block = k) → O k) : CodeAt W' a c cs :=
  ⟨fun i hi => by
    obtain ⟨b, o, e, hc⟩ := h.row i hi
    exact ⟨b, o, e, (World.cell?_of_block (hk.same b (cell_lt hc) (hO b ⟨fun e => by rw [e] at hi; simp [natI] at hi, _, e, rfl⟩))).trans hc⟩, h.nil, h.len, h.ok, h.cap⟩
theorem drop_cons {α : Type} {l : List α} {k : Nat} {x : α} {r : List α} (h : l.drop k = x :: r) : ∃ hk : k < l.length, l[k] = x ∧ l.drop (k + 1) = r ∧ l.take (k + 1) = l.take k ++ [x] := by
  have hk : k < l.length := by
    rcases Nat.lt_or_ge k l.length with h1 | h1
    · exact h1
    · rw [List.drop_eq_nil_of_le h1] at h; cases h
  rw [List.drop_eq_getElem_cons hk] at h
  injection h with h1 h2
  exact ⟨hk, h1, h2, by rw [List.take_succ_eq_append_getElem hk, h1]⟩
set_option maxRecDepth 100000 in
set_option maxHeartbeats 1000000 in
theorem ops_seq (cs : List Nat) (bx : Nat) (a : Option Addr) (c : Nat) (W : World) (hx : Box W bx (.slice a cs.length c) 22) (hm : CodeAt W a c cs) :
    SeqP Tryz.prog 130 #[.pointer (some ⟨bx, 0, none⟩)] (encOp cs) (codeRd bx a cs) (fun xs => xs = opsL cs) (fun pre => ∃ k, k ≤ (opsL cs).length ∧ pre = (opsL cs).take k) (opsL cs).length false W := by
  intro l0 J Jx hJ hJx hY h0 _
  replace hJ := qh hJ
  replace hJx := qh hJx
  replace hY := qh hY
  have hlen := hm.len
  replace hm := qh hm
  replace hx := qh hx
  replace h0 := qh h0
  refine callsIn_of_wp Tryz.func130 rfl trivial ?_ rfl
  simp only [Tryz.ntmps130, List.size_toArray, List.length_cons, List.length_nil, Nat.reduceAdd, Nat.reduceSub, Array.replicate_succ, Array.replicate_zero, List.push_toArray, List.append_toArray, List.nil_append, List.cons_append]
  gi_wp2
  refine wpIn_scope_wide ?_
  gi_wp2
  refine wpIn_label ?_
  gi_wp2
  gi_loopw [3] (fun iv wr => ∃ (k x : Nat), iv = .int .i64 x ∧ x ≤ 500 ∧ Hid (opsA cs x = (opsL cs).drop k) ∧ Hid (k ≤ (opsL cs).length) ∧ Hid (Box wr bx (.slice a cs.length c) 22) ∧ Hid (CodeAt wr a c cs) ∧ Hid (J (fun _ => False) ((opsL cs).take k) wr)) (fun iv _ => 600 - (intOf iv).toNat)
  case atStart => exact ⟨0, 0, rfl, by omega, qh rfl, qh (Nat.zero_le _), hx, hm, h0⟩
  case round =>
    clear hx hm h0
    obtain ⟨k, x, rfl, hx5, ho, hk, hx, hm, hJs⟩ := hrel
    have hxc := hx.out.cell
    by_cases hlt : x < cs.length
    · have hltI : (x : Int) < cs.length := by omega
      obtain ⟨b, o, rfl, hc, h256⟩ := hm.out.get hlt
      have ho2 := ho.out
      rw [opsA_lt hlt] at ho2
      obtain ⟨hkl, hke, hdr, htk⟩ := drop_cons ho2.symm
      have hs32 := szN_le (byN cs x)
      have h00 : cs ≠ [] := fun e => by rw [e] at hlt; simp at hlt
      have hnx : nxN cs x = x + 1 + szN (byN cs x) := rfl
      obtain ⟨fnc, tmps, assign, body, hy, hR⟩ := hY.out (fun _ => False) ((opsL cs).take k) x wr (fun k h => h.elim) hJs.out (by rw [List.length_take]; omega) ⟨k + 1, by omega, htk.symm⟩
      rw [← htk] at hR
      replace hR := qh hR
      replace hdr := qh hdr
      clear ho2 hke htk
      replace hkl := qh hkl
      generalize hS : szN (byN cs x) = s at *
      have hsz := qh fun W => size_any (byN cs x) W h256
      rw [hS] at hsz
      have hxn : nxN cs x ≤ 500 := by omega
      clear hS
      replace hnx := qh hnx
      unfold encOp at hy
      generalize byN cs x = y at *
      gi_wp2
      refine ⟨rfl, hR.out.mono ?_⟩
      rintro e W3 (⟨rfl, hJ3, hk3⟩ | ⟨rfl, hJx3, hk3⟩)
      · have hx3 := qh (show Box W3 bx _ _ from (hk3.same bx hx.out.lt (.inr (.inl rfl))).trans hx.out)
        have hm3 := qh (code_keep hm.out hk3 (fun k h => .inr (.inr h)))
        have hxc3 := hx3.out.cell
        have hc3 : W3.cell? ⟨b, o + x, none⟩ = some (.int .u8 y) := (World.cell?_of_block (hk3.same b (cell_lt hc) (.inr (.inr ⟨h00, _, rfl, rfl⟩)))).trans hc
        replace hJ3 := qh hJ3
        clear hk3 hJs hx hm hxc hc hR
        gi_wp2
        refine ⟨trivial, rfl, (callsIn_wide.2 (hsz.out _)).mono ?_⟩
        rintro e w' ⟨rfl, rfl⟩
        gi_wp2
        have hv : Value.int .i64 ((x : Int) + (1 + (s : Int))) = .int .i64 ((nxN cs x : Nat) : Int) := by rw [hnx.out]; congr 1; omega
        refine ⟨⟨k + 1, nxN cs x, hv, hxn, qh hdr.out.symm, qh hkl.out, hx3, hm3, hJ3⟩, ?_⟩
        simp [intOf]; omega
      · gi_wp2
        rw [Exit.noGoto_normal]
        go_end0
        exact ⟨⟨_, rfl⟩, .inr ⟨_, _, ⟨k + 1, hkl.out, rfl⟩, fun k h => h.elim, hJx3⟩⟩
    · have ho2 := ho.out
      rw [opsA_ge (by omega)] at ho2
      have hkl : k = (opsL cs).length := by
        have := congrArg List.length ho2
        rw [List.length_nil, List.length_drop] at this
        have := hk.out
        omega
      replace ho2 := qh ho2
      rw [hkl, List.take_length] at hJs
      replace hkl := qh hkl
      gi_wp2
      rw [Exit.noGoto_normal]
      go_end0
      exact ⟨⟨_, rfl⟩, .inl ⟨_, _, rfl, fun k h => h.elim, hJs.out⟩⟩
end
end Go.Proofs.YtijkdabmegbcjaaGreatDoor
