/- A block of rows of k cells each: read by rows, a row laid anew. The document's flow: all blocks. Plain laws: a walk, layer by layer. -/
import Derived.Test.YtijkdabmegbcjaaGreatDoorM16
import Derived.Test.YtijkdabmegbcjaaGreatDoorM14
import Derived.Test.YtijkdabmegbcjaaGreatDoorM17
set_option linter.unusedVariables false
set_option linter.unusedSimpArgs false
namespace Go.Proofs.YtijkdabmegbcjaaGreatDoor
open Go.RowKit

theorem setCells_mid (b : Nat) (T : TypeId) : ∀ (vs mid pre rest : List Value) (w : World), w.heap[b]? = some (.cells (pre ++ (mid ++ rest)).toArray T (0, 0)) → vs.length = mid.length → (w.setCells b pre.length vs).heap[b]? = some (.cells (pre ++ (vs ++ rest)).toArray T (0, 0))
  | [], mid, pre, rest, w, h, hl => by
    have : mid = [] := List.length_eq_zero_iff.1 (by simpa using hl.symm)
    subst this
    exact h
  | v :: vs, m :: mid, pre, rest, w, h, hl => by
    have h2 : (w.setCell ⟨b, pre.length, none⟩ v).heap[b]? = some (.cells ((pre ++ [v]) ++ (mid ++ rest)).toArray T (0, 0)) := by
      rw [heap_setCell_same w b pre.length _ T _ h]
      congr 2
      apply Array.ext'
      simp
    have := setCells_mid b T vs mid (pre ++ [v]) rest (w.setCell ⟨b, pre.length, none⟩ v) h2 (by simpa using hl)
    rw [World.setCells]
    simpa using this
/-- Rows 0, .., n - 1, and other cells behind. -/
def RowC (w : World) (b : Nat) (T : TypeId) (n : Nat) (C : Nat → List Value) (vs : List Value) : Prop := BlkG w b T ((List.range n).flatMap C ++ vs)
def updC (C : Nat → List Value) (i : Nat) (x : List Value) : Nat → List Value := fun j => if j = i then x else C j
theorem flat_range {α : Type} (f : α → List Value) (d : α) (l : List α) : l.flatMap f = (List.range l.length).flatMap (fun i => f (l.getD i d)) := by
  have e : l = (List.range l.length).map (fun i => l.getD i d) := by
    apply List.ext_getElem (by simp)
    intro i h1 h2
    simp [h1]
  exact (show l.flatMap f = ((List.range l.length).map (fun i => l.getD i d)).flatMap f by rw [← e]).trans (by rw [List.flatMap_map])
section
variable {w w' : World} {b n : Nat} {T : TypeId} {C : Nat → List Value} {vs : List Value} {k : Nat}
theorem RowC.below (h : RowC w b T n C vs) (hb : Below w.heap.size w w') : RowC w' b T n C vs := BlkG.below h hb
theorem RowC.lt (h : RowC w b T n C vs) : b < w.heap.size := BlkG.lt h
theorem RowC.only {O : Nat → Prop} (h : RowC w b T n C vs) (ho : Only O w w') (hb : ¬ O b) : RowC w' b T n C vs := BlkG.only h ho hb
theorem rowC_get (hC : ∀ j, (C j).length = k) {i j : Nat} (hi : i < n) (hj : j < k) : ((List.range n).flatMap C ++ vs)[i * k + j]? = (C i)[j]? := by
  have hl := flat_len k C hC (List.range n)
  have h1 : i * k + j < n * k := by
    have : (i + 1) * k ≤ n * k := Nat.mul_le_mul_right _ hi
    rw [Nat.add_mul] at this; omega
  rw [List.getElem?_append_left (by rw [hl, List.length_range]; exact h1), flat_get k C hC (List.range n) i j (by simpa using hi) hj]
  simp
theorem RowC.at (h : RowC w b T n C vs) (hC : ∀ j, (C j).length = k) {i : Nat} (hi : i < n) : w.rangeAt b (0 + i * k) (C i) := fun j v hj => by
  have hj4 : j < k := by rw [← hC i]; exact (List.getElem?_eq_some_iff.1 hj).1
  have hg := rowC_get (vs := vs) hC hi hj4
  rw [hj] at hg
  obtain ⟨hlt, he⟩ := List.getElem?_eq_some_iff.1 hg
  rw [Nat.zero_add, BlkG.cell h _ hlt, he]
theorem RowC.there (h : RowC w b T n C vs) (hC : ∀ j, (C j).length = k) {i : Nat} (hi : i < n) : w.there b (i * k) k := fun j hj => by
  have hg := rowC_get (vs := vs) hC hi hj
  have hj' : j < (C i).length := by rw [hC]; exact hj
  rw [List.getElem?_eq_getElem hj'] at hg
  obtain ⟨hlt, he⟩ := List.getElem?_eq_some_iff.1 hg
  exact ⟨by rw [BlkG.cell h _ hlt]; rfl, BlkG.free h _⟩
theorem RowC.set (h : RowC w b T n C vs) (hC : ∀ j, (C j).length = k) {i : Nat} (hi : i < n) {x : List Value} (hx : x.length = k) : RowC (w.setCells b (i * k) x) b T n (updC C i x) vs := by
  have hm : i ∈ List.range n := List.mem_range.2 hi
  obtain ⟨s, t, e⟩ := List.append_of_mem hm
  have hnd : (List.range n).Nodup := List.nodup_range
  have hs : s.length = i := by
    have h1 : (List.range n)[s.length]? = some i := by rw [e]; simp
    have h2 := (List.getElem?_eq_some_iff.1 h1).2
    simpa using h2
  rw [e, List.nodup_append] at hnd
  obtain ⟨-, hnt, hd⟩ := hnd
  have hs' : ∀ j ∈ s, updC C i x j = C j := fun j hj => by
    unfold updC; rw [if_neg (hd j hj i (by simp))]
  have ht' : ∀ j ∈ t, updC C i x j = C j := fun j hj => by
    unfold updC; rw [if_neg]
    rintro rfl
    exact (List.nodup_cons.1 hnt).1 hj
  have fm : ∀ (l : List Nat), (∀ j ∈ l, updC C i x j = C j) → l.flatMap (updC C i x) = l.flatMap C := fun l hl => by
    rw [List.flatMap_def, List.flatMap_def, List.map_congr_left hl]
  unfold RowC BlkG at *
  rw [e, List.flatMap_append, List.flatMap_cons] at h ⊢
  rw [fm s hs', fm t ht', show updC C i x i = x from if_pos rfl]
  have hl := flat_len k C hC s
  rw [hs] at hl
  have := setCells_mid b T x (C i) (s.flatMap C) (t.flatMap C ++ vs) w (by simpa using h) (by rw [hx, hC])
  rw [hl] at this
  simpa using this
end
/-- A row is laid anew. -/
theorem wpList_store_rowC {P : Program} {ops : Array Oper} {rest : List Oper} {o : Oper} {a : Act} {w : World} {Q : Exit → Act → World → Prop} (hgd : o.guard = none) (ty : TypeId) (x y : Operand) (ho : o.op = .store ty x y)
    (b i k f : Nat) (hf : f = i * k) (hx : a.eval x = .pointer (some ⟨b, f, none⟩)) (T : TypeId) (n : Nat) (C : Nat → List Value) (vs x' : List Value) (hB : RowC w b T n C vs) (hC : ∀ j, (C j).length = k) (hi : i < n) (hy : a.eval y = .agg x'.toArray) (hl : x'.length = k)
    (hsz : (P.info? ty).map (·.size) = some x'.length) (h1 : x'.all (·.oneCell') = true)
    (h : ∀ w', RowC w' b T n (updC C i x') vs → Only (· = b) w w' → wpList P ops Q rest (a.put o.dst undef) w') : wpList P ops Q (o :: rest) a w :=
  wpList_plain hgd fun _ hK => wp_store_mid ty x y ho b f _ hx hy (by subst hf; have := hB.there hC hi; simpa [hl] using this) (by simpa using hsz) (by simpa using h1) (hK _ _ (h _ (by subst hf; exact hB.set hC hi hl) (setCells_only _ _ _ _)))
end Go.Proofs.YtijkdabmegbcjaaGreatDoor
namespace Go.Proofs.YtijkdabmegbcjaaGreatDoor
open Go.RowKit

/-- The rows of blocks: where their next ones lie is free. -/
def BlkX (w0 w : World) (b n : Nat) (C : Nat → List Value) (vs : List Value) (F : Nat → BlkN) : Prop :=
  RowC w b 51 n C vs ∧ (∀ j, (C j).length = 4) ∧ ∀ i, i < n → ∃ p q, C i = blkC p q (F i) ∧ IntsAt w p q (F i).next ∧ ∀ x, p = some x → w0.heap.size ≤ x.block ∧ x.block ≠ b
section
variable {w0 w w' : World} {b n : Nat} {C : Nat → List Value} {vs : List Value} {F F' : Nat → BlkN}
theorem BlkX.below (h : BlkX w0 w b n C vs F) (hb : Below w.heap.size w w') : BlkX w0 w' b n C vs F := ⟨h.1.below hb, h.2.1, fun i hi => by
  obtain ⟨p, q, e, h1, h2⟩ := h.2.2 i hi
  exact ⟨p, q, e, h1.below hb, h2⟩⟩
theorem BlkX.set (h : BlkX w0 w b n C vs F) (ho : Only (· = b) w w') {i : Nat} {p : Option Addr} {q : Nat} {B : BlkN} (hr : RowC w' b 51 n (updC C i (blkC p q B)) vs) (hI : IntsAt w p q B.next) (hp : ∀ x, p = some x → w0.heap.size ≤ x.block ∧ x.block ≠ b) :
    BlkX w0 w' b n (updC C i (blkC p q B)) vs (fun j => if j = i then B else F j) := ⟨hr, fun (j : Nat) => by
  show (if j = i then blkC p q B else C j).length = 4
  split
  · rfl
  · exact h.2.1 j, fun j hj => by
  show ∃ p' q', (if j = i then blkC p q B else C j) = blkC p' q' (if j = i then B else F j) ∧ IntsAt w' p' q' (if j = i then B else F j).next ∧ _
  by_cases e : j = i
  · rw [if_pos e, if_pos e]
    exact ⟨p, q, rfl, hI.only ho (fun x hx => (hp x hx).2), hp⟩
  · rw [if_neg e, if_neg e]
    obtain ⟨p', q', e', h1, h2⟩ := h.2.2 j hj
    exact ⟨p', q', e', h1.only ho (fun x hx => (h2 x hx).2), h2⟩⟩
theorem BlkX.congr (h : BlkX w0 w b n C vs F) (e : ∀ i, i < n → F i = F' i) : BlkX w0 w b n C vs F' := ⟨h.1, h.2.1, fun i hi => by rw [← e i hi]; exact h.2.2 i hi⟩
theorem BlkX.at (h : BlkX w0 w b n C vs F) {i : Nat} (hi : i < n) : ∃ p q, w.rangeAt b (0 + i * 4) (blkC p q (F i)) ∧ IntsAt w p q (F i).next := by
  obtain ⟨p, q, e, h1, -⟩ := h.2.2 i hi
  exact ⟨p, q, by rw [← e]; exact h.1.at h.2.1 hi, h1⟩
theorem BlkX.all (h : BlkX w0 w b n C vs F) {bs : List BlkN} (hn : bs.length = n) (e : ∀ i (hi : i < bs.length), F i = bs[i]) (c : Nat) : BlksAt w (some ⟨b, 0, none⟩) c bs := ⟨fun i hi => by
  obtain ⟨p, q, h1, h2⟩ := h.at (i := i) (by omega)
  rw [e i hi] at h1 h2
  exact ⟨b, 0, p, q, rfl, h1, h2⟩, by simp⟩
end
theorem getD_lt {α : Type} {l : List α} {i : Nat} (d : α) (h : i < l.length) : l.getD i d = l[i] := by simp [h]
def goF (cs : List Nat) (G : List (List Nat)) (k i : Nat) : BlkN := if i < k then blkN cs (G.getD i []) else spanB (G.getD i [])
theorem goF_step (cs : List Nat) (G : List (List Nat)) (k i : Nat) : (if i = k then blkN cs (G.getD k []) else goF cs G k i) = goF cs G (k + 1) i := by
  unfold goF
  by_cases e : i = k
  · subst e; rw [if_pos rfl, if_pos (by omega)]
  · rw [if_neg e]
    by_cases h : i < k
    · rw [if_pos h, if_pos (by omega)]
    · rw [if_neg h, if_neg (by omega)]
/-- A slice of blocks that a call made. -/
def MadeB (w w' : World) (e : Ending) (bs : List BlkN) : Prop := ∃ p q, e = .returned (.slice p bs.length q) ∧ BlksAt w' p q bs ∧ ∀ x, p = some x → w.heap.size ≤ x.block
set_option maxRecDepth 100000 in
set_option maxHeartbeats 4000000 in
theorem refBlocks_any (cs : List Nat) (a : Option Addr) (c : Nat) (w : World) (h : CodeAt w a c cs) :
    Calls Tryz.prog 15 #[.slice a cs.length c] w fun e w' => MadeB w w' e (blksN cs) ∧ Below w.heap.size w w' := by
  have hsp := refSpans_any cs a c w h
  have hgo := fun (g : List Nat) (hg : g ∈ grps cs) (W : World) (hW : Below w.heap.size w W) => refGoes_any cs g hg a c W (h.below hW)
  have hG : (spansN cs).length = (grps cs).length := by unfold spansN; rw [List.length_map]
  have hgl : (grps cs).length ≤ 200 := by have := grps_len cs; have := h.len; omega
  have hu := Tryz.underlying51
  by_cases h0 : (grps cs).length = 0
  · have hs0 : spansN cs = [] := List.eq_nil_of_length_eq_zero (by omega)
    have hb0 : blksN cs = [] := by unfold blksN; rw [List.eq_nil_of_length_eq_zero h0]; rfl
    rw [hb0]
    rw [hs0] at hsp
    clear hs0 hb0 hG h0 hgo hgl hu
    replace h := Lib.hid h
    go_enter Tryz.func15, Tryz.ntmps15
    go_wp2_with (go_at_call 43; refine hsp.mono ?_; rintro e w1 ⟨⟨v, rfl, hv⟩, hb1⟩; obtain ⟨a1, c1, rfl, hB1, hx1, -⟩ := hv.slice; clear hsp hv; replace hb1 := Lib.hid hb1; replace hB1 := Lib.hid hB1; replace hx1 := Lib.hid hx1)
    go_loop [4] (fun iv => iv = .int .i64 0) (fun _ => 0)
    case atStart => rfl
    case round =>
      subst hrel
      go_wp2
      go_ret
      exact ⟨⟨a1, c1, rfl, hB1.out, hx1.out⟩, hb1.out⟩
  · have hmem : Hid (∀ i, i < (grps cs).length → (grps cs).getD i [] ∈ grps cs) := Lib.hid fun i hi => by rw [getD_lt _ hi]; exact List.getElem_mem hi
    have hne : spansN cs ≠ [] := fun e => by rw [e] at hG; simp at hG; omega
    have hst : Hid (∀ i, i < (grps cs).length → (spansN cs).getD i blk0 = goF cs (grps cs) 0 i) := Lib.hid fun i hi => by
      unfold goF spansN
      rw [if_neg (by omega), getD_lt _ (by rw [List.length_map]; exact hi), getD_lt _ hi, List.getElem_map]
    have hall : Hid (∀ i (hi : i < (blksN cs).length), goF cs (grps cs) (grps cs).length i = (blksN cs)[i]) := Lib.hid fun i hi => by
      have hi' : i < (grps cs).length := by unfold blksN at hi; simpa using hi
      unfold goF
      rw [if_pos hi', getD_lt _ hi']
      simp [blksN]
    have hbl : (blksN cs).length = (grps cs).length := by unfold blksN; rw [List.length_map]
    have hat : Hid (∀ i, goF cs (grps cs) i i = spanB ((grps cs).getD i [])) := Lib.hid fun i => by unfold goF; rw [if_neg (by omega)]
    have hstep := Lib.hid (goF_step cs (grps cs))
    have hfl := flat_range (blkC none 0) blk0 (spansN cs)
    have hno : ∀ b ∈ spansN cs, b.next = [] := fun b hb => by
      unfold spansN at hb
      obtain ⟨g, -, rfl⟩ := List.mem_map.1 hb
      rfl
    replace h := Lib.hid h
    rw [hG] at hfl
    have hsp2 : Hid (Calls Tryz.prog 43 #[.slice a cs.length c] w fun e w' => (∃ b q, ∃ C vs, e = .returned (.slice (some ⟨b, 0, none⟩) (grps cs).length q) ∧ BlkX w w' b (grps cs).length C vs (goF cs (grps cs) 0) ∧ (∀ j, 0 ≤ j → j < (grps cs).length → C j = blkC none 0 (goF cs (grps cs) 0 j)) ∧ w.heap.size ≤ b) ∧ Below w.heap.size w w') := Lib.hid (hsp.mono fun e w' ⟨⟨v, e1, hv⟩, hb⟩ => by
      obtain ⟨a1, c1, e2, -, -, hx⟩ := hv.slice
      obtain ⟨b, rfl, hbb, vs, hB⟩ := hx hne
      rw [hfl] at hB
      refine ⟨⟨b, c1, fun i => blkC none 0 ((spansN cs).getD i blk0), vs, by rw [e1, e2, hG], ⟨hB, fun j => rfl, fun i hi => ⟨none, 0, by show blkC none 0 _ = _; rw [hst.out i hi], ?_, fun x hx => by cases hx⟩⟩, fun j _ hj => by show blkC none 0 _ = _; rw [hst.out j hj], hbb⟩, hb⟩
      rw [← hst.out i hi, hno _ (by rw [getD_lt _ (by omega)]; exact List.getElem_mem _)]
      exact intsAt_nil _)
    clear hsp hfl hno hne hst hG
    replace hgo := Lib.hid hgo
    generalize hR : blksN cs = R at *
    generalize hGG : grps cs = G at *
    clear hR hGG
    replace hbl := Lib.hid hbl
    generalize hn : G.length = n at *
    replace hn := Lib.hid hn
    go_enter Tryz.func15, Tryz.ntmps15
    go_wp2_with (go_at_call 43; refine hsp2.out.mono ?_; rintro e w1 ⟨⟨b, q, C, vs, rfl, hX, hN, hbb⟩, hb1⟩; clear hsp2; replace hN := Lib.hid hN; replace hb1 := Lib.hid hb1; replace hX := Lib.hid hX; replace hbb := Lib.hid hbb)
    go_loopw [4] (fun iv wx => ∃ (i : Nat) (C : Nat → List Value), i ≤ n ∧ iv = .int .i64 i ∧ Hid (BlkX w wx b n C vs (goF cs G i)) ∧ Hid (∀ j, i ≤ j → j < n → C j = blkC none 0 (goF cs G i j)) ∧ Hid (Below w.heap.size w wx)) (fun iv _ => n - (intOf iv).toNat)
    case atStart => exact ⟨0, C, by omega, rfl, hX, hN, hb1⟩
    case round =>
      clear hX hb1 hN C
      obtain ⟨i, C, hi, rfl, hX, hN, hb1⟩ := hrel
      by_cases hlt : i < n
      · have hltI : (i : Int) < n := by omega
        have hr := hX.out.1.at hX.out.2.1 hlt
        have hC := hX.out.2.1
        have hbw := hX.out.1.lt
        have hbz := hb1.out.size
        rw [hN.out i (Nat.le_refl _) hlt, hat.out] at hr
        have hgo1 := hgo.out _ (hmem.out i hlt) wr hb1.out
        have hgs := Lib.hid (hstep.out i)
        generalize G.getD i [] = g at *
        replace hgo1 := Lib.hid hgo1
        replace hC := Lib.hid hC
        generalize hBB : blkN cs g = BB at *
        replace hBB := Lib.hid hBB
        go_wp2_with (first
          | (refine wpList_load_mid rfl 51 _ rfl b (0 + i * 4) (by rw [Nat.zero_add]; rfl) (blkC none 0 (spanB g)) _ hr hu rfl (by kernel_rfl) ?_)
          | (go_at_call 44; refine hgo1.out.mono ?_; rintro e w2 ⟨⟨p, q, rfl, hI, hz⟩, hb2⟩; replace hX := Lib.hid (hX.out.below hb2); replace hI := Lib.hid hI; replace hz := Lib.hid hz; replace hb2 := Lib.hid hb2)
          | (refine wpList_store_rowC rfl 51 _ _ rfl b i 4 (i * 4) rfl rfl 51 n C vs (blkC p q BB) hX.out.1 hC.out hlt rfl rfl (by kernel_rfl) rfl ?_; intro w3 hr3 ho3; replace hr3 := Lib.hid hr3; replace ho3 := Lib.hid ho3))
        refine ⟨⟨i + 1, updC C i (blkC p q BB), by omega, by go_num, Lib.hid ?_, Lib.hid fun j h1 h2 => ?_, Lib.hid ?_⟩, by simp [intOf]; omega⟩
        · exact (hX.out.set ho3.out hr3.out hI.out (fun x hx => by have := hz.out x hx; omega)).congr fun j _ => hgs.out j
        · have e := hN.out j (by omega) h2
          have e2 := hgs.out j
          rw [if_neg (by omega)] at e2
          show (if j = i then _ else C j) = _
          rw [if_neg (by omega), e, e2]
        · exact ho3.out.below (xtrans hb1.out hb2.out) (Nat.le_trans hbz hb2.out.size) (by rintro k rfl; exact hbb.out)
      · obtain rfl : i = n := by omega
        clear hlt
        go_wp2
        go_ret
        refine ⟨⟨_, q, by rw [hbl.out]; rfl, hX.out.all hbl.out hall.out q, fun x hx => ?_⟩, hb1.out⟩
        cases hx
        exact hbb.out
end Go.Proofs.YtijkdabmegbcjaaGreatDoor
namespace Go.Proofs.YtijkdabmegbcjaaGreatDoor

def insAll (S l : List Nat) : List Nat := l.foldl (fun a n => insW n a) S
theorem insAll_snoc (S l : List Nat) (x : Nat) : insAll S (l ++ [x]) = insW x (insAll S l) := by unfold insAll; rw [List.foldl_append]; rfl
theorem insAll_sl {S l : List Nat} (h : SL S) : SL (insAll S l) := (foldW l S).1 h
theorem mem_insAll (S l : List Nat) (x : Nat) : x ∈ insAll S l ↔ x ∈ S ∨ x ∈ l := (foldW l S).2 x
theorem insAll_take (S l : List Nat) (i : Nat) (h : i < l.length) : insAll S (l.take (i + 1)) = insW l[i] (insAll S (l.take i)) := by
  rw [List.take_succ_eq_append_getElem h, insAll_snoc]
theorem sl_len {l : List Nat} {n : Nat} (h : SL l) (hl : ∀ x ∈ l, x < n) : l.length ≤ n := nodup_le h.nodup hl
theorem insAll_lt {S l : List Nat} {n : Nat} (hS : ∀ x ∈ S, x < n) (hl : ∀ x ∈ l, x < n) : ∀ x ∈ insAll S l, x < n := fun x hx => by
  rcases (mem_insAll S l x).1 hx with h | h
  · exact hS x h
  · exact hl x h
theorem insAll_grow {S l : List Nat} (hS : SL S) (hl : l ≠ []) (hd : ∀ x ∈ l, x ∉ S) : S.length + 1 ≤ (insAll S l).length := by
  obtain ⟨x, hx⟩ := List.exists_mem_of_ne_nil l hl
  have hn : (x :: S).Nodup := List.nodup_cons.2 ⟨hd x hx, hS.nodup⟩
  have := hn.length_le_of_subset (l₂ := insAll S l) fun y hy => by
    rcases List.mem_cons.1 hy with rfl | h
    · exact (mem_insAll S l y).2 (.inr hx)
    · exact (mem_insAll S l y).2 (.inl h)
  simpa using this
theorem insAll_le {S l : List Nat} (hS : SL S) : S.length ≤ (insAll S l).length := hS.nodup.length_le_of_subset fun y hy => (mem_insAll S l y).2 (.inl hy)
/-- The numbers of a list that are not in S, as a set. -/
def offL (S D : List Nat) : List Nat := setL (D.filter fun x => decide (x ∉ S))
theorem offL_in {S D : List Nat} {x : Nat} (h : x ∈ S) : offL S (D ++ [x]) = offL S D := by
  unfold offL; rw [List.filter_append]; simp [h]
theorem offL_out {S D : List Nat} {x : Nat} (h : x ∉ S) : offL S (D ++ [x]) = insW x (offL S D) := by
  unfold offL; rw [List.filter_append]; simp [h, setL_snoc]
theorem offL_len {S D : List Nat} {n : Nat} (h : ∀ x ∈ D, x < n) : (offL S D).length ≤ n := sl_len (setL_sl _) fun x hx => by
  unfold offL at hx
  rw [mem_setL, List.mem_filter] at hx
  exact h x hx.1
theorem layer_off (bs : List BlkN) (S now : List Nat) : layerN bs S now = offL S (now.flatMap (nextOf bs)) := rfl
theorem nexts_step (bs : List BlkN) (now : List Nat) (i : Nat) (h : i < now.length) : (now.take (i + 1)).flatMap (nextOf bs) = (now.take i).flatMap (nextOf bs) ++ nextOf bs now[i] := by
  rw [List.take_succ_eq_append_getElem h, List.flatMap_append]; simp
theorem layer_lt {bs : List BlkN} {S now : List Nat} {n : Nat} (h : ∀ k x, x ∈ nextOf bs k → x < n) : ∀ x ∈ layerN bs S now, x < n := fun x hx => by
  unfold layerN at hx
  rw [mem_setL, List.mem_filter, List.mem_flatMap] at hx
  obtain ⟨⟨k, _, hk⟩, -⟩ := hx
  exact h k x hk
/-- What is still to come when the layer 'now' has been told. -/
def walkT (bs : List BlkN) (fu : Nat) (S now : List Nat) (d : Nat) : List (Nat × Nat) := if now = [] then [] else walkF bs fu (S ++ layerN bs S now) (layerN bs S now) d
theorem walkT_start (bs : List BlkN) (n a : Nat) : walkF bs (n + 1) [a] [a] 0 = [(a, 0)] ++ walkT bs n [a] [a] 1 := by
  unfold walkF walkT
  rw [if_neg (by simp), if_neg (by simp)]
  rfl
theorem walkT_step {bs : List BlkN} {n fu : Nat} {S now : List Nat} (d : Nat) (hn : now ≠ []) (hS : SL S) (hlt : ∀ x ∈ S, x < n) (hL : ∀ x ∈ layerN bs S now, x < n) (hf : n + 1 ≤ fu + S.length) :
    walkT bs fu S now d = (layerN bs S now).map (fun k => (k, d)) ++ walkT bs (fu - 1) (insAll S (layerN bs S now)) (layerN bs S now) (d + 1) ∧
    (layerN bs S now ≠ [] → n + 1 ≤ fu - 1 + (insAll S (layerN bs S now)).length ∧ S.length + 1 ≤ (insAll S (layerN bs S now)).length) := by
  have hd : ∀ x ∈ layerN bs S now, x ∉ S := fun x hx => by
    unfold layerN at hx
    rw [mem_setL, List.mem_filter] at hx
    simpa using hx.2
  generalize hLL : layerN bs S now = L at *
  by_cases h0 : L = []
  · subst h0
    refine ⟨?_, fun h => absurd rfl h⟩
    unfold walkT
    rw [if_neg hn, hLL]
    cases fu <;> simp [walkF]
  · have hg := insAll_grow hS h0 hd
    have hle := sl_len (insAll_sl (l := L) hS) (insAll_lt hlt hL)
    refine ⟨?_, fun _ => ⟨by omega, hg⟩⟩
    obtain ⟨f, rfl⟩ : ∃ f, fu = f + 1 := ⟨fu - 1, by omega⟩
    unfold walkT
    rw [if_neg hn, hLL, if_neg h0]
    show walkF bs (f + 1) (S ++ L) L d = _
    rw [walkF, if_neg h0]
    have hc : ∀ x, x ∈ S ++ L ↔ x ∈ insAll S L := fun x => by rw [mem_insAll, List.mem_append]
    have hl := layerN_congr bs (now := L) (now' := L) hc fun x => Iff.rfl
    rw [hl, Nat.add_sub_cancel]
    congr 1
    exact walkF_congr bs f _ _ fun x => by simp only [List.mem_append, mem_insAll]
theorem walkT_nil (bs : List BlkN) (fu : Nat) (S : List Nat) (d : Nat) : walkT bs fu S [] d = [] := by unfold walkT; rw [if_pos rfl]
theorem nextOf_get (bs : List BlkN) (k : Nat) : nextOf bs k = ((findZ bs (k : Int)).getD blk0).next := by
  rw [findZ_nat]
  unfold nextOf
  cases findB bs k <;> rfl
theorem nextOf_len {cs : List Nat} (k : Nat) : (nextOf (blksN cs) k).length ≤ cs.length := by
  unfold nextOf
  split
  · rename_i b hb
    exact next_len (List.mem_of_find?_eq_some hb)
  · simp
def walkZ (cs : List Nat) (n : Int) : List (Nat × Nat) := if 0 ≤ n then walkN cs n.toNat else []
def reachZ (cs : List Nat) (n : Int) : List Nat := if 0 ≤ n then reachN cs n.toNat else []
theorem walkZ_none {cs : List Nat} {n : Int} (h : findZ (blksN cs) n = none) : walkZ cs n = [] := by
  unfold walkZ
  split
  · rename_i h0
    obtain ⟨k, rfl⟩ := Int.eq_ofNat_of_zero_le h0
    rw [findZ_nat] at h
    unfold walkN
    simp [h]
  · rfl
theorem walkZ_some {cs : List Nat} {n : Int} {B : BlkN} (h : findZ (blksN cs) n = some B) : ∃ k : Nat, n = k ∧ k < cs.length ∧ walkZ cs n = [(k, 0)] ++ walkT (blksN cs) cs.length [k] [k] 1 := by
  by_cases h0 : 0 ≤ n
  · obtain ⟨k, rfl⟩ := Int.eq_ofNat_of_zero_le h0
    rw [findZ_nat] at h
    have hm := List.mem_of_find?_eq_some h
    have he : B.first = k := by have := List.find?_some h; simpa using this
    refine ⟨k, rfl, by rw [← he]; exact (first_lt hm).1, ?_⟩
    unfold walkZ walkN
    rw [if_pos h0, Int.toNat_natCast, h, if_pos (show (some B).isSome = true from rfl), walkT_start]
  · rw [findZ_neg (by omega)] at h
    cases h
theorem reachZ_walk (cs : List Nat) (n : Int) : reachZ cs n = setL ((walkZ cs n).map (·.1)) := by
  unfold reachZ walkZ reachN
  split <;> rfl
end Go.Proofs.YtijkdabmegbcjaaGreatDoor
