/- The document's flow: all blocks. Plain laws: a walk, layer by layer. The document's flow: to which blocks one may come. The document's flow: which blocks are reached; the same blocks. -/
import Derived.Test.YtijkdabmegbcjaaDoorM13
set_option linter.all false
namespace Go.Proofs.YtijkdabmegbcjaaDoor
open Go.RowKit

/-- The rows of blocks: where their next ones lie is free. -/
def BlkX (w0 w : World) (b n : Nat) (C : Nat → List Value) (vs : List Value) (F : Nat → BlkN) : Prop :=
  RowC w b 29 n C vs ∧ (∀ j, (C j).length = 4) ∧ ∀ i, i < n → ∃ p q, C i = blkC p q (F i) ∧ IntsAt w p q (F i).next ∧ ∀ x, p = some x → w0.heap.size ≤ x.block ∧ x.block ≠ b
section
variable {w0 w w' : World} {b n : Nat} {C : Nat → List Value} {vs : List Value} {F F' : Nat → BlkN}
theorem BlkX.below (h : BlkX w0 w b n C vs F) (hb : Below w.heap.size w w') : BlkX w0 w' b n C vs F := ⟨h.1.below hb, h.2.1, fun i hi => by
  obtain ⟨p, q, e, h1, h2⟩ := h.2.2 i hi
  exact ⟨p, q, e, h1.below hb, h2⟩⟩
theorem BlkX.set (h : BlkX w0 w b n C vs F) (ho : Only (· = b) w w') {i : Nat} {p : Option Addr} {q : Nat} {B : BlkN} (hr : RowC w' b 29 n (updC C i (blkC p q B)) vs) (hI : IntsAt w p q B.next) (hp : ∀ x, p = some x → w0.heap.size ≤ x.block ∧ x.block ≠ b) :
    BlkX w0 w' b n (updC C i (blkC p q B)) vs (fun j => if j = i then B else F j) := ⟨hr, fun (j : Nat) => by
  show (if j = i then blkC p q B else C j).length = 4
  split
  · rfl
  · exact h.2.1 j, fun j hj => by
  show ∃ p' q', (if j = i then blkC p q B else C j) = blkC p' q' (if j = i then B else F j) ∧ IntsAt w' p' q' (if j = i then B else F j).next ∧ _
  by_cases e : j = i
  · rw [if_pos e, if_pos e]
    exact ⟨p, q, rfl, hI.only ho (fun x hx => (hp x hx).2), hp⟩
  · rw [if_neg e, if_neg e]
    obtain ⟨p', q', e', h1, h2⟩ := h.2.2 j hj
    exact ⟨p', q', e', h1.only ho (fun x hx => (h2 x hx).2), h2⟩⟩
theorem BlkX.congr (h : BlkX w0 w b n C vs F) (e : ∀ i, i < n → F i = F' i) : BlkX w0 w b n C vs F' := ⟨h.1, h.2.1, fun i hi => by rw [← e i hi]; exact h.2.2 i hi⟩
theorem BlkX.at (h : BlkX w0 w b n C vs F) {i : Nat} (hi : i < n) : ∃ p q, w.rangeAt b (0 + i * 4) (blkC p q (F i)) ∧ IntsAt w p q (F i).next := by
  obtain ⟨p, q, e, h1, -⟩ := h.2.2 i hi
  exact ⟨p, q, by rw [← e]; exact h.1.at h.2.1 hi, h1⟩
theorem BlkX.all (h : BlkX w0 w b n C vs F) {bs : List BlkN} (hn : bs.length = n) (e : ∀ i (hi : i < bs.length), F i = bs[i]) (c : Nat) : BlksAt w (some ⟨b, 0, none⟩) c bs := ⟨fun i hi => by
  obtain ⟨p, q, h1, h2⟩ := h.at (i := i) (by omega)
  rw [e i hi] at h1 h2
  exact ⟨b, 0, p, q, rfl, h1, h2⟩, by simp⟩
end
theorem getD_lt {α : Type} {l : List α} {i : Nat} (d : α) (h : i < l.length) : l.getD i d = l[i] := by simp [h]
def goF (cs : List Nat) (G : List (List Nat)) (k i : Nat) : BlkN := if i < k then blkN cs (G.getD i []) else spanB (G.getD i [])
theorem goF_step (cs : List Nat) (G : List (List Nat)) (k i : Nat) : (if i = k then blkN cs (G.getD k []) else goF cs G k i) = goF cs G (k + 1) i := by
  unfold goF
  by_cases e : i = k
  · subst e; rw [if_pos rfl, if_pos (by omega)]
  · rw [if_neg e]
    by_cases h : i < k
    · rw [if_pos h, if_pos (by omega)]
    · rw [if_neg h, if_neg (by omega)]
/-- A slice of blocks that a call made. -/
def MadeB (w w' : World) (e : Ending) (bs : List BlkN) : Prop := ∃ p q, e = .returned (.slice p bs.length q) ∧ BlksAt w' p q bs ∧ ∀ x, p = some x → w.heap.size ≤ x.block
end Go.Proofs.YtijkdabmegbcjaaDoor
namespace Go.Proofs.YtijkdabmegbcjaaDoor

def insAll (S l : List Nat) : List Nat := l.foldl (fun a n => insW n a) S
theorem insAll_snoc (S l : List Nat) (x : Nat) : insAll S (l ++ [x]) = insW x (insAll S l) := by unfold insAll; rw [List.foldl_append]; rfl
theorem insAll_sl {S l : List Nat} (h : SL S) : SL (insAll S l) := (foldW l S).1 h
theorem mem_insAll (S l : List Nat) (x : Nat) : x ∈ insAll S l ↔ x ∈ S ∨ x ∈ l := (foldW l S).2 x
theorem insAll_take (S l : List Nat) (i : Nat) (h : i < l.length) : insAll S (l.take (i + 1)) = insW l[i] (insAll S (l.take i)) := by
  rw [List.take_succ_eq_append_getElem h, insAll_snoc]
theorem sl_len {l : List Nat} {n : Nat} (h : SL l) (hl : ∀ x ∈ l, x < n) : l.length ≤ n := nodup_le h.nodup hl
theorem insAll_lt {S l : List Nat} {n : Nat} (hS : ∀ x ∈ S, x < n) (hl : ∀ x ∈ l, x < n) : ∀ x ∈ insAll S l, x < n := fun x hx => by
  rcases (mem_insAll S l x).1 hx with h | h
  · exact hS x h
  · exact hl x h
theorem insAll_grow {S l : List Nat} (hS : SL S) (hl : l ≠ []) (hd : ∀ x ∈ l, x ∉ S) : S.length + 1 ≤ (insAll S l).length := by
  obtain ⟨x, hx⟩ := List.exists_mem_of_ne_nil l hl
  have hn : (x :: S).Nodup := List.nodup_cons.2 ⟨hd x hx, hS.nodup⟩
  have := hn.length_le_of_subset (l₂ := insAll S l) fun y hy => by
    rcases List.mem_cons.1 hy with rfl | h
    · exact (mem_insAll S l y).2 (.inr hx)
    · exact (mem_insAll S l y).2 (.inl h)
  simpa using this
theorem insAll_le {S l : List Nat} (hS : SL S) : S.length ≤ (insAll S l).length := hS.nodup.length_le_of_subset fun y hy => (mem_insAll S l y).2 (.inl hy)
/-- The numbers of a list that are not in S, as a set. -/
def offL (S D : List Nat) : List Nat := setL (D.filter fun x => decide (x ∉ S))
theorem offL_in {S D : List Nat} {x : Nat} (h : x ∈ S) : offL S (D ++ [x]) = offL S D := by
  unfold offL; rw [List.filter_append]; simp [h]
theorem offL_out {S D : List Nat} {x : Nat} (h : x ∉ S) : offL S (D ++ [x]) = insW x (offL S D) := by
  unfold offL; rw [List.filter_append]; simp [h, setL_snoc]
theorem offL_len {S D : List Nat} {n : Nat} (h : ∀ x ∈ D, x < n) : (offL S D).length ≤ n := sl_len (setL_sl _) fun x hx => by
  unfold offL at hx
  rw [mem_setL, List.mem_filter] at hx
  exact h x hx.1
theorem layer_off (bs : List BlkN) (S now : List Nat) : layerN bs S now = offL S (now.flatMap (nextOf bs)) := rfl
theorem nexts_step (bs : List BlkN) (now : List Nat) (i : Nat) (h : i < now.length) : (now.take (i + 1)).flatMap (nextOf bs) = (now.take i).flatMap (nextOf bs) ++ nextOf bs now[i] := by
  rw [List.take_succ_eq_append_getElem h, List.flatMap_append]; simp
theorem layer_lt {bs : List BlkN} {S now : List Nat} {n : Nat} (h : ∀ k x, x ∈ nextOf bs k → x < n) : ∀ x ∈ layerN bs S now, x < n := fun x hx => by
  unfold layerN at hx
  rw [mem_setL, List.mem_filter, List.mem_flatMap] at hx
  obtain ⟨⟨k, _, hk⟩, -⟩ := hx
  exact h k x hk
/-- What is still to come when the layer 'now' has been told. -/
def walkT (bs : List BlkN) (fu : Nat) (S now : List Nat) (d : Nat) : List (Nat × Nat) := if now = [] then [] else walkF bs fu (S ++ layerN bs S now) (layerN bs S now) d
theorem walkT_start (bs : List BlkN) (n a : Nat) : walkF bs (n + 1) [a] [a] 0 = [(a, 0)] ++ walkT bs n [a] [a] 1 := by
  unfold walkF walkT
  rw [if_neg (by simp), if_neg (by simp)]
  rfl
theorem walkT_step {bs : List BlkN} {n fu : Nat} {S now : List Nat} (d : Nat) (hn : now ≠ []) (hS : SL S) (hlt : ∀ x ∈ S, x < n) (hL : ∀ x ∈ layerN bs S now, x < n) (hf : n + 1 ≤ fu + S.length) :
    walkT bs fu S now d = (layerN bs S now).map (fun k => (k, d)) ++ walkT bs (fu - 1) (insAll S (layerN bs S now)) (layerN bs S now) (d + 1) ∧
    (layerN bs S now ≠ [] → n + 1 ≤ fu - 1 + (insAll S (layerN bs S now)).length ∧ S.length + 1 ≤ (insAll S (layerN bs S now)).length) := by
  have hd : ∀ x ∈ layerN bs S now, x ∉ S := fun x hx => by
    unfold layerN at hx
    rw [mem_setL, List.mem_filter] at hx
    simpa using hx.2
  generalize hLL : layerN bs S now = L at *
  by_cases h0 : L = []
  · subst h0
    refine ⟨?_, fun h => absurd rfl h⟩
    unfold walkT
    rw [if_neg hn, hLL]
    cases fu <;> simp [walkF]
  · have hg := insAll_grow hS h0 hd
    have hle := sl_len (insAll_sl (l := L) hS) (insAll_lt hlt hL)
    refine ⟨?_, fun _ => ⟨by omega, hg⟩⟩
    obtain ⟨f, rfl⟩ : ∃ f, fu = f + 1 := ⟨fu - 1, by omega⟩
    unfold walkT
    rw [if_neg hn, hLL, if_neg h0]
    show walkF bs (f + 1) (S ++ L) L d = _
    rw [walkF, if_neg h0]
    have hc : ∀ x, x ∈ S ++ L ↔ x ∈ insAll S L := fun x => by rw [mem_insAll, List.mem_append]
    have hl := layerN_congr bs (now := L) (now' := L) hc fun x => Iff.rfl
    rw [hl, Nat.add_sub_cancel]
    congr 1
    exact walkF_congr bs f _ _ fun x => by simp only [List.mem_append, mem_insAll]
theorem walkT_nil (bs : List BlkN) (fu : Nat) (S : List Nat) (d : Nat) : walkT bs fu S [] d = [] := by unfold walkT; rw [if_pos rfl]
theorem nextOf_get (bs : List BlkN) (k : Nat) : nextOf bs k = ((findZ bs (k : Int)).getD blk0).next := by
  rw [findZ_nat]
  unfold nextOf
  cases findB bs k <;> rfl
theorem nextOf_len {cs : List Nat} (k : Nat) : (nextOf (blksN cs) k).length ≤ cs.length := by
  unfold nextOf
  split
  · rename_i b hb
    exact next_len (List.mem_of_find?_eq_some hb)
  · simp
def walkZ (cs : List Nat) (n : Int) : List (Nat × Nat) := if 0 ≤ n then walkN cs n.toNat else []
def reachZ (cs : List Nat) (n : Int) : List Nat := if 0 ≤ n then reachN cs n.toNat else []
theorem walkZ_none {cs : List Nat} {n : Int} (h : findZ (blksN cs) n = none) : walkZ cs n = [] := by
  unfold walkZ
  split
  · rename_i h0
    obtain ⟨k, rfl⟩ := Int.eq_ofNat_of_zero_le h0
    rw [findZ_nat] at h
    unfold walkN
    simp [h]
  · rfl
theorem walkZ_some {cs : List Nat} {n : Int} {B : BlkN} (h : findZ (blksN cs) n = some B) : ∃ k : Nat, n = k ∧ k < cs.length ∧ walkZ cs n = [(k, 0)] ++ walkT (blksN cs) cs.length [k] [k] 1 := by
  by_cases h0 : 0 ≤ n
  · obtain ⟨k, rfl⟩ := Int.eq_ofNat_of_zero_le h0
    rw [findZ_nat] at h
    have hm := List.mem_of_find?_eq_some h
    have he : B.first = k := by have := List.find?_some h; simpa using this
    refine ⟨k, rfl, by rw [← he]; exact (first_lt hm).1, ?_⟩
    unfold walkZ walkN
    rw [if_pos h0, Int.toNat_natCast, h, if_pos (show (some B).isSome = true from rfl), walkT_start]
  · rw [findZ_neg (by omega)] at h
    cases h
theorem reachZ_walk (cs : List Nat) (n : Int) : reachZ cs n = setL ((walkZ cs n).map (·.1)) := by
  unfold reachZ walkZ reachN
  split <;> rfl
end Go.Proofs.YtijkdabmegbcjaaDoor
namespace Go.Proofs.YtijkdabmegbcjaaDoor
open Go.RowKit

def stepC (x : Nat × Nat) : List Value := [.int .i64 x.1, .int .i64 x.2]
/-- Steps, as a slice. -/
structure StepsAt (w : World) (a : Option Addr) (c : Nat) (l : List (Nat × Nat)) : Prop where
  elt : ∀ i (h : i < l.length), ∃ b o, a = some ⟨b, o, none⟩ ∧ w.rangeAt b (o + i * 2) (stepC l[i])
  nil : a = none → c = 0
theorem StepsAt.below {w w' : World} {a : Option Addr} {c : Nat} {l : List (Nat × Nat)} (h : StepsAt w a c l) (hb : Below w.heap.size w w') : StepsAt w' a c l := ⟨fun i hi => by
  obtain ⟨b, o, e, h1⟩ := h.elt i hi
  exact ⟨b, o, e, rangeAt_below h1 hb⟩, h.nil⟩
def MadeS (w w' : World) (e : Ending) (l : List (Nat × Nat)) : Prop := ∃ p q, e = .returned (.slice p l.length q) ∧ StepsAt w' p q l ∧ ∀ x, p = some x → w.heap.size ≤ x.block
theorem own_one (w : World) (T : TypeId) (vs : List Value) (k : Nat) (hk : vs.length = k) (B : Nat) (hB : B ≤ w.heap.size) : (w.alloc (.cells vs.toArray T)).ownsRow B T k (.slice (some ⟨w.heap.size, 0, none⟩) 1 1) 1 vs := by
  refine ⟨by omega, .inr ⟨w.heap.size, 1, vs.toArray, rfl, hB, World.alloc_heap_new w _, by omega, by unfold maxLen; omega, by simp [hk], ?_⟩⟩
  subst hk
  simp
theorem OwnI.ints {w w' : World} {p : Option Addr} {n q : Nat} {l : List Nat} (h : OwnI w w' (.slice p n q) l) : IntsAt w' p q l := by
  obtain ⟨a, c, e, hI, -⟩ := h.at
  cases e
  exact hI
theorem own_other {w w' : World} {B B' e e' s s' n n' : Nat} {v v' : Value} {xs xs' : List Value} (h : w.ownsRow B e s v n xs) (h' : w.ownsRow B' e' s' v' n' xs') (ne : e ≠ e') (hg : w.grownBy w' v'.ownBlock) : w'.ownsRow B e s v n xs := by
  refine ⟨h.1, ?_⟩
  rcases h.2 with hn | ⟨g, cap, cur, rfl, hb, hgg, r⟩
  · exact .inl hn
  · refine .inr ⟨g, cap, cur, rfl, hb, ?_, r⟩
    rw [hg.block g (Array.getElem?_eq_some_iff.1 hgg).1 ?_]
    · exact hgg
    · intro e2
      rcases h'.2 with ⟨rfl, -⟩ | ⟨g', cap', cur', rfl, hb', hgg', r'⟩
      · cases e2
      · have e3 : g' = g := (Option.some.inj e2).symm
        subst e3
        rw [hgg] at hgg'
        injection hgg' with h1
        injection h1 with h2 h3
        exact ne h3
def lenV (v : Value) : Nat := match v with | .slice _ n _ => n | _ => 0
end Go.Proofs.YtijkdabmegbcjaaDoor
namespace Go.Proofs.YtijkdabmegbcjaaDoor
open Go.RowKit

theorem walkF_lt {cs : List Nat} : ∀ (f : Nat) (seen now : List Nat) (far : Nat), (∀ x ∈ now, x < cs.length) → ∀ y ∈ walkF (blksN cs) f seen now far, y.1 < cs.length
  | 0, _, _, _, _, y, h => by simp [walkF] at h
  | f + 1, seen, now, far, hn, y, h => by
    unfold walkF at h
    split at h
    · simp at h
    · rcases List.mem_append.1 h with h | h
      · obtain ⟨k, hk, rfl⟩ := List.mem_map.1 h
        exact hn k hk
      · exact walkF_lt f _ _ _ (fun x hx => (layerN_mem hx).1) y h
theorem walkF_len {cs : List Nat} : ∀ (f : Nat) (seen now : List Nat) (far : Nat), now.length ≤ cs.length → (walkF (blksN cs) f seen now far).length ≤ f * cs.length
  | 0, _, _, _, _ => by simp [walkF]
  | f + 1, seen, now, far, hn => by
    unfold walkF
    split
    · simp
    · have := walkF_len (cs := cs) f (seen ++ layerN (blksN cs) seen now) (layerN (blksN cs) seen now) (far + 1) (sl_len (setL_sl _) fun x hx => (layerN_mem hx).1)
      rw [List.length_append, List.length_map, Nat.add_mul]
      omega
theorem walkZ_lt {cs : List Nat} {n : Int} : ∀ y ∈ walkZ cs n, y.1 < cs.length := fun y h => by
  unfold walkZ at h
  split at h
  · unfold walkN at h
    split at h
    · rename_i hs
      obtain ⟨b, hb⟩ := Option.isSome_iff_exists.1 hs
      refine walkF_lt _ _ _ _ (fun x hx => ?_) y h
      rw [List.mem_singleton] at hx
      have h1 := List.find?_some hb
      simp at h1
      rw [hx, ← h1]
      exact (first_lt (List.mem_of_find?_eq_some hb)).1
    · simp at h
  · simp at h
theorem walkZ_len {cs : List Nat} {n : Int} (hl : cs.length ≤ 200) : (walkZ cs n).length ≤ 41000 := by
  unfold walkZ
  split
  · unfold walkN
    split
    · rename_i hs
      obtain ⟨b, hb⟩ := Option.isSome_iff_exists.1 hs
      have h1 := (first_lt (List.mem_of_find?_eq_some hb)).1
      refine Nat.le_trans (walkF_len (cs := cs) _ _ _ _ (by simp; omega)) ?_
      have : (cs.length + 1) * cs.length ≤ 201 * 200 := Nat.mul_le_mul (by omega) hl
      omega
    · simp
  · simp
def fsts (l : List (Nat × Nat)) : List Nat := setL (l.map (·.1))
theorem fsts_take (l : List (Nat × Nat)) (i : Nat) (h : i < l.length) : fsts (l.take (i + 1)) = insW l[i].1 (fsts (l.take i)) := by
  unfold fsts
  rw [List.take_succ_eq_append_getElem h, List.map_append, List.map_singleton, setL_snoc]
set_option maxRecDepth 100000 in
set_option maxHeartbeats 8000000 in
theorem refSame_any (bs : List BlkN) (a a' : Option Addr) (c c' : Nat) (w : World) (h : BlksAt w a c bs) (h' : BlksAt w a' c' bs) (hl : bs.length ≤ 1000) (hn : ∀ x ∈ bs, x.next.length ≤ 1000) :
    Calls Tryd.prog 10 #[.slice a bs.length c, .slice a' bs.length c'] w fun e w' => e = .returned (.bool true) ∧ Below w.heap.size w w' := by
  replace h := Lib.hid h
  replace h' := Lib.hid h'
  replace hn := Lib.hid hn
  go_enter Tryd.func10, Tryd.ntmps10
  go_wp2
  go_loopw [5] (fun iv wx => ∃ i : Nat, i ≤ bs.length ∧ iv = .int .i64 i ∧ Hid (Below w.heap.size w wx)) (fun iv _ => bs.length - (intOf iv).toNat)
  case atStart => exact ⟨0, by omega, rfl, Lib.hid (xrefl _)⟩
  case round =>
    obtain ⟨i, hi, rfl, hb0⟩ := hrel
    by_cases hlt : i < bs.length
    · have hltI : (i : Int) < bs.length := by omega
      obtain ⟨b, o, p, q, rfl, hr, hI⟩ := h.out.elt i hlt
      obtain ⟨b', o', p', q', rfl, hr', hI'⟩ := h'.out.elt i hlt
      obtain ⟨q0, q1, q2, q3⟩ := range_blk (rangeAt_below hr hb0.out)
      obtain ⟨r0, r1, r2, r3⟩ := range_blk (rangeAt_below hr' hb0.out)
      have hnl := hn.out _ (List.getElem_mem hlt)
      clear hr hr'
      generalize bs[i] = B at *
      obtain ⟨f, l, nx, e⟩ := B
      have hints : ∀ W, Below wr.heap.size wr W → Calls Tryd.prog 12 #[.slice p nx.length q, .slice p' nx.length q'] W fun e w' => e = .returned (.bool true) ∧ Below W.heap.size W w' := fun W hW => (refInts_any nx nx p p' q q' W (hI.below (xtrans hb0.out hW)) (hI'.below (xtrans hb0.out hW)) hnl hnl).mono fun e w' ⟨h1, k, h2⟩ => ⟨by rw [h1, decide_eq_true rfl], by rw [h2]; exact xdrewN (xrefl W) k⟩
      clear hI hI'
      simp only at q0 q1 q2 q3 r0 r1 r2 r3 hnl
      replace q0 := Lib.hid q0; replace q1 := Lib.hid q1; replace q2 := Lib.hid q2; replace q3 := Lib.hid q3
      replace r0 := Lib.hid r0; replace r1 := Lib.hid r1; replace r2 := Lib.hid r2; replace r3 := Lib.hid r3
      replace hints := Lib.hid hints
      go_wp2
      refine' wp_region_growL 51 [fixd _, fixd _, fixd _, fixd _, fixd _, fixd _, fixd _, fixd _, fixd _, fixd _, fixd _, fixd _, fixd _, fixd _, fixd _, fixd _, fixd _, fixd _, fixd _, fixd _, fixd _, fixd _, fixd _, fixd _, fixd _, fixd _, fixd _, fixd _, fixd _, fixd _, fixd _, fixd _, fixd _, fixd _, fixd _, fixd _, fixd _, fixd _, fixd _, fixd _, fixd _, fixd _, fixd _, fixd _, fixd _, fixd _, fixd _, fixd _, fixd _, fixd _, fixd _] (by kernel_rfl) (by kernel_rfl) ?_
      rotate_left 51
      simp only [List.take_succ_cons, List.take_zero, List.drop_succ_cons, List.drop_zero]
      try simp only [Act.put, List.setIfInBounds_toArray, List.set_cons_succ, List.set_cons_zero, List.nil_append, List.cons_append]
      refine' wpGrowV_fix _ rfl rfl (fun W hb _ => by go_simp; first | exact xrefl W | exact ⟨rfl, xrefl W⟩) ?_
      try simp only [Act.put, List.setIfInBounds_toArray, List.set_cons_succ, List.set_cons_zero, List.nil_append, List.cons_append]
      refine' wpGrowV_fix _ rfl rfl (fun W hb _ => by go_simp; first | exact xrefl W | exact ⟨rfl, xrefl W⟩) ?_
      try simp only [Act.put, List.setIfInBounds_toArray, List.set_cons_succ, List.set_cons_zero, List.nil_append, List.cons_append]
      refine' wpGrowV_fix _ rfl rfl (fun W hb _ => by go_simp; first | exact xrefl W | exact ⟨rfl, xrefl W⟩) ?_
      try simp only [Act.put, List.setIfInBounds_toArray, List.set_cons_succ, List.set_cons_zero, List.nil_append, List.cons_append]
      refine' wpGrowV_fix _ rfl rfl (fun W hb _ => by go_simp; first | exact xrefl W | exact ⟨rfl, xrefl W⟩) ?_
      try simp only [Act.put, List.setIfInBounds_toArray, List.set_cons_succ, List.set_cons_zero, List.nil_append, List.cons_append]
      refine' wpGrowV_fix _ rfl rfl (fun W hb _ => by have c := cbel hb q0.out; go_simp; first | exact xrefl W | exact ⟨rfl, xrefl W⟩) ?_
      try simp only [Act.put, List.setIfInBounds_toArray, List.set_cons_succ, List.set_cons_zero, List.nil_append, List.cons_append]
      refine' wpGrowV_fix _ rfl rfl (fun W hb _ => by go_simp; first | exact xrefl W | exact ⟨rfl, xrefl W⟩) ?_
      try simp only [Act.put, List.setIfInBounds_toArray, List.set_cons_succ, List.set_cons_zero, List.nil_append, List.cons_append]
      refine' wpGrowV_fix _ rfl rfl (fun W hb _ => by go_simp; first | exact xrefl W | exact ⟨rfl, xrefl W⟩) ?_
      try simp only [Act.put, List.setIfInBounds_toArray, List.set_cons_succ, List.set_cons_zero, List.nil_append, List.cons_append]
      refine' wpGrowV_fix _ rfl rfl (fun W hb _ => by go_simp; first | exact xrefl W | exact ⟨rfl, xrefl W⟩) ?_
      try simp only [Act.put, List.setIfInBounds_toArray, List.set_cons_succ, List.set_cons_zero, List.nil_append, List.cons_append]
      refine' wpGrowV_fix _ rfl rfl (fun W hb _ => by go_simp; first | exact xrefl W | exact ⟨rfl, xrefl W⟩) ?_
      try simp only [Act.put, List.setIfInBounds_toArray, List.set_cons_succ, List.set_cons_zero, List.nil_append, List.cons_append]
      refine' wpGrowV_fix _ rfl rfl (fun W hb _ => by have c := cbel hb r0.out; go_simp; first | exact xrefl W | exact ⟨rfl, xrefl W⟩) ?_
      try simp only [Act.put, List.setIfInBounds_toArray, List.set_cons_succ, List.set_cons_zero, List.nil_append, List.cons_append]
      refine' wpGrowV_fix _ rfl rfl (fun W hb _ => by go_simp; first | exact xrefl W | exact ⟨rfl, xrefl W⟩) ?_
      try simp only [Act.put, List.setIfInBounds_toArray, List.set_cons_succ, List.set_cons_zero, List.nil_append, List.cons_append]
      refine' wpGrowV_fix _ rfl rfl (fun W hb _ => by go_simp; first | exact xrefl W | exact ⟨rfl, xrefl W⟩) ?_
      try simp only [Act.put, List.setIfInBounds_toArray, List.set_cons_succ, List.set_cons_zero, List.nil_append, List.cons_append]
      first
        | (refine wpGrowV_not rfl rfl ?_)
        | (refine' wpGrowV_fix _ rfl rfl (fun W hb _ => by go_simp; first | exact xrefl W | exact ⟨rfl, xrefl W⟩) ?_)
      try simp only [Act.put, List.setIfInBounds_toArray, List.set_cons_succ, List.set_cons_zero, List.nil_append, List.cons_append]
      first
        | (refine wpGrowV_not rfl rfl ?_)
        | (refine' wpGrowV_fix _ rfl rfl (fun W hb _ => by go_simp; first | exact xrefl W | exact ⟨rfl, xrefl W⟩) ?_)
      try simp only [Act.put, List.setIfInBounds_toArray, List.set_cons_succ, List.set_cons_zero, List.nil_append, List.cons_append]
      first
        | (refine wpGrowV_not rfl rfl ?_)
        | (refine' wpGrowV_fix _ rfl rfl (fun W hb _ => by go_simp; first | exact xrefl W | exact ⟨rfl, xrefl W⟩) ?_)
      try simp only [Act.put, List.setIfInBounds_toArray, List.set_cons_succ, List.set_cons_zero, List.nil_append, List.cons_append]
      first
        | (refine wpGrowV_not rfl rfl ?_)
        | (refine' wpGrowV_fix _ rfl rfl (fun W hb _ => by go_simp; first | exact xrefl W | exact ⟨rfl, xrefl W⟩) ?_)
      try simp only [Act.put, List.setIfInBounds_toArray, List.set_cons_succ, List.set_cons_zero, List.nil_append, List.cons_append]
      first
        | (refine wpGrowV_not rfl rfl ?_)
        | (refine' wpGrowV_fix _ rfl rfl (fun W hb _ => by have c := cbel hb q1.out; go_simp; first | exact xrefl W | exact ⟨rfl, xrefl W⟩) ?_)
      try simp only [Act.put, List.setIfInBounds_toArray, List.set_cons_succ, List.set_cons_zero, List.nil_append, List.cons_append]
      first
        | (refine wpGrowV_not rfl rfl ?_)
        | (refine' wpGrowV_fix _ rfl rfl (fun W hb _ => by go_simp; first | exact xrefl W | exact ⟨rfl, xrefl W⟩) ?_)
      try simp only [Act.put, List.setIfInBounds_toArray, List.set_cons_succ, List.set_cons_zero, List.nil_append, List.cons_append]
      first
        | (refine wpGrowV_not rfl rfl ?_)
        | (refine' wpGrowV_fix _ rfl rfl (fun W hb _ => by go_simp; first | exact xrefl W | exact ⟨rfl, xrefl W⟩) ?_)
      try simp only [Act.put, List.setIfInBounds_toArray, List.set_cons_succ, List.set_cons_zero, List.nil_append, List.cons_append]
      first
        | (refine wpGrowV_not rfl rfl ?_)
        | (refine' wpGrowV_fix _ rfl rfl (fun W hb _ => by go_simp; first | exact xrefl W | exact ⟨rfl, xrefl W⟩) ?_)
      try simp only [Act.put, List.setIfInBounds_toArray, List.set_cons_succ, List.set_cons_zero, List.nil_append, List.cons_append]
      first
        | (refine wpGrowV_not rfl rfl ?_)
        | (refine' wpGrowV_fix _ rfl rfl (fun W hb _ => by go_simp; first | exact xrefl W | exact ⟨rfl, xrefl W⟩) ?_)
      try simp only [Act.put, List.setIfInBounds_toArray, List.set_cons_succ, List.set_cons_zero, List.nil_append, List.cons_append]
      first
        | (refine wpGrowV_not rfl rfl ?_)
        | (refine' wpGrowV_fix _ rfl rfl (fun W hb _ => by have c := cbel hb r1.out; go_simp; first | exact xrefl W | exact ⟨rfl, xrefl W⟩) ?_)
      try simp only [Act.put, List.setIfInBounds_toArray, List.set_cons_succ, List.set_cons_zero, List.nil_append, List.cons_append]
      first
        | (refine wpGrowV_not rfl rfl ?_)
        | (refine' wpGrowV_fix _ rfl rfl (fun W hb _ => by go_simp; first | exact xrefl W | exact ⟨rfl, xrefl W⟩) ?_)
      try simp only [Act.put, List.setIfInBounds_toArray, List.set_cons_succ, List.set_cons_zero, List.nil_append, List.cons_append]
      refine' wpGrowV_fix _ rfl rfl (fun W hb _ => by go_simp; first | exact xrefl W | exact ⟨rfl, xrefl W⟩) ?_
      try simp only [Act.put, List.setIfInBounds_toArray, List.set_cons_succ, List.set_cons_zero, List.nil_append, List.cons_append]
      refine' wpGrowV_fix _ rfl rfl (fun W hb _ => by go_simp; first | exact xrefl W | exact ⟨rfl, xrefl W⟩) ?_
      try simp only [Act.put, List.setIfInBounds_toArray, List.set_cons_succ, List.set_cons_zero, List.nil_append, List.cons_append]
      first
        | (refine wpGrowV_not rfl rfl ?_)
        | (refine' wpGrowV_fix _ rfl rfl (fun W hb _ => by go_simp; first | exact xrefl W | exact ⟨rfl, xrefl W⟩) ?_)
      try simp only [Act.put, List.setIfInBounds_toArray, List.set_cons_succ, List.set_cons_zero, List.nil_append, List.cons_append]
      first
        | (refine wpGrowV_not rfl rfl ?_)
        | (refine' wpGrowV_fix _ rfl rfl (fun W hb _ => by go_simp; first | exact xrefl W | exact ⟨rfl, xrefl W⟩) ?_)
      try simp only [Act.put, List.setIfInBounds_toArray, List.set_cons_succ, List.set_cons_zero, List.nil_append, List.cons_append]
      first
        | (refine wpGrowV_not rfl rfl ?_)
        | (refine' wpGrowV_fix _ rfl rfl (fun W hb _ => by go_simp; first | exact xrefl W | exact ⟨rfl, xrefl W⟩) ?_)
      try simp only [Act.put, List.setIfInBounds_toArray, List.set_cons_succ, List.set_cons_zero, List.nil_append, List.cons_append]
      first
        | (refine wpGrowV_not rfl rfl ?_)
        | (refine' wpGrowV_fix _ rfl rfl (fun W hb _ => by go_simp; first | exact xrefl W | exact ⟨rfl, xrefl W⟩) ?_)
      try simp only [Act.put, List.setIfInBounds_toArray, List.set_cons_succ, List.set_cons_zero, List.nil_append, List.cons_append]
      first
        | (refine wpGrowV_not rfl rfl ?_)
        | (refine' wpGrowV_fix _ rfl rfl (fun W hb _ => by have c := cbel hb q3.out; go_simp; first | exact xrefl W | exact ⟨rfl, xrefl W⟩) ?_)
      try simp only [Act.put, List.setIfInBounds_toArray, List.set_cons_succ, List.set_cons_zero, List.nil_append, List.cons_append]
      first
        | (refine wpGrowV_not rfl rfl ?_)
        | (refine' wpGrowV_fix _ rfl rfl (fun W hb _ => by go_simp; first | exact xrefl W | exact ⟨rfl, xrefl W⟩) ?_)
      try simp only [Act.put, List.setIfInBounds_toArray, List.set_cons_succ, List.set_cons_zero, List.nil_append, List.cons_append]
      first
        | (refine wpGrowV_not rfl rfl ?_)
        | (refine' wpGrowV_fix _ rfl rfl (fun W hb _ => by go_simp; first | exact xrefl W | exact ⟨rfl, xrefl W⟩) ?_)
      try simp only [Act.put, List.setIfInBounds_toArray, List.set_cons_succ, List.set_cons_zero, List.nil_append, List.cons_append]
      first
        | (refine wpGrowV_not rfl rfl ?_)
        | (refine' wpGrowV_fix _ rfl rfl (fun W hb _ => by go_simp; first | exact xrefl W | exact ⟨rfl, xrefl W⟩) ?_)
      try simp only [Act.put, List.setIfInBounds_toArray, List.set_cons_succ, List.set_cons_zero, List.nil_append, List.cons_append]
      first
        | (refine wpGrowV_not rfl rfl ?_)
        | (refine' wpGrowV_fix _ rfl rfl (fun W hb _ => by go_simp; first | exact xrefl W | exact ⟨rfl, xrefl W⟩) ?_)
      try simp only [Act.put, List.setIfInBounds_toArray, List.set_cons_succ, List.set_cons_zero, List.nil_append, List.cons_append]
      first
        | (refine wpGrowV_not rfl rfl ?_)
        | (refine' wpGrowV_fix _ rfl rfl (fun W hb _ => by have c := cbel hb r3.out; go_simp; first | exact xrefl W | exact ⟨rfl, xrefl W⟩) ?_)
      try simp only [Act.put, List.setIfInBounds_toArray, List.set_cons_succ, List.set_cons_zero, List.nil_append, List.cons_append]
      first
        | (refine wpGrowV_not rfl rfl ?_)
        | (refine' wpGrowV_fix _ rfl rfl (fun W hb _ => by go_simp; first | exact xrefl W | exact ⟨rfl, xrefl W⟩) ?_)
      try simp only [Act.put, List.setIfInBounds_toArray, List.set_cons_succ, List.set_cons_zero, List.nil_append, List.cons_append]
      refine' wpGrowV_fix _ rfl rfl (fun W hb _ => by go_simp; first | exact xrefl W | exact ⟨rfl, xrefl W⟩) ?_
      try simp only [Act.put, List.setIfInBounds_toArray, List.set_cons_succ, List.set_cons_zero, List.nil_append, List.cons_append]
      refine' wpGrowV_fix _ rfl rfl (fun W hb _ => by go_simp; first | exact xrefl W | exact ⟨rfl, xrefl W⟩) ?_
      try simp only [Act.put, List.setIfInBounds_toArray, List.set_cons_succ, List.set_cons_zero, List.nil_append, List.cons_append]
      first
        | (refine wpGrowV_not rfl rfl ?_)
        | (refine' wpGrowV_fix _ rfl rfl (fun W hb _ => by go_simp; first | exact xrefl W | exact ⟨rfl, xrefl W⟩) ?_)
      try simp only [Act.put, List.setIfInBounds_toArray, List.set_cons_succ, List.set_cons_zero, List.nil_append, List.cons_append]
      first
        | (refine wpGrowV_not rfl rfl ?_)
        | (refine' wpGrowV_fix _ rfl rfl (fun W hb _ => by go_simp; first | exact xrefl W | exact ⟨rfl, xrefl W⟩) ?_)
      try simp only [Act.put, List.setIfInBounds_toArray, List.set_cons_succ, List.set_cons_zero, List.nil_append, List.cons_append]
      first
        | (refine wpGrowV_not rfl rfl ?_)
        | (refine' wpGrowV_fix _ rfl rfl (fun W hb _ => by go_simp; first | exact xrefl W | exact ⟨rfl, xrefl W⟩) ?_)
      try simp only [Act.put, List.setIfInBounds_toArray, List.set_cons_succ, List.set_cons_zero, List.nil_append, List.cons_append]
      first
        | (refine wpGrowV_not rfl rfl ?_)
        | (refine' wpGrowV_fix _ rfl rfl (fun W hb _ => by go_simp; first | exact xrefl W | exact ⟨rfl, xrefl W⟩) ?_)
      try simp only [Act.put, List.setIfInBounds_toArray, List.set_cons_succ, List.set_cons_zero, List.nil_append, List.cons_append]
      first
        | (refine wpGrowV_not rfl rfl ?_)
        | (refine' wpGrowV_fix _ rfl rfl (fun W hb _ => by have c := cbel hb q2.out; go_simp; first | exact xrefl W | exact ⟨rfl, xrefl W⟩) ?_)
      try simp only [Act.put, List.setIfInBounds_toArray, List.set_cons_succ, List.set_cons_zero, List.nil_append, List.cons_append]
      first
        | (refine wpGrowV_not rfl rfl ?_)
        | (refine' wpGrowV_fix _ rfl rfl (fun W hb _ => by go_simp; first | exact xrefl W | exact ⟨rfl, xrefl W⟩) ?_)
      try simp only [Act.put, List.setIfInBounds_toArray, List.set_cons_succ, List.set_cons_zero, List.nil_append, List.cons_append]
      first
        | (refine wpGrowV_not rfl rfl ?_)
        | (refine' wpGrowV_fix _ rfl rfl (fun W hb _ => by go_simp; first | exact xrefl W | exact ⟨rfl, xrefl W⟩) ?_)
      try simp only [Act.put, List.setIfInBounds_toArray, List.set_cons_succ, List.set_cons_zero, List.nil_append, List.cons_append]
      first
        | (refine wpGrowV_not rfl rfl ?_)
        | (refine' wpGrowV_fix _ rfl rfl (fun W hb _ => by go_simp; first | exact xrefl W | exact ⟨rfl, xrefl W⟩) ?_)
      try simp only [Act.put, List.setIfInBounds_toArray, List.set_cons_succ, List.set_cons_zero, List.nil_append, List.cons_append]
      first
        | (refine wpGrowV_not rfl rfl ?_)
        | (refine' wpGrowV_fix _ rfl rfl (fun W hb _ => by go_simp; first | exact xrefl W | exact ⟨rfl, xrefl W⟩) ?_)
      try simp only [Act.put, List.setIfInBounds_toArray, List.set_cons_succ, List.set_cons_zero, List.nil_append, List.cons_append]
      first
        | (refine wpGrowV_not rfl rfl ?_)
        | (refine' wpGrowV_fix _ rfl rfl (fun W hb _ => by have c := cbel hb r2.out; go_simp; first | exact xrefl W | exact ⟨rfl, xrefl W⟩) ?_)
      try simp only [Act.put, List.setIfInBounds_toArray, List.set_cons_succ, List.set_cons_zero, List.nil_append, List.cons_append]
      first
        | (refine wpGrowV_not rfl rfl ?_)
        | (refine' wpGrowV_fix _ rfl rfl (fun W hb hF => ?_) ?_
           · clear hF
             go_simp
             go_at_call 12
             refine (hints.out W hb).mono ?_
             rintro e w' ⟨rfl, hb'⟩
             refine ⟨?_, hb'⟩
             exact rfl)
      try simp only [Act.put, List.setIfInBounds_toArray, List.set_cons_succ, List.set_cons_zero, List.nil_append, List.cons_append]
      first
        | (refine wpGrowV_not rfl rfl ?_)
        | (refine' wpGrowV_fix _ rfl rfl (fun W hb _ => by go_simp; first | exact xrefl W | exact ⟨rfl, xrefl W⟩) ?_)
      try simp only [Act.put, List.setIfInBounds_toArray, List.set_cons_succ, List.set_cons_zero, List.nil_append, List.cons_append]
      refine' wpGrowV_fix _ rfl rfl (fun W hb _ => by go_simp; first | exact xrefl W | exact ⟨rfl, xrefl W⟩) ?_
      try simp only [Act.put, List.setIfInBounds_toArray, List.set_cons_succ, List.set_cons_zero, List.nil_append, List.cons_append]

      refine wpGrowV_nil fun W5 hb5 _ => ?_
      replace hb5 := Lib.hid (xtrans hb0.out hb5)
      go_wp2
      exact ⟨⟨i + 1, by omega, by go_num, hb5⟩, by simp [intOf]; omega⟩
    · obtain rfl : i = bs.length := by omega
      clear hlt
      go_wp2
      go_ret
      exact ⟨rfl, hb0.out⟩
end Go.Proofs.YtijkdabmegbcjaaDoor
