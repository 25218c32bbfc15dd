/- Lists of blocks in memory; the document's flow: the block of a first place, of a place. An append of values of any kind and size onto a slice of the call's own, with the block that it then lies in. The document's flow: the first and the last places of blocks. The document's flow: the block of a place, fixed jumps. The document's flow: where a fixed jump goes to. A cell stored into a block. The document's flow: where a block goes to. A block of rows of k cells each: read by rows, a row laid anew. -/
import Derived.Test.YtijkdabmegbcjaaDoorM12
import Derived.Test.YtijkdabmegbcjaaDoorM09
import Derived.Test.YtijkdabmegbcjaaDoorM01
import Derived.Deep.QuietTactic
import Derived.BigQuiet
set_option linter.all false
namespace Go.Proofs.YtijkdabmegbcjaaDoor
open Go.RowKit

def blkC (p : Option Addr) (q : Nat) (b : BlkN) : List Value := [.int .i64 b.first, .int .i64 b.last, .slice p b.next.length q, .bool b.exit]
def blkV (p : Option Addr) (q : Nat) (b : BlkN) : Value := .agg (blkC p q b).toArray
def blk0 : BlkN := ⟨0, 0, [], false⟩
theorem blkC_one (p : Option Addr) (q : Nat) (b : BlkN) : (blkC p q b).all (·.oneCell') = true := rfl
/-- Blocks, as a slice. -/
structure BlksAt (w : World) (a : Option Addr) (c : Nat) (bs : List BlkN) : Prop where
  elt : ∀ i (h : i < bs.length), ∃ b o p q, a = some ⟨b, o, none⟩ ∧ w.rangeAt b (o + i * 4) (blkC p q bs[i]) ∧ IntsAt w p q bs[i].next
  nil : a = none → c = 0
theorem rangeAt_below {w w' : World} {b o : Nat} {cs : List Value} (h : w.rangeAt b o cs) (hb : Below w.heap.size w w') : w'.rangeAt b o cs := fun j v hj => cbel hb (h j v hj)
theorem BlksAt.below {w w' : World} {a : Option Addr} {c : Nat} {bs : List BlkN} (h : BlksAt w a c bs) (hb : Below w.heap.size w w') : BlksAt w' a c bs := ⟨fun i hi => by
  obtain ⟨b, o, p, q, e, h1, h2⟩ := h.elt i hi
  exact ⟨b, o, p, q, e, rangeAt_below h1 hb, h2.below hb⟩, h.nil⟩
theorem range_blk {w : World} {b o : Nat} {p : Option Addr} {q : Nat} {x : BlkN} (h : w.rangeAt b o (blkC p q x)) : w.cell? ⟨b, o, none⟩ = some (.int .i64 x.first) ∧ w.cell? ⟨b, o + 1, none⟩ = some (.int .i64 x.last) ∧ w.cell? ⟨b, o + 2, none⟩ = some (.slice p x.next.length q) ∧ w.cell? ⟨b, o + 3, none⟩ = some (.bool x.exit) :=
  ⟨h 0 _ rfl, h 1 _ rfl, h 2 _ rfl, h 3 _ rfl⟩
def findZ (bs : List BlkN) (n : Int) : Option BlkN := bs.find? fun b => (b.first : Int) == n
theorem findZ_nat (bs : List BlkN) (n : Nat) : findZ bs n = findB bs n := by
  unfold findZ findB
  congr 1
  funext b
  rw [Bool.eq_iff_iff, beq_iff_eq, decide_eq_true_eq]; omega
theorem findZ_neg {bs : List BlkN} {n : Int} (h : n < 0) : findZ bs n = none := by
  unfold findZ
  rw [List.find?_eq_none]
  intro b _
  simp; omega
def ofZ (bs : List BlkN) (n : Int) : Option BlkN := bs.find? fun b => decide ((b.first : Int) ≤ n) && decide (n ≤ (b.last : Int))
theorem find_some {α : Type} {l : List α} {f : α → Bool} {k : Nat} (hk : k < l.length) (h : f l[k] = true) (hn : ∀ j, (hj : j < l.length) → j < k → f l[j] = false) : l.find? f = some l[k] := by
  have e0 := List.find?_append (xs := l.take k) (ys := l.drop k) (p := f)
  rw [List.take_append_drop] at e0
  have e1 : (l.take k).find? f = none := by
    rw [List.find?_eq_none]
    intro x hx
    obtain ⟨j, hj, rfl⟩ := List.getElem_of_mem hx
    rw [List.getElem_take]
    rw [List.length_take] at hj
    simp [hn j (by omega) (by omega)]
  have e2 : (l.drop k).find? f = some l[k] := by
    rw [List.drop_eq_getElem_cons hk, List.find?_cons, h]
  rw [e0, e1, e2]
  rfl
theorem find_no {α : Type} {l : List α} {f : α → Bool} (hn : ∀ j, (hj : j < l.length) → f l[j] = false) : l.find? f = none := by
  rw [List.find?_eq_none]
  intro x hx
  obtain ⟨j, hj, rfl⟩ := List.getElem_of_mem hx
  simp [hn j hj]
def FindR (w : World) (r : Option BlkN) (e : Ending) (w' : World) : Prop := (∃ p q, e = .returned (.tuple #[blkV p q (r.getD blk0), .bool r.isSome]) ∧ IntsAt w' p q (r.getD blk0).next) ∧ Below w.heap.size w w'
theorem intsAt_nil (w : World) : IntsAt w none 0 [] := ⟨fun i hi => absurd hi (by simp [natI]), fun _ => rfl⟩
theorem struct_block : ∃ fs, Tryd.prog.underlying 29 = some (.struct fs) := ⟨_, Tryd.underlying29⟩
end Go.Proofs.YtijkdabmegbcjaaDoor
namespace Go.Proofs.YtijkdabmegbcjaaDoor
open Go.RowKit

theorem run_append_own_blkV {P : Program} (w : World) (base : Nat) (t ty e : TypeId) (i : TypeInfo) (z : Value) (size bytes : Nat) (ht : P.underlying t = some (.slice e)) (hi : P.info? e = some i) (hz : i.zero = some z)
    (hsize : i.size = size) (hby : i.bytes = bytes) (hzs : z.cells.size = size) (hsz : 0 < size) (v : Value) (n : Nat) (xs : List Value) (hown : w.ownsRow base e size v n xs)
    (a : Addr) (m c : Nat) (news : List Value) (hl : news.length = m * size) (hnews : ∀ j u, news[j]? = some u → w.cell? (a.add j) = some u) (h1 : ∀ u ∈ news, u.oneCell' = true)
    (h63 : n + m ≤ maxLen) (hbytes : (n + m) * bytes ≤ 140737488355328) (hbase : base ≤ w.heap.size) :
    ∃ v' w', (Builtin.append_ #[t, t] ty #[v, .slice (some a) m c]).run P w = .ok v' w' ∧ w'.ownsRow base e size v' (n + m) (xs ++ news) ∧ w.grownBy w' v.ownBlock ∧
      (v'.ownBlock = v.ownBlock ∨ ∀ k, v'.ownBlock = some k → w.heap.size ≤ k) := by
  obtain ⟨v', w', hr, ho, hg, -⟩ := run_append_own (P := P) w base t ty e i z size bytes ht hi hz hsize hby hzs hsz v n xs hown a m c news hl hnews h1 h63 hbytes hbase
  refine ⟨v', w', hr, ho, hg, ?_⟩
  rcases hown.2 with ⟨rfl, rfl⟩ | ⟨g, cap, cur, rfl, hbg, hgg, hnc, hcm, hcs, htake⟩
  · obtain ⟨v2, w2, hr2, ho2, -, -⟩ := run_append_own (P := P) w w.heap.size t ty e i z size bytes ht hi hz hsize hby hzs hsz (.slice none 0 0) 0 [] (World.ownsRow_nil _ _ _ _) a m c news hl hnews h1 (by simpa using h63) (by simpa using hbytes) (Nat.le_refl _)
    rw [hr] at hr2
    obtain ⟨rfl, rfl⟩ : v' = v2 ∧ w' = w2 := by injection hr2; exact ⟨by assumption, by assumption⟩
    exact .inr fun k hk => (ho2.lt k hk).1
  · by_cases hroom : n + m ≤ cap
    · have hmul : (n + m) * size ≤ cap * size := Nat.mul_le_mul_right _ hroom
      rw [Nat.add_mul] at hmul
      have hcells : ∀ j, j < cur.size → w.cell? ⟨g, j, none⟩ = cur[j]? := fun j _ => by rw [cell_of_row w g j cur e (0, 0) hgg]
      have hr2 := run_append_room_cells (P := P) w t ty e i ht hi g 0 n cap a m c news (by rw [hsize, hl]) hnews h1 hroom (fun j hj => by
        have hlt : 0 + n * i.size + j < cur.size := by rw [hsize, hcs]; omega
        rw [hcells _ hlt, Array.getElem?_eq_getElem hlt]; rfl) (fun j hj => frozen_of_row w g _ cur e hgg)
      rw [hr] at hr2
      obtain ⟨rfl, rfl⟩ : v' = .slice (some ⟨g, 0, none⟩) (n + m) cap ∧ w' = _ := by injection hr2; exact ⟨by assumption, by assumption⟩
      exact .inl rfl
    · obtain ⟨v2, w2, hr2, ho2, -⟩ := run_append_arg_grows (P := P) w t ty e i z size bytes ht hi hz hsize hby hzs hsz ⟨g, 0, none⟩ n cap xs hown.1 (fun j u hj => hown.cells (g := g) rfl j u hj) a m c news hl hnews (by omega) h63 hbytes
      rw [hr] at hr2
      obtain ⟨rfl, rfl⟩ : v' = v2 ∧ w' = w2 := by injection hr2; exact ⟨by assumption, by assumption⟩
      exact .inr fun k hk => (ho2.lt k hk).1

theorem wpListIn_append_blkV {F : Fence} {N : Nat} {P : Program} (w : World) {ops : Array Oper} {rest : List Oper} {o : Oper} {ac : Act} {Q : Exit → Act → World → Prop} (hgd : o.guard = none) (s x : Operand) (t : TypeId)
    (hop : o.op = .call { callee := .builtin .append, args := #[s, x], argTypes := #[t, t] })
    (base : Nat) (e : TypeId) (i : TypeInfo) (z : Value) (size bytes : Nat) (ht : P.underlying t = some (.slice e)) (hi : P.info? e = some i) (hz : i.zero = some z)
    (hsize : i.size = size) (hby : i.bytes = bytes) (hzs : z.cells.size = size) (hsz : 0 < size) (v : Value) (n : Nat) (xs : List Value) (hs : ac.eval s = v) (hown : w.ownsRow base e size v n xs)
    (a : Addr) (m c : Nat) (news : List Value) (hx : ac.eval x = .slice (some a) m c) (hl : news.length = m * size) (hnews : ∀ j u, news[j]? = some u → w.cell? (a.add j) = some u) (h1 : ∀ u ∈ news, u.oneCell' = true)
    (h63 : n + m ≤ maxLen) (hbytes : (n + m) * bytes ≤ 140737488355328) (hbase : base ≤ w.heap.size)
    (hK : ∀ v' w', w'.ownsRow base e size v' (n + m) (xs ++ news) → w.grownBy w' v.ownBlock → (v'.ownBlock = v.ownBlock ∨ ∀ k, v'.ownBlock = some k → w.heap.size ≤ k) → wpListIn F N P ops Q rest (ac.put o.dst v') w') : wpListIn F N P ops Q (o :: rest) ac w := by
  refine wpListIn_plain hgd fun K hK' => ?_
  obtain ⟨v', w', hrun, r1, r2, r3⟩ := run_append_own_blkV (P := P) w base t o.type e i z size bytes ht hi hz hsize hby hzs hsz v n xs hown a m c news hl hnews h1 h63 hbytes hbase
  unfold Oper.wpIn
  refine ⟨?_, ?_⟩
  · simp [Oper.about, hop, resolve, Target.leads, Sem.run_pure]
  · rw [Oper.semAt_plain F _ _ (by rw [hop]; intro c hc'; cases hc')]
    simp [execOp, hop, resolve, invoke, builtin, hs, hx, hrun, Result.andThen]
    exact hK' _ _ (hK v' w' r1 r2 r3)
/-- The same, in a walk without a fence. -/
theorem wpList_append_blkV {P : Program} (w : World) {ops : Array Oper} {rest : List Oper} {o : Oper} {ac : Act} {Q : Exit → Act → World → Prop} (hgd : o.guard = none) (s x : Operand) (t : TypeId)
    (ho : o.op = .call { callee := .builtin .append, args := #[s, x], argTypes := #[t, t] })
    (base : Nat) (e : TypeId) (i : TypeInfo) (z : Value) (size bytes : Nat) (ht : P.underlying t = some (.slice e)) (hi : P.info? e = some i) (hz : i.zero = some z)
    (hsize : i.size = size) (hby : i.bytes = bytes) (hzs : z.cells.size = size) (hsz : 0 < size) (v : Value) (n : Nat) (xs : List Value) (hs : ac.eval s = v) (hown : w.ownsRow base e size v n xs)
    (a : Addr) (m c : Nat) (news : List Value) (hx : ac.eval x = .slice (some a) m c) (hl : news.length = m * size) (hnews : ∀ j u, news[j]? = some u → w.cell? (a.add j) = some u) (h1 : ∀ u ∈ news, u.oneCell' = true)
    (h63 : n + m ≤ maxLen) (hbytes : (n + m) * bytes ≤ 140737488355328) (hbase : base ≤ w.heap.size)
    (h : ∀ v' w', w'.ownsRow base e size v' (n + m) (xs ++ news) → w.grownBy w' v.ownBlock → (v'.ownBlock = v.ownBlock ∨ ∀ k, v'.ownBlock = some k → w.heap.size ≤ k) → wpList P ops Q rest (ac.put o.dst v') w') : wpList P ops Q (o :: rest) ac w := by
  obtain ⟨v', w', h1, h2, h3, h4⟩ := run_append_own_blkV (P := P) w base t o.type e i z size bytes ht hi hz hsize hby hzs hsz v n xs hown a m c news hl hnews h1 h63 hbytes hbase
  exact Lib.wpList_append_run w hgd s x t t ho _ _ hs hx v' w' h1 (h v' w' h2 h3 h4)

/-! Rows of structs: each element k cells. -/
theorem flat_len {α β : Type} (k : Nat) (g : α → List β) (hg : ∀ x, (g x).length = k) : ∀ l : List α, (l.flatMap g).length = l.length * k
  | [] => by simp
  | x :: l => by rw [List.flatMap_cons, List.length_append, hg, flat_len k g hg l, List.length_cons, Nat.add_mul]; omega
theorem flat_get {α β : Type} (k : Nat) (g : α → List β) (hg : ∀ x, (g x).length = k) : ∀ (l : List α) (i j : Nat) (h : i < l.length), j < k → (l.flatMap g)[i * k + j]? = (g l[i])[j]?
  | x :: l, 0, j, _, hj => by
    rw [List.flatMap_cons, Nat.zero_mul, Nat.zero_add, List.getElem?_append_left (by rw [hg]; exact hj)]; rfl
  | x :: l, i + 1, j, h, hj => by
    rw [List.flatMap_cons, List.getElem?_append_right (by rw [hg, Nat.add_mul]; omega), hg, show (i + 1) * k + j - k = i * k + j by rw [Nat.add_mul]; omega]
    exact flat_get k g hg l i j (by simpa using h) hj
end Go.Proofs.YtijkdabmegbcjaaDoor
namespace Go.Proofs.YtijkdabmegbcjaaDoor
open Go.RowKit

/-- A new slice of n elements, their cells. -/
def valsT (n : Nat) (vs : List Value) : Told := ⟨fun v => ∃ b : Nat, v = .slice (some ⟨b, 0, none⟩) n n, fun v W => ∀ b : Nat, v = .slice (some ⟨b, 0, none⟩) n n → RowV W (some ⟨b, 0, none⟩) vs, ⟨_, 0, rfl⟩, fun v W W' h hb b e => (h b e).below hb⟩
def spanB (g : List Nat) : BlkN := ⟨fstN g, lstN g, [], false⟩
def spansN (cs : List Nat) : List BlkN := (grps cs).map spanB
/-- A slice of blocks without next ones that a call made. -/
def OwnB (w w' : World) (v : Value) (bs : List BlkN) : Prop := w'.ownsRow w.heap.size 29 4 v bs.length (bs.flatMap (blkC none 0)) ∧ ∀ b ∈ bs, b.next = []
theorem OwnB.nil (w : World) : OwnB w w (.slice none 0 0) [] := ⟨⟨rfl, .inl ⟨rfl, rfl⟩⟩, by simp⟩
theorem info_blk : (Tryd.prog.info? 29).map (fun i => (i.zero, i.size, i.bytes)) = some (some (blkV none 0 blk0), 4, 48) := by kernel_rfl
theorem OwnB.snoc {w w' : World} {v : Value} {bs : List BlkN} {b : BlkN} (h : w'.ownsRow w.heap.size 29 4 v (bs.length + 1) (bs.flatMap (blkC none 0) ++ blkC none 0 b)) (hb : ∀ b ∈ bs, b.next = []) (hn : b.next = []) : OwnB w w' v (bs ++ [b]) := by
  refine ⟨?_, fun x hx => ?_⟩
  · rw [List.length_append, List.flatMap_append]
    simpa using h
  · rcases List.mem_append.1 hx with e | e
    · exact hb x e
    · rw [List.mem_singleton] at e; rw [e]; exact hn
theorem OwnB.slice {w w' : World} {v : Value} {bs : List BlkN} (h : OwnB w w' v bs) : ∃ a c, v = .slice a bs.length c ∧ BlksAt w' a c bs ∧ (∀ x, a = some x → w.heap.size ≤ x.block) ∧ (bs ≠ [] → ∃ b, a = some ⟨b, 0, none⟩ ∧ w.heap.size ≤ b ∧ ∃ vs, BlkG w' b 29 (bs.flatMap (blkC none 0) ++ vs)) := by
  obtain ⟨a, c, rfl, hr, hn, hx, hl, h0⟩ := rowV_own h.1
  refine ⟨a, c, rfl, ⟨fun i hi => ?_, hn⟩, hx, fun hne => ?_⟩
  · have hg := fun j (hj : j < 4) => flat_get 4 (blkC none 0) (fun _ => rfl) bs i j hi hj
    have hlen := flat_len 4 (blkC none 0) (fun _ => rfl) bs
    have h00 : i * 4 < (bs.flatMap (blkC none 0)).length := by rw [hlen]; omega
    obtain ⟨b, o, e, -⟩ := hr (i * 4) h00
    refine ⟨b, o, none, 0, e, fun j u hj => ?_, by rw [h.2 _ (List.getElem_mem hi)]; exact intsAt_nil _⟩
    have hj4 : j < 4 := (List.getElem?_eq_some_iff.1 hj).1
    have hlt : i * 4 + j < (bs.flatMap (blkC none 0)).length := by rw [hlen]; omega
    obtain ⟨b', o', e', hc⟩ := hr (i * 4 + j) hlt
    rw [e] at e'; cases e'
    have := hg j hj4
    rw [List.getElem?_eq_getElem hlt, hj] at this
    injection this with this
    rw [Nat.add_assoc, hc, this]
  · rcases h.1.2 with ⟨e, -⟩ | ⟨g, cap, cur, e, hb, hg, hnc, hcm, hcs, htake⟩
    · injection e with e1
      exact absurd e1 (h0 (fun e => hne (List.eq_nil_of_length_eq_zero e)))
    · injection e with e1
      subst e1
      refine ⟨g, rfl, hb, cur.toList.drop (bs.length * 4), ?_⟩
      unfold BlkG
      rw [hg, ← htake, List.take_append_drop]
theorem own_sliceV {w : World} {base : Nat} {e : TypeId} {size : Nat} {v : Value} {n : Nat} {xs : List Value} (h : w.ownsRow base e size v n xs) : ∃ a c, v = .slice a n c := by
  obtain ⟨a, c, e, -⟩ := rowV_own h
  exact ⟨a, c, e⟩
theorem cuts_eq (cs l : List Nat) (i : Nat) (h : i < l.length) : cutsN cs l[i] l[i + 1]? = cutN (byN cs) l[i] (l.drop (i + 1)) := by
  unfold cutsN cutN
  congr 1
  by_cases h2 : i + 1 < l.length
  · rw [List.getElem?_eq_getElem h2, List.drop_eq_getElem_cons h2]; rfl
  · rw [List.getElem?_eq_none (by omega), List.drop_eq_nil_of_le (by omega)]; rfl
theorem cut_next (f : Nat → Nat) (l : List Nat) (i : Nat) (hi : i + 1 < l.length) (h0 : i < l.length) (hc : cutN f l[i] (l.drop (i + 1)) = false) : f l[i + 1] ≠ 91 := by
  obtain ⟨y, r, e, hy⟩ := cutN_not hc
  rw [List.drop_eq_getElem_cons hi] at e
  rw [(List.cons.inj e).1]; exact hy
theorem cut_last (f : Nat → Nat) (l : List Nat) (i : Nat) (hi : i < l.length) (hn : i + 1 = l.length) : cutN f l[i] (l.drop (i + 1)) = true := by
  cases e : cutN f l[i] (l.drop (i + 1)) with
  | true => rfl
  | false =>
    obtain ⟨y, r, e2, -⟩ := cutN_not e
    rw [List.drop_eq_nil_of_le (by omega)] at e2
    cases e2
theorem grp_end (f : Nat → Nat) (l : List Nat) : grpA f ((l.take l.length).drop l.length) (l.drop l.length) = [] := by
  rw [List.take_length, List.drop_length]; rfl
end Go.Proofs.YtijkdabmegbcjaaDoor
namespace Go.Proofs.YtijkdabmegbcjaaDoor
open Go.RowKit

theorem of_span {cs : List Nat} {g : List Nat} {x : Nat} (hg : g ∈ grps cs) (hx : x ∈ g) : ofZ (spansN cs) x = some (spanB g) := by
  unfold ofZ spansN
  rw [List.find?_map]
  have e : ((fun b : BlkN => decide ((b.first : Int) ≤ (x : Int)) && decide ((x : Int) ≤ (b.last : Int))) ∘ spanB) = fun g => decide (fstN g ≤ x) && decide (x ≤ lstN g) := by
    funext g
    show (decide (((spanB g).first : Int) ≤ (x : Int)) && decide ((x : Int) ≤ ((spanB g).last : Int))) = _
    have h1 : (spanB g).first = fstN g := rfl
    have h2 : (spanB g).last = lstN g := rfl
    rw [h1, h2, Bool.eq_iff_iff, Bool.and_eq_true, Bool.and_eq_true, decide_eq_true_eq, decide_eq_true_eq, decide_eq_true_eq, decide_eq_true_eq]
    omega
  rw [e, grps_of (grps_mem hg hx)]
  obtain ⟨g', h1, h2, h3⟩ := grps_find (grps_mem hg hx)
  rw [h3, grps_one hg h1 hx h2]
  rfl
def atZ (cs : List Nat) (n : Int) : Option Nat := if 0 ≤ n then atN cs n.toNat else none
def fixedZ (cs : List Nat) (n : Int) : Option Nat := if 0 ≤ n then fixedN cs n.toNat else none
theorem atZ_in {cs g : List Nat} {x : Nat} (hg : g ∈ grps cs) (hx : x ∈ g) : atZ cs x = some (fstN g) := by
  unfold atZ
  rw [if_pos (by omega), Int.toNat_natCast]
  unfold atN
  obtain ⟨g', h1, h2, h3⟩ := grps_find (grps_mem hg hx)
  rw [h3, grps_one hg h1 hx h2]
  rfl
theorem atZ_out {cs : List Nat} {n : Int} (h : inN (opsL cs) n = false) : atZ cs n = none := by
  unfold atZ
  split
  · rename_i h0
    obtain ⟨k, rfl⟩ := Int.eq_ofNat_of_zero_le h0
    rw [inN_nat, decide_eq_false_iff_not] at h
    rw [Int.toNat_natCast]
    exact atN_out h
  · rfl
theorem fixedZ_out {cs : List Nat} {n : Int} (h : inN (opsL cs) n = false) : fixedZ cs n = none := by
  unfold fixedZ
  split
  · rename_i h0
    obtain ⟨k, rfl⟩ := Int.eq_ofNat_of_zero_le h0
    rw [inN_nat, decide_eq_false_iff_not] at h
    rw [Int.toNat_natCast]
    exact fixed_out (.inl h)
  · rfl
theorem fixedZ_nat (cs : List Nat) (k : Nat) : fixedZ cs k = fixedN cs k := by unfold fixedZ; rw [if_pos (by omega), Int.toNat_natCast]
theorem grp_of_op {cs : List Nat} {x : Nat} (hx : x ∈ opsL cs) : ∃ g, g ∈ grps cs ∧ x ∈ g := by
  obtain ⟨g, h1, h2, -⟩ := grps_find hx
  exact ⟨g, h1, h2⟩
theorem spans_len (cs : List Nat) : (spansN cs).length ≤ cs.length := by unfold spansN; rw [List.length_map]; exact grps_len cs
def atV (r : Option Nat) : Value := .tuple #[.int .i64 (r.getD 0), .bool r.isSome]
end Go.Proofs.YtijkdabmegbcjaaDoor
namespace Go.Proofs.YtijkdabmegbcjaaDoor
open Go.RowKit

theorem ahead_step (l : List Nat) (ff k i : Nat) (h : i < l.length) : ((l.take (i + 1)).filter (fun y => decide (ff ≤ y) && decide (y < k))).getLast? = if ff ≤ l[i] ∧ l[i] < k then some l[i] else ((l.take i).filter (fun y => decide (ff ≤ y) && decide (y < k))).getLast? := by
  rw [List.take_succ_eq_append_getElem h, List.filter_append]
  by_cases e : ff ≤ l[i] ∧ l[i] < k
  · rw [if_pos e, List.filter_cons_of_pos (by simp [e])]
    simp
  · rw [if_neg e, List.filter_cons_of_neg (by simpa using e)]
    simp
end Go.Proofs.YtijkdabmegbcjaaDoor
namespace Go.Proofs.YtijkdabmegbcjaaDoor
open Go.RowKit

theorem run_storeVar_at {P : Program} (w : World) (b i : Nat) (ty : TypeId) (v : Value) (ht : (w.cell? ⟨b, i, none⟩).isSome = true) (hf : w.frozen? ⟨b, i, none⟩ = false) (hi : (P.info? ty).map (·.size) = some 1) (h1 : v.oneCell' = true) :
    (storeVar ty ⟨b, i, none⟩ v).run P w = .ok () (w.setCell ⟨b, i, none⟩ v) := by
  have := run_storeCells_cells (P := P) b i [v] 0 w (fun j hj => by
    have : j = 0 := by simpa using hj
    subst this; simpa using ht) (fun j hj => by
    have : j = 0 := by simpa using hj
    subst this; simpa using hf) (fun u hu => by rw [List.mem_singleton.1 hu]; exact h1)
  have hc : v.cells = #[v] := by cases v <;> first | rfl | cases h1
  cases hq : P.info? ty with
  | none => simp [hq] at hi
  | some k =>
    have hs : k.size = 1 := by simpa [hq] using hi
    simp only [Nat.add_zero] at this
    simp [storeVar, sizeOf, typeInfo, hq, hc, hs, this, World.setCells]
theorem wp_store_at {P : Program} {o : Oper} {a : Act} {w : World} {K : Act → World → Prop} {Q : Exit → Act → World → Prop} (ty : TypeId) (x y : Operand) (ho : o.op = .store ty x y)
    (b i : Nat) (hx : a.eval x = .pointer (some ⟨b, i, none⟩)) (T : TypeId) (vs : List Value) (v : Value) (hB : BlkG w b T vs) (hl : i < vs.length) (hy : a.eval y = v) (hi : (P.info? ty).map (·.size) = some 1) (h1 : v.oneCell' = true)
    (h : ∀ w', BlkG w' b T (vs.set i v) → Only (· = b) w w' → K (a.put o.dst undef) w') : o.wp P a w K Q := by
  unfold Oper.wp execOp
  simp only [ho, hx, hy, Instr.storeAt, Instr.sureAddr, Sem.run_bind, Sem.run_pure, Result.andThen_ok, run_storeVar_at w b i ty v (by rw [hB.cell i hl]; rfl) (hB.free i) hi h1]
  exact h _ (hB.set i v) ((Only.refl _ w).setCell _ _ rfl)
theorem wpList_store_at {P : Program} {ops : Array Oper} {rest : List Oper} {o : Oper} {a : Act} {w : World} {Q : Exit → Act → World → Prop} (hgd : o.guard = none) (ty : TypeId) (x y : Operand) (ho : o.op = .store ty x y)
    (b i : Nat) (hx : a.eval x = .pointer (some ⟨b, i, none⟩)) (T : TypeId) (vs : List Value) (v : Value) (hB : BlkG w b T vs) (hl : i < vs.length) (hy : a.eval y = v) (hi : (P.info? ty).map (·.size) = some 1) (h1 : v.oneCell' = true)
    (h : ∀ w', BlkG w' b T (vs.set i v) → Only (· = b) w w' → wpList P ops Q rest (a.put o.dst undef) w') : wpList P ops Q (o :: rest) a w :=
  wpList_plain hgd fun _ hK => wp_store_at ty x y ho b i hx T vs v hB hl hy hi h1 fun w' h1 h2 => hK _ _ (h w' h1 h2)
/-- An operation whose guard is met. -/
theorem wpList_wanted {P : Program} {ops : Array Oper} {rest : List Oper} {o : Oper} {a : Act} {w : World} {Q : Exit → Act → World → Prop} (hw : Region.wanted o (yielded ops a.tmps) = true)
    (h : ∀ K : Act → World → Prop, (∀ a w, wpList P ops Q rest a w → K a w) → o.wp P a w K Q) : wpList P ops Q (o :: rest) a w :=
  wpList_step fun K hK => by rw [if_pos hw]; exact h K hK
theorem wpList_load_blkG_g {P : Program} {ops : Array Oper} {rest : List Oper} {o : Oper} {a : Act} {w : World} {Q : Exit → Act → World → Prop} (hw : Region.wanted o (yielded ops a.tmps) = true) (ty : TypeId) (x : Operand) (ho : o.op = .load ty x)
    (b : Nat) (hx : a.eval x = .pointer (some ⟨b, 0, none⟩)) (T : TypeId) (vs : List Value) (d : TypeDesc) (hB : BlkG w b T vs) (hu : P.underlying ty = some d) (hd : (match d with | .struct _ | .array _ _ => true | _ => false) = true) (hi : (P.info? ty).map (·.size) = some vs.length)
    (h : wpList P ops Q rest (a.put o.dst (.agg vs.toArray)) w) : wpList P ops Q (o :: rest) a w :=
  wpList_wanted hw fun _ hK => wp_load_blkG ty x ho b hx T vs d hB hu hd hi (hK _ _ h)
/-- An operation whose value is known. -/
theorem wpList_exec {P : Program} {ops : Array Oper} {rest : List Oper} {o : Oper} {a : Act} {w : World} {Q : Exit → Act → World → Prop} (hgd : o.guard = none) (v : Value) (hr : (execOp a.eval o).run P w = .ok (.value v) w) (h : wpList P ops Q rest (a.put o.dst v) w) : wpList P ops Q (o :: rest) a w :=
  wpList_plain hgd fun _ hK => by unfold Oper.wp; rw [hr]; exact hK _ _ h
end Go.Proofs.YtijkdabmegbcjaaDoor
namespace Go.Proofs.YtijkdabmegbcjaaDoor
open Go.RowKit

theorem fixed_last {cs g : List Nat} (hg : g ∈ grps cs) : fixedN cs (lstN g) = fixG cs g := by
  unfold fixedN
  cases h : (grps cs).find? (fun g' => decide (lstN g' = lstN g)) with
  | none =>
    have := List.find?_eq_none.1 h g hg
    simp at this
  | some g' =>
    have h1 := List.mem_of_find?_eq_some h
    have h2 := List.find?_some h
    simp at h2
    have : g' = g := grps_one h1 hg (by rw [← h2]; exact lst_mem (grps_ne h1)) (lst_mem (grps_ne hg))
    rw [this]
theorem end_not {x : Nat} (h : endN x = true) : x ≠ 86 ∧ x ≠ 87 := by
  constructor <;> (rintro rfl; revert h; decide)
theorem blk_end {cs g : List Nat} (h : endN (byN cs (lstN g)) = true) : blkN cs g = ⟨fstN g, lstN g, [], true⟩ := by
  obtain ⟨h1, h2⟩ := end_not h
  unfold blkN tosJ tosF
  rw [if_pos ⟨h1, h2⟩, if_neg h1, if_pos (.inl h)]
  rfl
theorem blk_86 {cs g : List Nat} (h : byN cs (lstN g) = 86) : blkN cs g = ⟨fstN g, lstN g, setL (tosJ cs g).1, (tosJ cs g).2⟩ := by
  unfold blkN tosF
  rw [if_pos h, List.append_nil, Bool.or_false]
theorem blk_no {cs g : List Nat} (he : endN (byN cs (lstN g)) = false) (h : byN cs (lstN g) ≠ 86) (hn : cs.length ≤ nxN cs (lstN g)) : blkN cs g = ⟨fstN g, lstN g, setL (tosJ cs g).1, true⟩ := by
  unfold blkN tosF
  rw [if_neg h, if_pos (.inr hn), List.append_nil, Bool.or_true]
theorem blk_so {cs g : List Nat} (he : endN (byN cs (lstN g)) = false) (h : byN cs (lstN g) ≠ 86) (hn : nxN cs (lstN g) < cs.length) : blkN cs g = ⟨fstN g, lstN g, insW (nxN cs (lstN g)) (setL (tosJ cs g).1), (tosJ cs g).2⟩ := by
  unfold blkN tosF
  rw [if_neg h, if_neg (by rw [he]; simp; omega), Bool.or_false]
  show _ = _
  rw [setL_snoc]
theorem tos_jump {cs g : List Nat} (hg : g ∈ grps cs) (h : byN cs (lstN g) = 86 ∨ byN cs (lstN g) = 87) : tosJ cs g = match fixedN cs (lstN g) with | none => (marksL cs, true) | some n => if markN cs n = true then ([n], false) else ([], true) := by
  unfold tosJ
  rw [if_neg (by rcases h with h | h <;> simp [h]), fixed_last hg]
  cases fixG cs g <;> rfl
theorem tos_not {cs g : List Nat} (h1 : byN cs (lstN g) ≠ 86) (h2 : byN cs (lstN g) ≠ 87) : tosJ cs g = ([], false) := by
  unfold tosJ
  rw [if_pos ⟨h1, h2⟩]
theorem IntsAt.only {O : Nat → Prop} {w w' : World} {a : Option Addr} {c : Nat} {l : List Nat} (h : IntsAt w a c l) (ho : Only O w w') (ha : ∀ x, a = some x → ¬ O x.block) : IntsAt w' a c l := ⟨h.row.only ho ha, h.nil⟩
/-- A slice of numbers in new memory. -/
def intsT (B : Nat) (l : List Nat) : Told := ⟨fun v => ∃ a c, v = .slice a l.length c, fun v W => ∀ a c, v = .slice a l.length c → IntsAt W a c l ∧ ∀ x, a = some x → B ≤ x.block, ⟨_, none, 0, rfl⟩, fun v W W' h hb a c e => ⟨(h a c e).1.below hb, (h a c e).2⟩⟩
/-- The block that goes() fills: the parameter, and the result. -/
structure XSt (w W : World) (f l : Nat) (nx : List Nat) (e : Bool) (p : Option Addr) (q : Nat) : Prop where
  blk : BlkG W w.heap.size 29 (blkC p q ⟨f, l, nx, e⟩)
  res : BlkG W (w.heap.size + 1) 29 (blkC none 0 blk0)
  ints : IntsAt W p q nx
  new : ∀ x, p = some x → w.heap.size + 2 ≤ x.block
  bel : Below w.heap.size w W
  two : w.heap.size + 2 ≤ W.heap.size
section
variable {w W W' : World} {f l : Nat} {nx nx' : List Nat} {e : Bool} {p p' : Option Addr} {q q' k : Nat}
theorem XSt.step (h : XSt w W f l nx e p q) (hb : Below W.heap.size W W') : XSt w W' f l nx e p q := ⟨h.blk.below hb, h.res.below hb, h.ints.below hb, h.new, xtrans h.bel hb, Nat.le_trans h.two hb.size⟩
theorem XSt.other (h : XSt w W f l nx e p q) (ho : Only (· = k) W W') (hk : w.heap.size + 2 ≤ k) (hp : ∀ x, p = some x → x.block ≠ k) : XSt w W' f l nx e p q :=
  ⟨h.blk.only ho (by omega), h.res.only ho (by omega), h.ints.only ho hp, h.new, ho.below h.bel h.bel.size (by rintro i rfl; omega), Nat.le_trans h.two ho.size⟩
theorem XSt.exit (h : XSt w W f l nx e p q) (hX : BlkG W' w.heap.size 29 ((blkC p q ⟨f, l, nx, e⟩).set 3 (.bool true))) (ho : Only (· = w.heap.size) W W') : XSt w W' f l nx true p q :=
  ⟨hX, h.res.only ho (by omega), h.ints.only ho (fun x hx e => by have := h.new x hx; omega), h.new, ho.below h.bel h.bel.size (by rintro i rfl; omega), Nat.le_trans h.two ho.size⟩
theorem XSt.next (h : XSt w W f l nx e p q) (hX : BlkG W' w.heap.size 29 ((blkC p q ⟨f, l, nx, e⟩).set 2 (.slice p' nx'.length q'))) (ho : Only (· = w.heap.size) W W') (hI : IntsAt W p' q' nx') (hn : ∀ x, p' = some x → w.heap.size + 2 ≤ x.block) : XSt w W' f l nx' e p' q' :=
  ⟨hX, h.res.only ho (by omega), hI.only ho (fun x hx e => by have := hn x hx; omega), hn, ho.below h.bel h.bel.size (by rintro i rfl; omega), Nat.le_trans h.two ho.size⟩
theorem XSt.cells (h : XSt w W f l nx e p q) : W.cell? ⟨w.heap.size, 1, none⟩ = some (.int .i64 l) ∧ W.cell? ⟨w.heap.size, 2, none⟩ = some (.slice p nx.length q) := ⟨h.blk.cell 1 (by show 1 < 4; omega), h.blk.cell 2 (by show 2 < 4; omega)⟩
theorem XSt.far (h : XSt w W f l nx e p q) {a : Option Addr} (ha : ∀ x, a = some x → W.heap.size ≤ x.block) : ∀ x, a = some x → w.heap.size + 2 ≤ x.block := fun x hx => Nat.le_trans h.two (ha x hx)
theorem XSt.done (h : XSt w W f l nx e p q) (ho : Only (· = w.heap.size + 1) W W') : IntsAt W' p q nx ∧ (∀ x, p = some x → w.heap.size ≤ x.block) ∧ Below w.heap.size w W' :=
  ⟨h.ints.only ho (fun x hx e => by have := h.new x hx; omega), fun x hx => by have := h.new x hx; omega, ho.below h.bel h.bel.size (by rintro i rfl; omega)⟩
theorem XSt.start (w : World) (f l : Nat) : XSt w ((w.alloc (.cells #[.int .i64 f, .int .i64 l, .slice none 0 0, .bool false] 29)).alloc (.cells #[.int .i64 0, .int .i64 0, .slice none 0 0, .bool false] 29)) f l [] false none 0 :=
  ⟨(BlkG.new w _ (blkC none 0 ⟨f, l, [], false⟩)).alloc _, by
    have := BlkG.new (w.alloc (.cells #[.int .i64 f, .int .i64 l, .slice none 0 0, .bool false] 29)) 29 (blkC none 0 blk0)
    rw [World.size_alloc] at this
    exact this, intsAt_nil _, fun x hx => (by cases hx), xalloc (xalloc (xrefl w) _) _, by rw [World.size_alloc, World.size_alloc]; omega⟩
end
end Go.Proofs.YtijkdabmegbcjaaDoor
namespace Go.Proofs.YtijkdabmegbcjaaDoor
open Go.RowKit

theorem setCells_mid (b : Nat) (T : TypeId) : ∀ (vs mid pre rest : List Value) (w : World), w.heap[b]? = some (.cells (pre ++ (mid ++ rest)).toArray T (0, 0)) → vs.length = mid.length → (w.setCells b pre.length vs).heap[b]? = some (.cells (pre ++ (vs ++ rest)).toArray T (0, 0))
  | [], mid, pre, rest, w, h, hl => by
    have : mid = [] := List.length_eq_zero_iff.1 (by simpa using hl.symm)
    subst this
    exact h
  | v :: vs, m :: mid, pre, rest, w, h, hl => by
    have h2 : (w.setCell ⟨b, pre.length, none⟩ v).heap[b]? = some (.cells ((pre ++ [v]) ++ (mid ++ rest)).toArray T (0, 0)) := by
      rw [heap_setCell_same w b pre.length _ T _ h]
      congr 2
      apply Array.ext'
      simp
    have := setCells_mid b T vs mid (pre ++ [v]) rest (w.setCell ⟨b, pre.length, none⟩ v) h2 (by simpa using hl)
    rw [World.setCells]
    simpa using this
/-- Rows 0, .., n - 1, and other cells behind. -/
def RowC (w : World) (b : Nat) (T : TypeId) (n : Nat) (C : Nat → List Value) (vs : List Value) : Prop := BlkG w b T ((List.range n).flatMap C ++ vs)
def updC (C : Nat → List Value) (i : Nat) (x : List Value) : Nat → List Value := fun j => if j = i then x else C j
theorem flat_range {α : Type} (f : α → List Value) (d : α) (l : List α) : l.flatMap f = (List.range l.length).flatMap (fun i => f (l.getD i d)) := by
  have e : l = (List.range l.length).map (fun i => l.getD i d) := by
    apply List.ext_getElem (by simp)
    intro i h1 h2
    simp [h1]
  exact (show l.flatMap f = ((List.range l.length).map (fun i => l.getD i d)).flatMap f by rw [← e]).trans (by rw [List.flatMap_map])
section
variable {w w' : World} {b n : Nat} {T : TypeId} {C : Nat → List Value} {vs : List Value} {k : Nat}
theorem RowC.below (h : RowC w b T n C vs) (hb : Below w.heap.size w w') : RowC w' b T n C vs := BlkG.below h hb
theorem RowC.lt (h : RowC w b T n C vs) : b < w.heap.size := BlkG.lt h
theorem RowC.only {O : Nat → Prop} (h : RowC w b T n C vs) (ho : Only O w w') (hb : ¬ O b) : RowC w' b T n C vs := BlkG.only h ho hb
theorem rowC_get (hC : ∀ j, (C j).length = k) {i j : Nat} (hi : i < n) (hj : j < k) : ((List.range n).flatMap C ++ vs)[i * k + j]? = (C i)[j]? := by
  have hl := flat_len k C hC (List.range n)
  have h1 : i * k + j < n * k := by
    have : (i + 1) * k ≤ n * k := Nat.mul_le_mul_right _ hi
    rw [Nat.add_mul] at this; omega
  rw [List.getElem?_append_left (by rw [hl, List.length_range]; exact h1), flat_get k C hC (List.range n) i j (by simpa using hi) hj]
  simp
theorem RowC.at (h : RowC w b T n C vs) (hC : ∀ j, (C j).length = k) {i : Nat} (hi : i < n) : w.rangeAt b (0 + i * k) (C i) := fun j v hj => by
  have hj4 : j < k := by rw [← hC i]; exact (List.getElem?_eq_some_iff.1 hj).1
  have hg := rowC_get (vs := vs) hC hi hj4
  rw [hj] at hg
  obtain ⟨hlt, he⟩ := List.getElem?_eq_some_iff.1 hg
  rw [Nat.zero_add, BlkG.cell h _ hlt, he]
theorem RowC.there (h : RowC w b T n C vs) (hC : ∀ j, (C j).length = k) {i : Nat} (hi : i < n) : w.there b (i * k) k := fun j hj => by
  have hg := rowC_get (vs := vs) hC hi hj
  have hj' : j < (C i).length := by rw [hC]; exact hj
  rw [List.getElem?_eq_getElem hj'] at hg
  obtain ⟨hlt, he⟩ := List.getElem?_eq_some_iff.1 hg
  exact ⟨by rw [BlkG.cell h _ hlt]; rfl, BlkG.free h _⟩
theorem RowC.set (h : RowC w b T n C vs) (hC : ∀ j, (C j).length = k) {i : Nat} (hi : i < n) {x : List Value} (hx : x.length = k) : RowC (w.setCells b (i * k) x) b T n (updC C i x) vs := by
  have hm : i ∈ List.range n := List.mem_range.2 hi
  obtain ⟨s, t, e⟩ := List.append_of_mem hm
  have hnd : (List.range n).Nodup := List.nodup_range
  have hs : s.length = i := by
    have h1 : (List.range n)[s.length]? = some i := by rw [e]; simp
    have h2 := (List.getElem?_eq_some_iff.1 h1).2
    simpa using h2
  rw [e, List.nodup_append] at hnd
  obtain ⟨-, hnt, hd⟩ := hnd
  have hs' : ∀ j ∈ s, updC C i x j = C j := fun j hj => by
    unfold updC; rw [if_neg (hd j hj i (by simp))]
  have ht' : ∀ j ∈ t, updC C i x j = C j := fun j hj => by
    unfold updC; rw [if_neg]
    rintro rfl
    exact (List.nodup_cons.1 hnt).1 hj
  have fm : ∀ (l : List Nat), (∀ j ∈ l, updC C i x j = C j) → l.flatMap (updC C i x) = l.flatMap C := fun l hl => by
    rw [List.flatMap_def, List.flatMap_def, List.map_congr_left hl]
  unfold RowC BlkG at *
  rw [e, List.flatMap_append, List.flatMap_cons] at h ⊢
  rw [fm s hs', fm t ht', show updC C i x i = x from if_pos rfl]
  have hl := flat_len k C hC s
  rw [hs] at hl
  have := setCells_mid b T x (C i) (s.flatMap C) (t.flatMap C ++ vs) w (by simpa using h) (by rw [hx, hC])
  rw [hl] at this
  simpa using this
end
/-- A row is laid anew. -/
theorem wpList_store_rowC {P : Program} {ops : Array Oper} {rest : List Oper} {o : Oper} {a : Act} {w : World} {Q : Exit → Act → World → Prop} (hgd : o.guard = none) (ty : TypeId) (x y : Operand) (ho : o.op = .store ty x y)
    (b i k f : Nat) (hf : f = i * k) (hx : a.eval x = .pointer (some ⟨b, f, none⟩)) (T : TypeId) (n : Nat) (C : Nat → List Value) (vs x' : List Value) (hB : RowC w b T n C vs) (hC : ∀ j, (C j).length = k) (hi : i < n) (hy : a.eval y = .agg x'.toArray) (hl : x'.length = k)
    (hsz : (P.info? ty).map (·.size) = some x'.length) (h1 : x'.all (·.oneCell') = true)
    (h : ∀ w', RowC w' b T n (updC C i x') vs → Only (· = b) w w' → wpList P ops Q rest (a.put o.dst undef) w') : wpList P ops Q (o :: rest) a w :=
  wpList_plain hgd fun _ hK => wp_store_mid ty x y ho b f _ hx hy (by subst hf; have := hB.there hC hi; simpa [hl] using this) (by simpa using hsz) (by simpa using h1) (hK _ _ (h _ (by subst hf; exact hB.set hC hi hl) (setCells_only _ _ _ _)))
end Go.Proofs.YtijkdabmegbcjaaDoor
