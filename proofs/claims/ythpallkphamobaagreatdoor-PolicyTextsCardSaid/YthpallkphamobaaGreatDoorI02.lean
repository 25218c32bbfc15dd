/- Texts of this claim, merged; no condition. -/
import Derived.ArgAppend
import Derived.OwnWalkIn
import Derived.Test.YthpallkphamobaaGreatDoorI01
import Derived.StillTail
import Derived.Orders
set_option linter.all false
namespace Go.Proofs.YthpallkphamobaaGreatDoor
open Go.RowKit

theorem run_append_own_blk {P : Program} (w : World) (base : Nat) (t ty e : TypeId) (i : TypeInfo) (z : Value) (bytes : Nat) (ht : P.underlying t = some (.slice e)) (hi : P.info? e = some i) (hz : i.zero = some z)
    (hsize : i.size = 1) (hby : i.bytes = bytes) (hzs : z.cells.size = 1) (v : Value) (n : Nat) (xs : List Value) (hown : w.ownsRow base e 1 v n xs)
    (a : Addr) (m c : Nat) (news : List Value) (hl : news.length = m) (hnews : ∀ j u, news[j]? = some u → w.cell? (a.add j) = some u) (h1 : ∀ u ∈ news, u.oneCell' = true)
    (h63 : n + m ≤ maxLen) (hbytes : (n + m) * bytes ≤ 140737488355328) (hbase : base ≤ w.heap.size) :
    ∃ v' w', (Builtin.append_ #[t, t] ty #[v, .slice (some a) m c]).run P w = .ok v' w' ∧ w'.ownsRow base e 1 v' (n + m) (xs ++ news) ∧ w.grownBy w' v.ownBlock ∧
      (v'.ownBlock = v.ownBlock ∨ ∀ k, v'.ownBlock = some k → w.heap.size ≤ k) := by
  obtain ⟨v', w', hr, ho, hg, -⟩ := run_append_own (P := P) w base t ty e i z 1 bytes ht hi hz hsize hby hzs (by decide) v n xs hown a m c news (by rw [hl, Nat.mul_one]) hnews h1 h63 hbytes hbase
  refine ⟨v', w', hr, ho, hg, ?_⟩
  rcases hown.2 with ⟨rfl, rfl⟩ | ⟨g, cap, cur, rfl, hbg, hgg, hnc, hcm, hcs, htake⟩
  · obtain ⟨v2, w2, hr2, ho2, -, -⟩ := run_append_own (P := P) w w.heap.size t ty e i z 1 bytes ht hi hz hsize hby hzs (by decide) (.slice none 0 0) 0 [] (World.ownsRow_nil _ _ _ _) a m c news (by rw [hl, Nat.mul_one]) hnews h1 (by simpa using h63) (by simpa using hbytes) (Nat.le_refl _)
    rw [hr] at hr2
    obtain ⟨rfl, rfl⟩ : v' = v2 ∧ w' = w2 := by injection hr2; exact ⟨by assumption, by assumption⟩
    exact .inr fun k hk => (ho2.lt k hk).1
  · by_cases hroom : n + m ≤ cap
    · have hcells : ∀ j, j < cur.size → w.cell? ⟨g, j, none⟩ = cur[j]? := fun j _ => by rw [cell_of_row w g j cur e (0, 0) hgg]
      have hr2 := run_append_room_cells (P := P) w t ty e i ht hi g 0 n cap a m c news (by rw [hsize, hl, Nat.mul_one]) hnews h1 hroom (fun j hj => by
        have hlt : 0 + n * i.size + j < cur.size := by rw [hsize]; omega
        rw [hcells _ hlt, Array.getElem?_eq_getElem hlt]; rfl) (fun j hj => frozen_of_row w g _ cur e hgg)
      rw [hr] at hr2
      obtain ⟨rfl, rfl⟩ : v' = .slice (some ⟨g, 0, none⟩) (n + m) cap ∧ w' = _ := by injection hr2; exact ⟨by assumption, by assumption⟩
      exact .inl rfl
    · obtain ⟨v2, w2, hr2, ho2, -⟩ := run_append_arg_grows (P := P) w t ty e i z 1 bytes ht hi hz hsize hby hzs (by decide) ⟨g, 0, none⟩ n cap xs hown.1 (fun j u hj => hown.cells (g := g) rfl j u hj) a m c news (by rw [hl, Nat.mul_one]) hnews (by omega) h63 hbytes
      rw [hr] at hr2
      obtain ⟨rfl, rfl⟩ : v' = v2 ∧ w' = w2 := by injection hr2; exact ⟨by assumption, by assumption⟩
      exact .inr fun k hk => (ho2.lt k hk).1

theorem wpListIn_append_blk {F : Fence} {N : Nat} {P : Program} (w : World) {ops : Array Oper} {rest : List Oper} {o : Oper} {ac : Act} {Q : Exit → Act → World → Prop} (hgd : o.guard = none) (s x : Operand) (t : TypeId)
    (hop : o.op = .call { callee := .builtin .append, args := #[s, x], argTypes := #[t, t] })
    (base : Nat) (e : TypeId) (i : TypeInfo) (z : Value) (bytes : Nat) (ht : P.underlying t = some (.slice e)) (hi : P.info? e = some i) (hz : i.zero = some z)
    (hsize : i.size = 1) (hby : i.bytes = bytes) (hzs : z.cells.size = 1) (v : Value) (n : Nat) (xs : List Value) (hs : ac.eval s = v) (hown : w.ownsRow base e 1 v n xs)
    (a : Addr) (m c : Nat) (news : List Value) (hx : ac.eval x = .slice (some a) m c) (hl : news.length = m) (hnews : ∀ j u, news[j]? = some u → w.cell? (a.add j) = some u) (h1 : ∀ u ∈ news, u.oneCell' = true)
    (h63 : n + m ≤ maxLen) (hbytes : (n + m) * bytes ≤ 140737488355328) (hbase : base ≤ w.heap.size)
    (hK : ∀ v' w', w'.ownsRow base e 1 v' (n + m) (xs ++ news) → w.grownBy w' v.ownBlock → (v'.ownBlock = v.ownBlock ∨ ∀ k, v'.ownBlock = some k → w.heap.size ≤ k) → wpListIn F N P ops Q rest (ac.put o.dst v') w') : wpListIn F N P ops Q (o :: rest) ac w := by
  refine wpListIn_plain hgd fun K hK' => ?_
  obtain ⟨v', w', hrun, r1, r2, r3⟩ := run_append_own_blk (P := P) w base t o.type e i z bytes ht hi hz hsize hby hzs v n xs hown a m c news hl hnews h1 h63 hbytes hbase
  unfold Oper.wpIn
  refine ⟨?_, ?_⟩
  · simp [Oper.about, hop, resolve, Target.leads, Sem.run_pure]
  · rw [Oper.semAt_plain F _ _ (by rw [hop]; intro c hc'; cases hc')]
    simp [execOp, hop, resolve, invoke, builtin, hs, hx, hrun, Result.andThen]
    exact hK' _ _ (hK v' w' r1 r2 r3)

end Go.Proofs.YthpallkphamobaaGreatDoor
namespace Go.Proofs.YthpallkphamobaaGreatDoor
open Go.RowKit

theorem run_append_own_blkV {P : Program} (w : World) (base : Nat) (t ty e : TypeId) (i : TypeInfo) (z : Value) (size bytes : Nat) (ht : P.underlying t = some (.slice e)) (hi : P.info? e = some i) (hz : i.zero = some z)
    (hsize : i.size = size) (hby : i.bytes = bytes) (hzs : z.cells.size = size) (hsz : 0 < size) (v : Value) (n : Nat) (xs : List Value) (hown : w.ownsRow base e size v n xs)
    (a : Addr) (m c : Nat) (news : List Value) (hl : news.length = m * size) (hnews : ∀ j u, news[j]? = some u → w.cell? (a.add j) = some u) (h1 : ∀ u ∈ news, u.oneCell' = true)
    (h63 : n + m ≤ maxLen) (hbytes : (n + m) * bytes ≤ 140737488355328) (hbase : base ≤ w.heap.size) :
    ∃ v' w', (Builtin.append_ #[t, t] ty #[v, .slice (some a) m c]).run P w = .ok v' w' ∧ w'.ownsRow base e size v' (n + m) (xs ++ news) ∧ w.grownBy w' v.ownBlock ∧
      (v'.ownBlock = v.ownBlock ∨ ∀ k, v'.ownBlock = some k → w.heap.size ≤ k) := by
  obtain ⟨v', w', hr, ho, hg, -⟩ := run_append_own (P := P) w base t ty e i z size bytes ht hi hz hsize hby hzs hsz v n xs hown a m c news hl hnews h1 h63 hbytes hbase
  refine ⟨v', w', hr, ho, hg, ?_⟩
  rcases hown.2 with ⟨rfl, rfl⟩ | ⟨g, cap, cur, rfl, hbg, hgg, hnc, hcm, hcs, htake⟩
  · obtain ⟨v2, w2, hr2, ho2, -, -⟩ := run_append_own (P := P) w w.heap.size t ty e i z size bytes ht hi hz hsize hby hzs hsz (.slice none 0 0) 0 [] (World.ownsRow_nil _ _ _ _) a m c news hl hnews h1 (by simpa using h63) (by simpa using hbytes) (Nat.le_refl _)
    rw [hr] at hr2
    obtain ⟨rfl, rfl⟩ : v' = v2 ∧ w' = w2 := by injection hr2; exact ⟨by assumption, by assumption⟩
    exact .inr fun k hk => (ho2.lt k hk).1
  · by_cases hroom : n + m ≤ cap
    · have hmul : (n + m) * size ≤ cap * size := Nat.mul_le_mul_right _ hroom
      rw [Nat.add_mul] at hmul
      have hcells : ∀ j, j < cur.size → w.cell? ⟨g, j, none⟩ = cur[j]? := fun j _ => by rw [cell_of_row w g j cur e (0, 0) hgg]
      have hr2 := run_append_room_cells (P := P) w t ty e i ht hi g 0 n cap a m c news (by rw [hsize, hl]) hnews h1 hroom (fun j hj => by
        have hlt : 0 + n * i.size + j < cur.size := by rw [hsize, hcs]; omega
        rw [hcells _ hlt, Array.getElem?_eq_getElem hlt]; rfl) (fun j hj => frozen_of_row w g _ cur e hgg)
      rw [hr] at hr2
      obtain ⟨rfl, rfl⟩ : v' = .slice (some ⟨g, 0, none⟩) (n + m) cap ∧ w' = _ := by injection hr2; exact ⟨by assumption, by assumption⟩
      exact .inl rfl
    · obtain ⟨v2, w2, hr2, ho2, -⟩ := run_append_arg_grows (P := P) w t ty e i z size bytes ht hi hz hsize hby hzs hsz ⟨g, 0, none⟩ n cap xs hown.1 (fun j u hj => hown.cells (g := g) rfl j u hj) a m c news hl hnews (by omega) h63 hbytes
      rw [hr] at hr2
      obtain ⟨rfl, rfl⟩ : v' = v2 ∧ w' = w2 := by injection hr2; exact ⟨by assumption, by assumption⟩
      exact .inr fun k hk => (ho2.lt k hk).1

end Go.Proofs.YthpallkphamobaaGreatDoor
namespace Go.Proofs.YthpallkphamobaaGreatDoor
open Go.RowKit

theorem BlkG.range {w : World} {b : Nat} {T : TypeId} {vs : List Value} (h : BlkG w b T vs) : w.rangeAt b 0 vs := fun j v hj => by
  obtain ⟨hl, e⟩ := List.getElem?_eq_some_iff.1 hj
  rw [Nat.zero_add, h.cell j hl, e]
def adrC (a : List Nat) : List Value := (natI a).map (Value.int .u8)
def adrV (a : List Nat) : Value := .agg (adrC a).toArray
def labV (x : BitVec 64) : Value := .int .u64 (iv64 x)
def clearC (x : List Nat × BitVec 64) : List Value := adrC x.1 ++ [labV x.2]
def relC (x : List Nat × Nat × BitVec 64) : List Value := adrC x.1 ++ [.int .u32 x.2.1, labV x.2.2]
theorem adrC_len (a : List Nat) : (adrC a).length = a.length := by simp [adrC, natI]
/-- A slice of rows of k cells each. -/
structure RowsAt {α : Type} (k : Nat) (C : α → List Value) (W : World) (a : Option Addr) (c : Nat) (l : List α) : Prop where
  elt : ∀ i (hi : i < l.length), ∃ b o, a = some ⟨b, o, none⟩ ∧ W.rangeAt b (o + i * k) (C l[i])
  nil : a = none → c = 0
  cap : l.length ≤ c ∧ c ≤ 9223372036854775807
theorem RowsAt.below {α : Type} {k : Nat} {C : α → List Value} {W W' : World} {a : Option Addr} {c : Nat} {l : List α} (h : RowsAt k C W a c l) (hb : Below W.heap.size W W') : RowsAt k C W' a c l :=
  ⟨fun i hi => by obtain ⟨b, o, e, hr⟩ := h.elt i hi; exact ⟨b, o, e, fun j v hj => cbel hb (hr j v hj)⟩, h.nil, h.cap⟩
theorem RowsAt.none {α : Type} {k : Nat} {C : α → List Value} {W : World} : RowsAt k C W Option.none 0 ([] : List α) := ⟨fun i hi => by simp at hi, fun _ => rfl, by simp⟩
def polV (p : PolN) (a : Option Addr) (c : Nat) (b : Option Addr) (d : Nat) : Value := .agg #[labV p.dflt, .slice a p.clears.length c, .slice b p.rels.length d]
/-- What memory holds of a policy. -/
structure PolAt (W : World) (p : PolN) (a : Option Addr) (c : Nat) (b : Option Addr) (d : Nat) : Prop where
  cl : RowsAt 21 clearC W a c p.clears
  re : RowsAt 22 relC W b d p.rels
  ok : p.Ok
theorem PolAt.below {W W' : World} {p : PolN} {a b : Option Addr} {c d : Nat} (h : PolAt W p a c b d) (hb : Below W.heap.size W W') : PolAt W' p a c b d := ⟨h.cl.below hb, h.re.below hb, h.ok⟩
end Go.Proofs.YthpallkphamobaaGreatDoor
namespace Go.Proofs.YthpallkphamobaaGreatDoor

def Good (w : List UInt8) : Prop := (32 : UInt8) ∉ w ∧ (10 : UInt8) ∉ w
theorem Good.app {a b : List UInt8} (h : Good a) (k : Good b) : Good (a ++ b) := ⟨by simp [h.1, k.1], by simp [h.2, k.2]⟩
theorem digit_good : ∀ k, k < 10 → Good [UInt8.ofNat (48 + k)] := by
  unfold Good; decide
theorem dec_good (n : Nat) : Good (Lib.decDigits n) := by
  induction n using Nat.strongRecOn with
  | _ n ih =>
    rw [Lib.decDigits]
    by_cases h : n < 10
    · rw [dif_pos h]; exact digit_good n h
    · rw [dif_neg h]; exact (ih (n / 10) (by omega)).app (digit_good _ (by omega))
theorem join_good : ∀ ws : List (List UInt8), (∀ w ∈ ws, Good w) → Good (Lib.join ws [44])
  | [], _ => by rw [Lib.join_nil]; exact ⟨by simp, by simp⟩
  | [w], h => by rw [Lib.join_one]; exact h w (by simp)
  | w :: x :: r, h => by
    rw [join_cons2]
    exact ((h w (by simp)).app ⟨by decide, by decide⟩).app (join_good (x :: r) fun y hy => h y (List.mem_cons_of_mem _ hy))
theorem label_good (a : BitVec 64) : Good (textL a) := by
  unfold textL
  by_cases h : memL a = []
  · rw [if_pos h]; exact ⟨by decide, by decide⟩
  · rw [if_neg h]
    exact join_good _ fun w hw => by
      obtain ⟨k, -, rfl⟩ := List.mem_map.1 hw
      exact dec_good k
theorem hexc_good : ∀ d, d < 16 → hexc d ≠ 10 := by decide
theorem hexL_good : ∀ l : List Nat, (∀ b ∈ l, b < 256) → (10 : UInt8) ∉ hexL (natI l)
  | [], _ => by simp [hexL, natI]
  | n :: l, h => by
    have hn := h n (by simp)
    rw [hexL_cons]
    have h1 := hexc_good (n / 16) (by omega)
    have h2 := hexc_good (n % 16) (by omega)
    have h3 := hexL_good l fun b hb => h b (List.mem_cons_of_mem _ hb)
    simp only [List.mem_cons, not_or]
    exact ⟨Ne.symm h1, Ne.symm h2, h3⟩
theorem hexN_good (l : List Nat) (h : ∀ b ∈ l, b < 256) : Good (hexN l) := ⟨hexN_space l h, by
  unfold hexN
  have := hexL_good l h
  simpa using this⟩
theorem words_good {p : PolN} (h : p.Ok) : ∀ l ∈ wordsF p, l ≠ [] ∧ ∀ w ∈ l, Good w := by
  have hd : Good wDefault := ⟨by decide, by decide⟩
  have hc : Good wClear := ⟨by decide, by decide⟩
  have hr : Good wRelease := ⟨by decide, by decide⟩
  intro l hl
  unfold wordsF at hl
  rcases List.mem_cons.1 hl with rfl | hl
  · refine ⟨by simp [lineD], fun w hw => ?_⟩
    simp only [lineD, List.mem_cons, List.not_mem_nil, or_false] at hw
    rcases hw with rfl | rfl
    · exact hd
    · exact label_good _
  · rcases List.mem_append.1 hl with hl | hl
    · obtain ⟨x, hx, rfl⟩ := List.mem_map.1 hl
      refine ⟨by simp [lineC], fun w hw => ?_⟩
      simp only [lineC, List.mem_cons, List.not_mem_nil, or_false] at hw
      rcases hw with rfl | rfl | rfl
      · exact hc
      · exact hexN_good _ (h.c x hx).2
      · exact label_good _
    · obtain ⟨x, hx, rfl⟩ := List.mem_map.1 hl
      refine ⟨by simp [lineR], fun w hw => ?_⟩
      simp only [lineR, List.mem_cons, List.not_mem_nil, or_false] at hw
      rcases hw with rfl | rfl | rfl | rfl
      · exact hr
      · exact hexN_good _ (h.r x hx).1.2
      · exact dec_good _
      · exact label_good _
theorem join32_good : ∀ ws : List (List UInt8), (∀ w ∈ ws, Good w) → (10 : UInt8) ∉ Lib.join ws [32]
  | [], _ => by rw [Lib.join_nil]; simp
  | [w], h => by rw [Lib.join_one]; exact (h w (by simp)).2
  | w :: x :: r, h => by
    rw [join_cons2]
    have h1 := (h w (by simp)).2
    have h2 := join32_good (x :: r) fun y hy => h y (List.mem_cons_of_mem _ hy)
    simp only [List.mem_append, not_or]
    exact ⟨⟨h1, by decide⟩, h2⟩
theorem text_join : ∀ ls : List (List UInt8), ls ≠ [] → ls.flatMap (· ++ [10]) = Lib.join ls [10] ++ [10]
  | [], h => absurd rfl h
  | [w], _ => by rw [Lib.join_one]; simp
  | w :: x :: r, _ => by
    rw [join_cons2, List.flatMap_cons, text_join (x :: r) (by simp)]
    simp
theorem lines_ne (p : PolN) : linesF p ≠ [] := by unfold linesF wordsF; simp
theorem text_last (p : PolN) : (textF p).getLast? = some 10 ∧ (textF p).dropLast = Lib.join (linesF p) [10] := by
  unfold textF
  rw [text_join _ (lines_ne p)]
  exact ⟨by simp, by simp⟩
theorem spl_lines {p : PolN} (h : p.Ok) : splS 10 (textF p).dropLast = linesF p := by
  rw [(text_last p).2]
  refine spl_join 10 _ (lines_ne p) fun l hl => ?_
  obtain ⟨ws, hws, rfl⟩ := List.mem_map.1 hl
  exact join32_good ws (words_good h ws hws).2
theorem spl_words {p : PolN} (h : p.Ok) : ∀ ws ∈ wordsF p, splS 32 (Lib.join ws [32]) = ws := fun ws hws =>
  spl_join 32 ws (words_good h ws hws).1 fun w hw => ((words_good h ws hws).2 w hw).1
theorem line_c (q : PolN) (x : List Nat × BitVec 64) (hx : x.1.length = 20 ∧ ∀ b ∈ x.1, b < 256) (hq : q.rels = []) : lineF q false (lineC x) = some { q with clears := q.clears ++ [x] } := by
  unfold lineC lineF
  dsimp only
  rw [if_pos ⟨rfl, hq⟩, addr_hex hx.2 hx.1, parseP_text]
  rfl
theorem line_r (q : PolN) (x : List Nat × Nat × BitVec 64) (hx : (x.1.length = 20 ∧ ∀ b ∈ x.1, b < 256) ∧ x.2.1 < 4294967296) : lineF q false (lineR x) = some { q with rels := q.rels ++ [x] } := by
  unfold lineR lineF
  dsimp only
  rw [if_pos rfl, addr_hex hx.1.2 hx.1.1, num_dec hx.2, parseP_text]
  rfl
theorem lines_rels : ∀ (rs : List (List Nat × Nat × BitVec 64)) (q : PolN), (∀ x ∈ rs, (x.1.length = 20 ∧ ∀ b ∈ x.1, b < 256) ∧ x.2.1 < 4294967296) → (∀ x ∈ rs, splS 32 (Lib.join (lineR x) [32]) = lineR x) →
    linesP q false ((rs.map lineR).map fun l => Lib.join l [32]) = some { q with rels := q.rels ++ rs }
  | [], q, _, _ => by rw [List.map_nil, List.map_nil, linesP, List.append_nil]
  | x :: rs, q, h, hs => by
    rw [List.map_cons, List.map_cons, linesP, hs x (by simp), line_r q x (h x (by simp)), Option.bind_some, lines_rels rs _ (fun y hy => h y (List.mem_cons_of_mem _ hy)) (fun y hy => hs y (List.mem_cons_of_mem _ hy))]
    simp
theorem lines_clears (rs : List (List Nat × Nat × BitVec 64)) (hr : ∀ x ∈ rs, (x.1.length = 20 ∧ ∀ b ∈ x.1, b < 256) ∧ x.2.1 < 4294967296) (hsr : ∀ x ∈ rs, splS 32 (Lib.join (lineR x) [32]) = lineR x) :
    ∀ (cl : List (List Nat × BitVec 64)) (q : PolN), q.rels = [] → (∀ x ∈ cl, x.1.length = 20 ∧ ∀ b ∈ x.1, b < 256) → (∀ x ∈ cl, splS 32 (Lib.join (lineC x) [32]) = lineC x) →
    linesP q false ((cl.map lineC ++ rs.map lineR).map fun l => Lib.join l [32]) = some { q with clears := q.clears ++ cl, rels := rs }
  | [], q, hq, _, _ => by
    rw [List.map_nil, List.nil_append, lines_rels rs q hr hsr, hq, List.nil_append, List.append_nil]
  | x :: cl, q, hq, h, hs => by
    rw [List.map_cons, List.cons_append, List.map_cons, linesP, hs x (by simp), line_c q x (h x (by simp)) hq, Option.bind_some, lines_clears rs hr hsr cl { q with clears := q.clears ++ [x] } hq (fun y hy => h y (List.mem_cons_of_mem _ hy)) (fun y hy => hs y (List.mem_cons_of_mem _ hy))]
    simp
/-- A policy's text is read as the policy. -/
theorem lines_back {p : PolN} (h : p.Ok) : linesP noneP true (linesF p) = some p := by
  have hs := spl_words h
  unfold linesF wordsF
  rw [List.map_cons, linesP, hs _ (by unfold wordsF; simp)]
  have h1 : lineF noneP true (lineD p.dflt) = some ⟨p.dflt, [], []⟩ := by
    unfold lineD lineF
    dsimp only
    rw [if_pos rfl, parseP_text]
    rfl
  rw [h1, Option.bind_some, lines_clears p.rels h.r (fun x hx => hs _ (by unfold wordsF; simp only [List.mem_cons, List.mem_append, List.mem_map]; exact .inr (.inr ⟨x, hx, rfl⟩))) p.clears _ rfl h.c (fun x hx => hs _ (by unfold wordsF; simp only [List.mem_cons, List.mem_append, List.mem_map]; exact .inr (.inl ⟨x, hx, rfl⟩)))]
  rfl
theorem parse_text {p : PolN} (h : p.Ok) (hc : checkF p = 0) (hl : (textF p).length ≤ 65536) : parseF (textF p) = .ok p := by
  unfold parseF
  rw [if_neg (by omega), if_neg (by rw [(text_last p).1]; simp), spl_lines h, lines_back h]
  dsimp only
  rw [if_pos hc]

end Go.Proofs.YthpallkphamobaaGreatDoor
namespace Go.Proofs.YthpallkphamobaaGreatDoor
open Go.RowKit

/-- What an operation came to: the value v, memory having grown. -/
def growsUpon (P : Program) (W : World) (v : Value) : Result Next → Prop
  | .ok (.value u) W' => u = v ∧ Below W.heap.size W W'
  | .ok .skip W' => v = undef ∧ Below W.heap.size W W'
  | .ok (.enter f args) W1 => Calls P f args W1 fun e W' => e = .returned v ∧ Below W.heap.size W W'
  | _ => False
@[go_sem] theorem growsUpon_value (P : Program) (W W' : World) (u v : Value) : growsUpon P W v (.ok (.value u) W') = (u = v ∧ Below W.heap.size W W') := rfl
@[go_sem] theorem growsUpon_skip (P : Program) (W W' : World) (v : Value) : growsUpon P W v (.ok .skip W') = (v = undef ∧ Below W.heap.size W W') := rfl
@[go_sem] theorem growsUpon_enter (P : Program) (W W' : World) (v : Value) (f : FuncId) (args : Array Value) : growsUpon P W v (.ok (.enter f args) W') = Calls P f args W' fun e W'' => e = .returned v ∧ Below W.heap.size W W'' := rfl

/-- The frame behind the first i operations, in the text's order. -/
def layT : List Oper → (Nat → Value) → Nat → Act → Act
  | _, _, 0, a => a
  | [], _, _ + 1, a => a
  | o :: l, vs, i + 1, a => layT l (fun j => vs (j + 1)) i (a.put o.dst (vs 0))

/-- What a frame holds when the operations of D are done. -/
structure Laid (l : List Oper) (vs : Nat → Value) (a : Act) (D : Nat → Prop) (x : Act) : Prop where
  defers : x.defers = a.defers
  size : x.tmps.size = a.tmps.size
  done : ∀ (j : Nat) (o : Oper) (d : Tmp), l[j]? = some o → D j → o.dst = some d → d < a.tmps.size → x.tmps[d]? = some (vs j)
  else_ : ∀ t, (∀ (j : Nat) (o : Oper), l[j]? = some o → D j → o.dst ≠ some t) → x.tmps[t]? = a.tmps[t]?

/-- No two write to one slot. -/
def Apart (l : List Oper) : Prop := ∀ (i j : Nat) (o o' : Oper) (d : Tmp), l[i]? = some o → l[j]? = some o' → o.dst = some d → o'.dst = some d → i = j

theorem Laid.put {l : List Oper} {vs : Nat → Value} {a x : Act} {D : Nat → Prop} (hap : Apart l) (h : Laid l vs a D x) {i : Nat} {o : Oper} (ho : l[i]? = some o) : Laid l vs a (fun j => j = i ∨ D j) (x.put o.dst (vs i)) := by
  cases hd : o.dst with
  | none =>
    refine ⟨h.defers, h.size, fun j o' d hj hD hdd hlt => ?_, fun t ht => h.else_ t fun j o' hj hD => ht j o' hj (.inr hD)⟩
    rcases hD with rfl | hD
    · have : o = o' := Option.some.inj (ho.symm.trans hj)
      subst this
      rw [hd] at hdd; cases hdd
    · exact h.done j o' d hj hD hdd hlt
  | some d0 =>
    refine ⟨h.defers, by simp [Act.put, h.size], fun j o' d hj hD hdd hlt => ?_, fun t ht => ?_⟩
    · by_cases e : j = i
      · subst e
        have : o = o' := Option.some.inj (ho.symm.trans hj)
        subst this
        have : d0 = d := Option.some.inj (hd.symm.trans hdd)
        subst this
        simp [Act.put, Array.getElem?_setIfInBounds, h.size, hlt]
      · have hne : d0 ≠ d := fun e2 => e (hap j i o' o d hj ho hdd (by rw [hd, e2]))
        simp only [Act.put, Array.getElem?_setIfInBounds_ne hne]
        exact h.done j o' d hj (hD.resolve_left e) hdd hlt
    · have hne : d0 ≠ t := fun e2 => ht i o ho (.inl rfl) (by rw [hd, e2])
      simp only [Act.put, Array.getElem?_setIfInBounds_ne hne]
      exact h.else_ t fun j o' hj hD => ht j o' hj (.inr hD)

theorem Laid.refl (l : List Oper) (vs : Nat → Value) (a : Act) (D : Nat → Prop) (h : ∀ j, ¬ D j) : Laid l vs a D a := ⟨rfl, rfl, fun j _ _ _ hD => absurd hD (h j), fun _ _ => rfl⟩
theorem Laid.congr {l : List Oper} {vs : Nat → Value} {a x : Act} {D D' : Nat → Prop} (h : Laid l vs a D x) (hD : ∀ j, j < l.length → (D j ↔ D' j)) : Laid l vs a D' x :=
  ⟨h.defers, h.size, fun j o d hj hd => h.done j o d hj ((hD j (List.getElem?_eq_some_iff.1 hj).1).2 hd), fun t ht => h.else_ t fun j o hj hd => ht j o hj ((hD j (List.getElem?_eq_some_iff.1 hj).1).1 hd)⟩

theorem layT_succ : ∀ (l : List Oper) (vs : Nat → Value) (i : Nat) (a : Act) (o : Oper), l[i]? = some o → layT l vs (i + 1) a = (layT l vs i a).put o.dst (vs i)
  | [], _, _, _, _, h => by simp at h
  | x :: l, vs, 0, a, o, h => by
    obtain rfl : x = o := by simpa using h
    cases l <;> rfl
  | x :: l, vs, i + 1, a, o, h => by
    rw [layT, layT_succ l _ i _ o (by simpa using h)]
    rfl
theorem layT_laid {l : List Oper} (hap : Apart l) (vs : Nat → Value) (a : Act) : ∀ i, i ≤ l.length → Laid l vs a (· < i) (layT l vs i a)
  | 0, _ => by
    have : layT l vs 0 a = a := by cases l <;> rfl
    rw [this]
    exact Laid.refl l vs a _ (by omega)
  | i + 1, h => by
    have ho : l[i]? = some l[i] := by simp
    rw [layT_succ l vs i a _ ho]
    exact ((layT_laid hap vs a i (by omega)).put hap ho).congr fun j _ => by omega

theorem Laid.eq {l : List Oper} {vs : Nat → Value} {a x y : Act} {D : Nat → Prop} (h : Laid l vs a D x) (k : Laid l vs a D y) : x = y := by
  have ht : x.tmps = y.tmps := by
    apply Array.ext_getElem?
    intro t
    by_cases hx : ∃ (j : Nat) (o : Oper), l[j]? = some o ∧ D j ∧ o.dst = some t
    · obtain ⟨j, o, hj, hD, hd⟩ := hx
      by_cases hlt : t < a.tmps.size
      · rw [h.done j o t hj hD hd hlt, k.done j o t hj hD hd hlt]
      · rw [Array.getElem?_eq_none (by rw [h.size]; omega), Array.getElem?_eq_none (by rw [k.size]; omega)]
    · have hn : ∀ (j : Nat) (o : Oper), l[j]? = some o → D j → o.dst ≠ some t := fun j o hj hD hd => hx ⟨j, o, hj, hD, hd⟩
      rw [h.else_ t hn, k.else_ t hn]
  have hd : x.defers = y.defers := h.defers.trans k.defers.symm
  cases x; cases y; simp at ht hd; subst ht hd; rfl

/-- What an operation looks at, of what the region writes, it waits for. -/
def looksB (l : List Oper) (ops : Array Oper) : Bool :=
  l.all fun o => l.zipIdx.all fun p => match p.1.dst with
    | some d => !(o.looksAt ops).contains d || o.after.any fun e => Region.binds .any e && e.on == p.2
    | none => true
def apartB (l : List Oper) : Bool := l.zipIdx.all fun p => l.zipIdx.all fun q => p.2 == q.2 || match p.1.dst with
    | some d => q.1.dst != some d
    | none => true
def backB (ops : Array Oper) : Bool := ops.toList.zipIdx.all fun p => p.1.after.all fun e => !Region.binds .any e || decide (e.on < p.2)
def growB (l : List Oper) (n : Nat) : Bool :=
  Region.noSelect l.toArray && decide (n ≤ l.length) && (decide (n = l.length) || Region.sinkB .any l.toArray n && Region.chainB .any l.toArray n) && looksB (l.take n) l.toArray && apartB (l.take n) && backB l.toArray &&
    Region.seqB .any l.toArray (l.length - n) n ((List.range l.length).map fun i => decide (i < n)).toArray

theorem apartB_spec {l : List Oper} (h : apartB l = true) : Apart l := by
  intro i j o o' d hi hj hd hd'
  have hi2 : (o, i) ∈ l.zipIdx := List.mem_iff_getElem?.2 ⟨i, by simp [hi]⟩
  have hj2 : (o', j) ∈ l.zipIdx := List.mem_iff_getElem?.2 ⟨j, by simp [hj]⟩
  have h1 := List.all_eq_true.1 (List.all_eq_true.1 h _ hi2) _ hj2
  simp only [hd, hd', Bool.or_eq_true, beq_iff_eq] at h1
  rcases h1 with h1 | h1
  · exact h1
  · simp at h1
theorem looksB_spec {l : List Oper} {ops : Array Oper} (h : looksB l ops = true) {i j : Nat} {o o' : Oper} {d : Tmp} (hi : l[i]? = some o) (hj : l[j]? = some o') (hd : o'.dst = some d) (hm : d ∈ o.looksAt ops) :
    ∃ e ∈ o.after, Region.binds .any e = true ∧ e.on = j := by
  have hi2 : o ∈ l := List.mem_iff_getElem?.2 ⟨i, hi⟩
  have hj2 : (o', j) ∈ l.zipIdx := List.mem_iff_getElem?.2 ⟨j, by simp [hj]⟩
  have h1 := List.all_eq_true.1 (List.all_eq_true.1 h _ hi2) _ hj2
  simp only [hd, Bool.or_eq_true, Bool.not_eq_true'] at h1
  rcases h1 with h1 | h1
  · have : (o.looksAt ops).contains d = true := List.contains_iff_mem.2 hm
    rw [this] at h1; cases h1
  · obtain ⟨e, he, hb⟩ := Array.any_eq_true'.1 h1
    simp only [Bool.and_eq_true, beq_iff_eq] at hb
    exact ⟨e, he, hb.1, hb.2⟩

/-- Two frames that hold the same where an operation looks. -/
theorem exec_same {ops : Array Oper} {o : Oper} {x y : Act} (hs : ∀ cs b, o.op ≠ .select cs b) (h : ∀ t ∈ o.looksAt ops, x.tmps[t]? = y.tmps[t]?) :
    execOp x.eval o = execOp y.eval o ∧ Region.wanted o (yielded ops x.tmps) = Region.wanted o (yielded ops y.tmps) := by
  refine ⟨execOp_congr o hs fun z hz => ?_, ?_⟩
  · cases z with
    | tmp t =>
      have := h t (List.mem_append_left _ (List.mem_filterMap.2 ⟨.tmp t, by simpa using hz, rfl⟩))
      simp [Act.eval, this]
    | _ => rfl
  · unfold Region.wanted
    cases hg : o.guard with
    | none => rfl
    | some gw =>
      obtain ⟨g, want⟩ := gw
      have hy : yielded ops x.tmps g = yielded ops y.tmps g := by
        unfold yielded
        cases ht : (ops[g]?).bind (·.dst) with
        | none => rfl
        | some t =>
          have := h t (by simp [Oper.looksAt, hg, ht])
          simp [this]
      simp only [hy]

end Go.Proofs.YthpallkphamobaaGreatDoor
