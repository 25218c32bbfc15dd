/- Texts of this claim, merged; no condition. -/
import Derived.ArgAppend
import Derived.OwnWalkIn
import Derived.Test.YthpallkphamobaaGreatDoorJ01
import Derived.Orders
set_option linter.all false
namespace Go.Proofs.YthpallkphamobaaGreatDoor
open Go.RowKit

theorem run_append_own_blk {P : Program} (w : World) (base : Nat) (t ty e : TypeId) (i : TypeInfo) (z : Value) (bytes : Nat) (ht : P.underlying t = some (.slice e)) (hi : P.info? e = some i) (hz : i.zero = some z)
    (hsize : i.size = 1) (hby : i.bytes = bytes) (hzs : z.cells.size = 1) (v : Value) (n : Nat) (xs : List Value) (hown : w.ownsRow base e 1 v n xs)
    (a : Addr) (m c : Nat) (news : List Value) (hl : news.length = m) (hnews : ∀ j u, news[j]? = some u → w.cell? (a.add j) = some u) (h1 : ∀ u ∈ news, u.oneCell' = true)
    (h63 : n + m ≤ maxLen) (hbytes : (n + m) * bytes ≤ 140737488355328) (hbase : base ≤ w.heap.size) :
    ∃ v' w', (Builtin.append_ #[t, t] ty #[v, .slice (some a) m c]).run P w = .ok v' w' ∧ w'.ownsRow base e 1 v' (n + m) (xs ++ news) ∧ w.grownBy w' v.ownBlock ∧
      (v'.ownBlock = v.ownBlock ∨ ∀ k, v'.ownBlock = some k → w.heap.size ≤ k) := by
  obtain ⟨v', w', hr, ho, hg, -⟩ := run_append_own (P := P) w base t ty e i z 1 bytes ht hi hz hsize hby hzs (by decide) v n xs hown a m c news (by rw [hl, Nat.mul_one]) hnews h1 h63 hbytes hbase
  refine ⟨v', w', hr, ho, hg, ?_⟩
  rcases hown.2 with ⟨rfl, rfl⟩ | ⟨g, cap, cur, rfl, hbg, hgg, hnc, hcm, hcs, htake⟩
  · obtain ⟨v2, w2, hr2, ho2, -, -⟩ := run_append_own (P := P) w w.heap.size t ty e i z 1 bytes ht hi hz hsize hby hzs (by decide) (.slice none 0 0) 0 [] (World.ownsRow_nil _ _ _ _) a m c news (by rw [hl, Nat.mul_one]) hnews h1 (by simpa using h63) (by simpa using hbytes) (Nat.le_refl _)
    rw [hr] at hr2
    obtain ⟨rfl, rfl⟩ : v' = v2 ∧ w' = w2 := by injection hr2; exact ⟨by assumption, by assumption⟩
    exact .inr fun k hk => (ho2.lt k hk).1
  · by_cases hroom : n + m ≤ cap
    · have hcells : ∀ j, j < cur.size → w.cell? ⟨g, j, none⟩ = cur[j]? := fun j _ => by rw [cell_of_row w g j cur e (0, 0) hgg]
      have hr2 := run_append_room_cells (P := P) w t ty e i ht hi g 0 n cap a m c news (by rw [hsize, hl, Nat.mul_one]) hnews h1 hroom (fun j hj => by
        have hlt : 0 + n * i.size + j < cur.size := by rw [hsize]; omega
        rw [hcells _ hlt, Array.getElem?_eq_getElem hlt]; rfl) (fun j hj => frozen_of_row w g _ cur e hgg)
      rw [hr] at hr2
      obtain ⟨rfl, rfl⟩ : v' = .slice (some ⟨g, 0, none⟩) (n + m) cap ∧ w' = _ := by injection hr2; exact ⟨by assumption, by assumption⟩
      exact .inl rfl
    · obtain ⟨v2, w2, hr2, ho2, -⟩ := run_append_arg_grows (P := P) w t ty e i z 1 bytes ht hi hz hsize hby hzs (by decide) ⟨g, 0, none⟩ n cap xs hown.1 (fun j u hj => hown.cells (g := g) rfl j u hj) a m c news (by rw [hl, Nat.mul_one]) hnews (by omega) h63 hbytes
      rw [hr] at hr2
      obtain ⟨rfl, rfl⟩ : v' = v2 ∧ w' = w2 := by injection hr2; exact ⟨by assumption, by assumption⟩
      exact .inr fun k hk => (ho2.lt k hk).1

theorem wpListIn_append_blk {F : Fence} {N : Nat} {P : Program} (w : World) {ops : Array Oper} {rest : List Oper} {o : Oper} {ac : Act} {Q : Exit → Act → World → Prop} (hgd : o.guard = none) (s x : Operand) (t : TypeId)
    (hop : o.op = .call { callee := .builtin .append, args := #[s, x], argTypes := #[t, t] })
    (base : Nat) (e : TypeId) (i : TypeInfo) (z : Value) (bytes : Nat) (ht : P.underlying t = some (.slice e)) (hi : P.info? e = some i) (hz : i.zero = some z)
    (hsize : i.size = 1) (hby : i.bytes = bytes) (hzs : z.cells.size = 1) (v : Value) (n : Nat) (xs : List Value) (hs : ac.eval s = v) (hown : w.ownsRow base e 1 v n xs)
    (a : Addr) (m c : Nat) (news : List Value) (hx : ac.eval x = .slice (some a) m c) (hl : news.length = m) (hnews : ∀ j u, news[j]? = some u → w.cell? (a.add j) = some u) (h1 : ∀ u ∈ news, u.oneCell' = true)
    (h63 : n + m ≤ maxLen) (hbytes : (n + m) * bytes ≤ 140737488355328) (hbase : base ≤ w.heap.size)
    (hK : ∀ v' w', w'.ownsRow base e 1 v' (n + m) (xs ++ news) → w.grownBy w' v.ownBlock → (v'.ownBlock = v.ownBlock ∨ ∀ k, v'.ownBlock = some k → w.heap.size ≤ k) → wpListIn F N P ops Q rest (ac.put o.dst v') w') : wpListIn F N P ops Q (o :: rest) ac w := by
  refine wpListIn_plain hgd fun K hK' => ?_
  obtain ⟨v', w', hrun, r1, r2, r3⟩ := run_append_own_blk (P := P) w base t o.type e i z bytes ht hi hz hsize hby hzs v n xs hown a m c news hl hnews h1 h63 hbytes hbase
  unfold Oper.wpIn
  refine ⟨?_, ?_⟩
  · simp [Oper.about, hop, resolve, Target.leads, Sem.run_pure]
  · rw [Oper.semAt_plain F _ _ (by rw [hop]; intro c hc'; cases hc')]
    simp [execOp, hop, resolve, invoke, builtin, hs, hx, hrun, Result.andThen]
    exact hK' _ _ (hK v' w' r1 r2 r3)

end Go.Proofs.YthpallkphamobaaGreatDoor
namespace Go.Proofs.YthpallkphamobaaGreatDoor
open Go.RowKit

theorem run_append_own_blkV {P : Program} (w : World) (base : Nat) (t ty e : TypeId) (i : TypeInfo) (z : Value) (size bytes : Nat) (ht : P.underlying t = some (.slice e)) (hi : P.info? e = some i) (hz : i.zero = some z)
    (hsize : i.size = size) (hby : i.bytes = bytes) (hzs : z.cells.size = size) (hsz : 0 < size) (v : Value) (n : Nat) (xs : List Value) (hown : w.ownsRow base e size v n xs)
    (a : Addr) (m c : Nat) (news : List Value) (hl : news.length = m * size) (hnews : ∀ j u, news[j]? = some u → w.cell? (a.add j) = some u) (h1 : ∀ u ∈ news, u.oneCell' = true)
    (h63 : n + m ≤ maxLen) (hbytes : (n + m) * bytes ≤ 140737488355328) (hbase : base ≤ w.heap.size) :
    ∃ v' w', (Builtin.append_ #[t, t] ty #[v, .slice (some a) m c]).run P w = .ok v' w' ∧ w'.ownsRow base e size v' (n + m) (xs ++ news) ∧ w.grownBy w' v.ownBlock ∧
      (v'.ownBlock = v.ownBlock ∨ ∀ k, v'.ownBlock = some k → w.heap.size ≤ k) := by
  obtain ⟨v', w', hr, ho, hg, -⟩ := run_append_own (P := P) w base t ty e i z size bytes ht hi hz hsize hby hzs hsz v n xs hown a m c news hl hnews h1 h63 hbytes hbase
  refine ⟨v', w', hr, ho, hg, ?_⟩
  rcases hown.2 with ⟨rfl, rfl⟩ | ⟨g, cap, cur, rfl, hbg, hgg, hnc, hcm, hcs, htake⟩
  · obtain ⟨v2, w2, hr2, ho2, -, -⟩ := run_append_own (P := P) w w.heap.size t ty e i z size bytes ht hi hz hsize hby hzs hsz (.slice none 0 0) 0 [] (World.ownsRow_nil _ _ _ _) a m c news hl hnews h1 (by simpa using h63) (by simpa using hbytes) (Nat.le_refl _)
    rw [hr] at hr2
    obtain ⟨rfl, rfl⟩ : v' = v2 ∧ w' = w2 := by injection hr2; exact ⟨by assumption, by assumption⟩
    exact .inr fun k hk => (ho2.lt k hk).1
  · by_cases hroom : n + m ≤ cap
    · have hmul : (n + m) * size ≤ cap * size := Nat.mul_le_mul_right _ hroom
      rw [Nat.add_mul] at hmul
      have hcells : ∀ j, j < cur.size → w.cell? ⟨g, j, none⟩ = cur[j]? := fun j _ => by rw [cell_of_row w g j cur e (0, 0) hgg]
      have hr2 := run_append_room_cells (P := P) w t ty e i ht hi g 0 n cap a m c news (by rw [hsize, hl]) hnews h1 hroom (fun j hj => by
        have hlt : 0 + n * i.size + j < cur.size := by rw [hsize, hcs]; omega
        rw [hcells _ hlt, Array.getElem?_eq_getElem hlt]; rfl) (fun j hj => frozen_of_row w g _ cur e hgg)
      rw [hr] at hr2
      obtain ⟨rfl, rfl⟩ : v' = .slice (some ⟨g, 0, none⟩) (n + m) cap ∧ w' = _ := by injection hr2; exact ⟨by assumption, by assumption⟩
      exact .inl rfl
    · obtain ⟨v2, w2, hr2, ho2, -⟩ := run_append_arg_grows (P := P) w t ty e i z size bytes ht hi hz hsize hby hzs hsz ⟨g, 0, none⟩ n cap xs hown.1 (fun j u hj => hown.cells (g := g) rfl j u hj) a m c news hl hnews (by omega) h63 hbytes
      rw [hr] at hr2
      obtain ⟨rfl, rfl⟩ : v' = v2 ∧ w' = w2 := by injection hr2; exact ⟨by assumption, by assumption⟩
      exact .inr fun k hk => (ho2.lt k hk).1

/-- The same, in a walk without a fence. -/
theorem wpList_append_blkV {P : Program} (w : World) {ops : Array Oper} {rest : List Oper} {o : Oper} {ac : Act} {Q : Exit → Act → World → Prop} (hgd : o.guard = none) (s x : Operand) (t : TypeId)
    (ho : o.op = .call { callee := .builtin .append, args := #[s, x], argTypes := #[t, t] })
    (base : Nat) (e : TypeId) (i : TypeInfo) (z : Value) (size bytes : Nat) (ht : P.underlying t = some (.slice e)) (hi : P.info? e = some i) (hz : i.zero = some z)
    (hsize : i.size = size) (hby : i.bytes = bytes) (hzs : z.cells.size = size) (hsz : 0 < size) (v : Value) (n : Nat) (xs : List Value) (hs : ac.eval s = v) (hown : w.ownsRow base e size v n xs)
    (a : Addr) (m c : Nat) (news : List Value) (hx : ac.eval x = .slice (some a) m c) (hl : news.length = m * size) (hnews : ∀ j u, news[j]? = some u → w.cell? (a.add j) = some u) (h1 : ∀ u ∈ news, u.oneCell' = true)
    (h63 : n + m ≤ maxLen) (hbytes : (n + m) * bytes ≤ 140737488355328) (hbase : base ≤ w.heap.size)
    (h : ∀ v' w', w'.ownsRow base e size v' (n + m) (xs ++ news) → w.grownBy w' v.ownBlock → (v'.ownBlock = v.ownBlock ∨ ∀ k, v'.ownBlock = some k → w.heap.size ≤ k) → wpList P ops Q rest (ac.put o.dst v') w') : wpList P ops Q (o :: rest) ac w := by
  obtain ⟨v', w', h1, h2, h3, h4⟩ := run_append_own_blkV (P := P) w base t o.type e i z size bytes ht hi hz hsize hby hzs hsz v n xs hown a m c news hl hnews h1 h63 hbytes hbase
  exact Lib.wpList_append_run w hgd s x t t ho _ _ hs hx v' w' h1 (h v' w' h2 h3 h4)

end Go.Proofs.YthpallkphamobaaGreatDoor
namespace Go.Proofs.YthpallkphamobaaGreatDoor
open Go.RowKit

theorem BlkG.range {w : World} {b : Nat} {T : TypeId} {vs : List Value} (h : BlkG w b T vs) : w.rangeAt b 0 vs := fun j v hj => by
  obtain ⟨hl, e⟩ := List.getElem?_eq_some_iff.1 hj
  rw [Nat.zero_add, h.cell j hl, e]
def adrC (a : List Nat) : List Value := (natI a).map (Value.int .u8)
def adrV (a : List Nat) : Value := .agg (adrC a).toArray
def labV (x : BitVec 64) : Value := .int .u64 (iv64 x)
def clearC (x : List Nat × BitVec 64) : List Value := adrC x.1 ++ [labV x.2]
def relC (x : List Nat × Nat × BitVec 64) : List Value := adrC x.1 ++ [.int .u32 x.2.1, labV x.2.2]
theorem adrC_len (a : List Nat) : (adrC a).length = a.length := by simp [adrC, natI]
/-- A slice of rows of k cells each. -/
structure RowsAt {α : Type} (k : Nat) (C : α → List Value) (W : World) (a : Option Addr) (c : Nat) (l : List α) : Prop where
  elt : ∀ i (hi : i < l.length), ∃ b o, a = some ⟨b, o, none⟩ ∧ W.rangeAt b (o + i * k) (C l[i])
  nil : a = none → c = 0
  cap : l.length ≤ c ∧ c ≤ 9223372036854775807
theorem RowsAt.below {α : Type} {k : Nat} {C : α → List Value} {W W' : World} {a : Option Addr} {c : Nat} {l : List α} (h : RowsAt k C W a c l) (hb : Below W.heap.size W W') : RowsAt k C W' a c l :=
  ⟨fun i hi => by obtain ⟨b, o, e, hr⟩ := h.elt i hi; exact ⟨b, o, e, fun j v hj => cbel hb (hr j v hj)⟩, h.nil, h.cap⟩
theorem RowsAt.none {α : Type} {k : Nat} {C : α → List Value} {W : World} : RowsAt k C W Option.none 0 ([] : List α) := ⟨fun i hi => by simp at hi, fun _ => rfl, by simp⟩
def polV (p : PolN) (a : Option Addr) (c : Nat) (b : Option Addr) (d : Nat) : Value := .agg #[labV p.dflt, .slice a p.clears.length c, .slice b p.rels.length d]
/-- What memory holds of a policy. -/
structure PolAt (W : World) (p : PolN) (a : Option Addr) (c : Nat) (b : Option Addr) (d : Nat) : Prop where
  cl : RowsAt 21 clearC W a c p.clears
  re : RowsAt 22 relC W b d p.rels
  ok : p.Ok
theorem PolAt.below {W W' : World} {p : PolN} {a b : Option Addr} {c d : Nat} (h : PolAt W p a c b d) (hb : Below W.heap.size W W') : PolAt W' p a c b d := ⟨h.cl.below hb, h.re.below hb, h.ok⟩
end Go.Proofs.YthpallkphamobaaGreatDoor
namespace Go.Proofs.YthpallkphamobaaGreatDoor

def Good (w : List UInt8) : Prop := (32 : UInt8) ∉ w ∧ (10 : UInt8) ∉ w
theorem Good.app {a b : List UInt8} (h : Good a) (k : Good b) : Good (a ++ b) := ⟨by simp [h.1, k.1], by simp [h.2, k.2]⟩
theorem digit_good : ∀ k, k < 10 → Good [UInt8.ofNat (48 + k)] := by
  unfold Good; decide
theorem dec_good (n : Nat) : Good (Lib.decDigits n) := by
  induction n using Nat.strongRecOn with
  | _ n ih =>
    rw [Lib.decDigits]
    by_cases h : n < 10
    · rw [dif_pos h]; exact digit_good n h
    · rw [dif_neg h]; exact (ih (n / 10) (by omega)).app (digit_good _ (by omega))
theorem join_good : ∀ ws : List (List UInt8), (∀ w ∈ ws, Good w) → Good (Lib.join ws [44])
  | [], _ => by rw [Lib.join_nil]; exact ⟨by simp, by simp⟩
  | [w], h => by rw [Lib.join_one]; exact h w (by simp)
  | w :: x :: r, h => by
    rw [join_cons2]
    exact ((h w (by simp)).app ⟨by decide, by decide⟩).app (join_good (x :: r) fun y hy => h y (List.mem_cons_of_mem _ hy))
theorem label_good (a : BitVec 64) : Good (textL a) := by
  unfold textL
  by_cases h : memL a = []
  · rw [if_pos h]; exact ⟨by decide, by decide⟩
  · rw [if_neg h]
    exact join_good _ fun w hw => by
      obtain ⟨k, -, rfl⟩ := List.mem_map.1 hw
      exact dec_good k
theorem hexc_good : ∀ d, d < 16 → hexc d ≠ 10 := by decide
theorem hexL_good : ∀ l : List Nat, (∀ b ∈ l, b < 256) → (10 : UInt8) ∉ hexL (natI l)
  | [], _ => by simp [hexL, natI]
  | n :: l, h => by
    have hn := h n (by simp)
    rw [hexL_cons]
    have h1 := hexc_good (n / 16) (by omega)
    have h2 := hexc_good (n % 16) (by omega)
    have h3 := hexL_good l fun b hb => h b (List.mem_cons_of_mem _ hb)
    simp only [List.mem_cons, not_or]
    exact ⟨Ne.symm h1, Ne.symm h2, h3⟩
theorem hexN_good (l : List Nat) (h : ∀ b ∈ l, b < 256) : Good (hexN l) := ⟨hexN_space l h, by
  unfold hexN
  have := hexL_good l h
  simpa using this⟩
theorem words_good {p : PolN} (h : p.Ok) : ∀ l ∈ wordsF p, l ≠ [] ∧ ∀ w ∈ l, Good w := by
  have hd : Good wDefault := ⟨by decide, by decide⟩
  have hc : Good wClear := ⟨by decide, by decide⟩
  have hr : Good wRelease := ⟨by decide, by decide⟩
  intro l hl
  unfold wordsF at hl
  rcases List.mem_cons.1 hl with rfl | hl
  · refine ⟨by simp [lineD], fun w hw => ?_⟩
    simp only [lineD, List.mem_cons, List.not_mem_nil, or_false] at hw
    rcases hw with rfl | rfl
    · exact hd
    · exact label_good _
  · rcases List.mem_append.1 hl with hl | hl
    · obtain ⟨x, hx, rfl⟩ := List.mem_map.1 hl
      refine ⟨by simp [lineC], fun w hw => ?_⟩
      simp only [lineC, List.mem_cons, List.not_mem_nil, or_false] at hw
      rcases hw with rfl | rfl | rfl
      · exact hc
      · exact hexN_good _ (h.c x hx).2
      · exact label_good _
    · obtain ⟨x, hx, rfl⟩ := List.mem_map.1 hl
      refine ⟨by simp [lineR], fun w hw => ?_⟩
      simp only [lineR, List.mem_cons, List.not_mem_nil, or_false] at hw
      rcases hw with rfl | rfl | rfl | rfl
      · exact hr
      · exact hexN_good _ (h.r x hx).1.2
      · exact dec_good _
      · exact label_good _
theorem join32_good : ∀ ws : List (List UInt8), (∀ w ∈ ws, Good w) → (10 : UInt8) ∉ Lib.join ws [32]
  | [], _ => by rw [Lib.join_nil]; simp
  | [w], h => by rw [Lib.join_one]; exact (h w (by simp)).2
  | w :: x :: r, h => by
    rw [join_cons2]
    have h1 := (h w (by simp)).2
    have h2 := join32_good (x :: r) fun y hy => h y (List.mem_cons_of_mem _ hy)
    simp only [List.mem_append, not_or]
    exact ⟨⟨h1, by decide⟩, h2⟩
theorem text_join : ∀ ls : List (List UInt8), ls ≠ [] → ls.flatMap (· ++ [10]) = Lib.join ls [10] ++ [10]
  | [], h => absurd rfl h
  | [w], _ => by rw [Lib.join_one]; simp
  | w :: x :: r, _ => by
    rw [join_cons2, List.flatMap_cons, text_join (x :: r) (by simp)]
    simp
theorem lines_ne (p : PolN) : linesF p ≠ [] := by unfold linesF wordsF; simp
theorem text_last (p : PolN) : (textF p).getLast? = some 10 ∧ (textF p).dropLast = Lib.join (linesF p) [10] := by
  unfold textF
  rw [text_join _ (lines_ne p)]
  exact ⟨by simp, by simp⟩
theorem spl_lines {p : PolN} (h : p.Ok) : splS 10 (textF p).dropLast = linesF p := by
  rw [(text_last p).2]
  refine spl_join 10 _ (lines_ne p) fun l hl => ?_
  obtain ⟨ws, hws, rfl⟩ := List.mem_map.1 hl
  exact join32_good ws (words_good h ws hws).2
theorem spl_words {p : PolN} (h : p.Ok) : ∀ ws ∈ wordsF p, splS 32 (Lib.join ws [32]) = ws := fun ws hws =>
  spl_join 32 ws (words_good h ws hws).1 fun w hw => ((words_good h ws hws).2 w hw).1
theorem line_c (q : PolN) (x : List Nat × BitVec 64) (hx : x.1.length = 20 ∧ ∀ b ∈ x.1, b < 256) (hq : q.rels = []) : lineF q false (lineC x) = some { q with clears := q.clears ++ [x] } := by
  unfold lineC lineF
  dsimp only
  rw [if_pos ⟨rfl, hq⟩, addr_hex hx.2 hx.1, parseP_text]
  rfl
theorem line_r (q : PolN) (x : List Nat × Nat × BitVec 64) (hx : (x.1.length = 20 ∧ ∀ b ∈ x.1, b < 256) ∧ x.2.1 < 4294967296) : lineF q false (lineR x) = some { q with rels := q.rels ++ [x] } := by
  unfold lineR lineF
  dsimp only
  rw [if_pos rfl, addr_hex hx.1.2 hx.1.1, num_dec hx.2, parseP_text]
  rfl
theorem lines_rels : ∀ (rs : List (List Nat × Nat × BitVec 64)) (q : PolN), (∀ x ∈ rs, (x.1.length = 20 ∧ ∀ b ∈ x.1, b < 256) ∧ x.2.1 < 4294967296) → (∀ x ∈ rs, splS 32 (Lib.join (lineR x) [32]) = lineR x) →
    linesP q false ((rs.map lineR).map fun l => Lib.join l [32]) = some { q with rels := q.rels ++ rs }
  | [], q, _, _ => by rw [List.map_nil, List.map_nil, linesP, List.append_nil]
  | x :: rs, q, h, hs => by
    rw [List.map_cons, List.map_cons, linesP, hs x (by simp), line_r q x (h x (by simp)), Option.bind_some, lines_rels rs _ (fun y hy => h y (List.mem_cons_of_mem _ hy)) (fun y hy => hs y (List.mem_cons_of_mem _ hy))]
    simp
theorem lines_clears (rs : List (List Nat × Nat × BitVec 64)) (hr : ∀ x ∈ rs, (x.1.length = 20 ∧ ∀ b ∈ x.1, b < 256) ∧ x.2.1 < 4294967296) (hsr : ∀ x ∈ rs, splS 32 (Lib.join (lineR x) [32]) = lineR x) :
    ∀ (cl : List (List Nat × BitVec 64)) (q : PolN), q.rels = [] → (∀ x ∈ cl, x.1.length = 20 ∧ ∀ b ∈ x.1, b < 256) → (∀ x ∈ cl, splS 32 (Lib.join (lineC x) [32]) = lineC x) →
    linesP q false ((cl.map lineC ++ rs.map lineR).map fun l => Lib.join l [32]) = some { q with clears := q.clears ++ cl, rels := rs }
  | [], q, hq, _, _ => by
    rw [List.map_nil, List.nil_append, lines_rels rs q hr hsr, hq, List.nil_append, List.append_nil]
  | x :: cl, q, hq, h, hs => by
    rw [List.map_cons, List.cons_append, List.map_cons, linesP, hs x (by simp), line_c q x (h x (by simp)) hq, Option.bind_some, lines_clears rs hr hsr cl { q with clears := q.clears ++ [x] } hq (fun y hy => h y (List.mem_cons_of_mem _ hy)) (fun y hy => hs y (List.mem_cons_of_mem _ hy))]
    simp
/-- A policy's text is read as the policy. -/
theorem lines_back {p : PolN} (h : p.Ok) : linesP noneP true (linesF p) = some p := by
  have hs := spl_words h
  unfold linesF wordsF
  rw [List.map_cons, linesP, hs _ (by unfold wordsF; simp)]
  have h1 : lineF noneP true (lineD p.dflt) = some ⟨p.dflt, [], []⟩ := by
    unfold lineD lineF
    dsimp only
    rw [if_pos rfl, parseP_text]
    rfl
  rw [h1, Option.bind_some, lines_clears p.rels h.r (fun x hx => hs _ (by unfold wordsF; simp only [List.mem_cons, List.mem_append, List.mem_map]; exact .inr (.inr ⟨x, hx, rfl⟩))) p.clears _ rfl h.c (fun x hx => hs _ (by unfold wordsF; simp only [List.mem_cons, List.mem_append, List.mem_map]; exact .inr (.inl ⟨x, hx, rfl⟩)))]
  rfl
theorem parse_text {p : PolN} (h : p.Ok) (hc : checkF p = 0) (hl : (textF p).length ≤ 65536) : parseF (textF p) = .ok p := by
  unfold parseF
  rw [if_neg (by omega), if_neg (by rw [(text_last p).1]; simp), spl_lines h, lines_back h]
  dsimp only
  rw [if_pos hc]

/-! What is read has that text. -/
theorem line_sound {q p : PolN} {first : Bool} {l : List (List UInt8)} (h : lineF q first l = some p) :
    (first = true ∧ l = lineD p.dflt ∧ p.clears = q.clears ∧ p.rels = q.rels) ∨
    (first = false ∧ ∃ x, l = lineC x ∧ (x.1.length = 20 ∧ ∀ b ∈ x.1, b < 256) ∧ q.rels = [] ∧ p = { q with clears := q.clears ++ [x] }) ∨
    (first = false ∧ ∃ x, l = lineR x ∧ ((x.1.length = 20 ∧ ∀ b ∈ x.1, b < 256) ∧ x.2.1 < 4294967296) ∧ p = { q with rels := q.rels ++ [x] }) := by
  unfold lineF at h
  split at h
  · rename_i w x
    by_cases hw : w = wDefault
    · rw [if_pos hw] at h
      obtain ⟨d, hd, rfl⟩ := Option.map_eq_some_iff.1 h
      exact .inl ⟨rfl, by rw [hw, ← parse_sound hd]; rfl, rfl, rfl⟩
    · rw [if_neg hw] at h; cases h
  · rename_i w a x
    by_cases hw : w = wClear ∧ q.rels = []
    · rw [if_pos hw] at h
      obtain ⟨b, hb, h2⟩ := Option.bind_eq_some_iff.1 h
      obtain ⟨d, hd, rfl⟩ := Option.map_eq_some_iff.1 h2
      obtain ⟨e1, e2, e3⟩ := addr_some hb
      exact .inr (.inl ⟨rfl, (b, d), by rw [hw.1, ← parse_sound hd, ← e1]; rfl, ⟨e3, e2⟩, hw.2, rfl⟩)
    · rw [if_neg hw] at h; cases h
  · rename_i w a n x
    by_cases hw : w = wRelease
    · rw [if_pos hw] at h
      obtain ⟨b, hb, h2⟩ := Option.bind_eq_some_iff.1 h
      obtain ⟨m, hm, h3⟩ := Option.bind_eq_some_iff.1 h2
      obtain ⟨d, hd, rfl⟩ := Option.map_eq_some_iff.1 h3
      obtain ⟨e1, e2, e3⟩ := addr_some hb
      obtain ⟨n1, n2⟩ := num_some hm
      exact .inr (.inr ⟨rfl, (b, m, d), by rw [hw, ← parse_sound hd, ← e1, ← n1]; rfl, ⟨⟨e3, e2⟩, n2⟩, rfl⟩)
    · rw [if_neg hw] at h; cases h
  · cases h
theorem lines_sound : ∀ (ls : List (List UInt8)) (q p : PolN), q.Ok → linesP q false ls = some p → p.Ok ∧ linesF p = linesF q ++ ls
  | [], q, p, hq, h => by rw [linesP] at h; cases h; exact ⟨hq, by simp⟩
  | s :: ls, q, p, hq, h => by
    rw [linesP] at h
    obtain ⟨q2, h1, h2⟩ := Option.bind_eq_some_iff.1 h
    rcases line_sound h1 with ⟨h0, -⟩ | ⟨-, x, hl, hx, hr, rfl⟩ | ⟨-, x, hl, hx, rfl⟩
    · cases h0
    · obtain ⟨k1, k2⟩ := lines_sound ls { q with clears := q.clears ++ [x] } p ⟨fun y hy => by
        rcases List.mem_append.1 hy with hy | hy
        · exact hq.c y hy
        · rw [List.mem_singleton.1 hy]; exact hx, fun y hy => hq.r y hy⟩ h2
      refine ⟨k1, k2.trans ?_⟩
      unfold linesF wordsF
      dsimp only
      rw [hr]
      have : Lib.join (lineC x) [32] = s := by rw [← hl, join_spl]
      simp [this]
    · obtain ⟨k1, k2⟩ := lines_sound ls { q with rels := q.rels ++ [x] } p ⟨fun y hy => hq.c y hy, fun y hy => by
        rcases List.mem_append.1 hy with hy | hy
        · exact hq.r y hy
        · rw [List.mem_singleton.1 hy]; exact hx⟩ h2
      refine ⟨k1, k2.trans ?_⟩
      unfold linesF wordsF
      dsimp only
      have : Lib.join (lineR x) [32] = s := by rw [← hl, join_spl]
      simp [this]
theorem all_sound {ls : List (List UInt8)} {p : PolN} (hne : ls ≠ []) (h : linesP noneP true ls = some p) : p.Ok ∧ linesF p = ls := by
  cases ls with
  | nil => exact absurd rfl hne
  | cons s r =>
    rw [linesP] at h
    obtain ⟨q2, h1, h2⟩ := Option.bind_eq_some_iff.1 h
    rcases line_sound h1 with ⟨-, hl, hc, hr⟩ | ⟨h0, -⟩ | ⟨h0, -⟩
    · have hq : q2.Ok := ⟨(by rw [hc]; intro x hx; cases hx), (by rw [hr]; intro x hx; cases hx)⟩
      obtain ⟨k1, k2⟩ := lines_sound r q2 p hq h2
      refine ⟨k1, k2.trans ?_⟩
      unfold linesF wordsF
      rw [hc, hr]
      have : Lib.join (lineD q2.dflt) [32] = s := by rw [← hl, join_spl]
      simp [noneP, this]
    · cases h0
    · cases h0
theorem text_parse {s : List UInt8} {p : PolN} (h : parseF s = .ok p) : p.Ok ∧ checkF p = 0 ∧ textF p = s := by
  unfold parseF at h
  split at h
  · cases h
  · split at h
    · cases h
    · rename_i hl
      split at h
      · cases h
      · rename_i q hq
        by_cases hc : checkF q = 0
        · rw [if_pos hc] at h
          cases h
          obtain ⟨h1, h2⟩ := all_sound (spl_ne 10 _) hq
          refine ⟨h1, hc, ?_⟩
          unfold textF
          rw [h2, text_join _ (spl_ne 10 _), join_spl]
          have hl2 : s.getLast? = some 10 := by simpa using hl
          obtain ⟨hne, he⟩ := List.getLast?_eq_some_iff.1 hl2
          rw [he]; simp
        · rw [if_neg hc] at h; cases h
end Go.Proofs.YthpallkphamobaaGreatDoor
namespace Go.Proofs.YthpallkphamobaaGreatDoor
open Go.RowKit

/-- T of each operation, numbered from k on. -/
def OpsAll (T : Nat → Oper → Prop) : List Oper → Nat → Prop
  | [], _ => True
  | o :: r, k => T k o ∧ OpsAll T r (k + 1)
theorem OpsAll.get {T : Nat → Oper → Prop} : ∀ {l : List Oper} {k : Nat}, OpsAll T l k → ∀ (i : Nat) (o : Oper), l[i]? = some o → T (k + i) o
  | [], _, _, _, _, h => by simp at h
  | x :: r, k, h, 0, o, ho => by
    have : x = o := by simpa using ho
    subst this; exact h.1
  | x :: r, k, h, i + 1, o, ho => by
    have := OpsAll.get h.2 i o (by simpa using ho)
    rwa [show k + 1 + i = k + (i + 1) by omega] at this

/-- What an operation waits for. -/
def waitsFor (o : Oper) : List Nat := o.after.toList.filterMap fun e => if Region.binds .any e then some e.on else none
/-- Each operation waits for earlier ones alone, and none is guarded. -/
def plainOps (l : List Oper) : Bool := (l.zipIdx).all fun p => p.1.guard.isNone && p.1.after.all fun e => !Region.binds .any e || decide (e.on < p.2)
theorem plainOps_get {l : List Oper} (h : plainOps l = true) (i : Nat) (o : Oper) (ho : l[i]? = some o) : o.guard = none ∧ ∀ e ∈ o.after, Region.binds .any e = true → e.on < i := by
  have := List.all_eq_true.1 h (o, i) (by rw [List.mem_iff_getElem?]; exact ⟨i, by simp [ho]⟩)
  simp only [Bool.and_eq_true, Option.isNone_iff_eq_none] at this
  refine ⟨this.1, fun e he hb => ?_⟩
  have h1 := (Array.all_eq_true_iff_forall_mem.1 this.2) e he
  simp only [hb, Bool.not_true, Bool.false_or, decide_eq_true_eq] at h1
  exact h1

theorem countP_lt_of {α : Type} {p q : α → Bool} {i : α} : ∀ {l : List α}, i ∈ l → p i = true → q i = false → (∀ j, q j = true → p j = true) → l.countP q < l.countP p
  | [], h, _, _, _ => by simp at h
  | x :: r, h, hp, hq, hm => by
    have hle : r.countP q ≤ r.countP p := List.countP_mono_left fun j _ hj => hm j hj
    rcases List.mem_cons.1 h with rfl | h
    · rw [List.countP_cons, List.countP_cons, hp, hq]; simp; omega
    · have := countP_lt_of h hp hq hm
      rw [List.countP_cons, List.countP_cons]
      have := hm x
      by_cases hx : q x = true
      · rw [if_pos hx, if_pos (hm x hx)]; omega
      · rw [if_neg hx]; omega

/-- The set d and i. -/
def also (d : Nat → Bool) (i : Nat) : Nat → Bool := fun j => j == i || d j

theorem wp_region_inv {P : Program} {id : Nat} {ops : Array Oper} {Q : Exit → Act → World → Prop} {a : Act} {w : World} (hm : P.follows .mixedOrders = true) (hp : plainOps ops.toList = true)
    (I : (Nat → Bool) → Act → World → Prop) (h0 : I (fun _ => false) a w.drew)
    (hs : OpsAll (fun i o => ∀ (d : Nat → Bool) (a : Act) (w : World), d i = false → (waitsFor o).all d = true → I d a w → o.wp P a w (I (also d i)) Q) ops.toList 0)
    (hd : ∀ (d : Nat → Bool) (a : Act) (w : World), (List.range ops.size).all d = true → I d a w → Q .normal a w) : (Code.region id ops true).wp P Q a w := by
  refine wp_region_any hm ?_
  have key : ∀ (fuel : Nat) (listed : Array Bool) (a : Act) (w : World), listed.size = ops.size → I (fun j => listed.getD j false) a w → (List.range ops.size).countP (fun i => !listed.getD i true) ≤ fuel → wpAny P .any ops Q fuel listed a w := by
    intro fuel
    have two : ∀ (listed : Array Bool) (i : Nat), listed.size = ops.size → i < ops.size → listed.getD i true = listed.getD i false := by
      intro listed i hl hi
      have hin : i < listed.size := by omega
      simp [Array.getD, hin]
    induction fuel with
    | zero =>
      intro listed a w hl hI hc
      have hall : ∀ i, i < ops.size → listed.getD i true = true := by
        intro i hi
        have := List.countP_eq_zero.1 (Nat.le_zero.1 hc) i (List.mem_range.2 hi)
        simpa using this
      refine ⟨?_, hd _ a w (List.all_eq_true.2 fun i hi => ?_) hI⟩
      · refine List.filter_eq_nil_iff.2 fun i hi => ?_
        simp [hall i (List.mem_range.1 hi)]
      · rw [← two listed i hl (List.mem_range.1 hi)]
        exact hall i (List.mem_range.1 hi)
    | succ fuel ih =>
      intro listed a w hl hI hc
      refine ⟨fun hr => ?_, fun i hi => ?_⟩
      · have hall : ∀ n i, i < n → i < ops.size → listed.getD i true = true := by
          intro n
          induction n with
          | zero => intro i h; omega
          | succ n ihn =>
            intro i h hi
            have hno := List.filter_eq_nil_iff.1 hr i (List.mem_range.2 hi)
            have ho : ops.toList[i]? = some ops[i] := by simp [hi]
            have hp2 := (plainOps_get hp i _ ho).2
            by_cases hx : listed.getD i true = true
            · exact hx
            · exfalso
              refine hno ?_
              have hx' : listed.getD i true = false := by simpa using hx
              rw [hx']
              simp only [Bool.not_false, Bool.true_and]
              rw [show ops[i]? = some ops[i] by simp [hi]]
              simp only [Option.map_some, Option.getD_some]
              rw [Array.all_eq_true]
              intro j hj
              by_cases hbd : Region.binds .any (ops[i].after[j]) = true
              · have hlt := hp2 _ (Array.getElem_mem hj) hbd
                have h9 := ihn (ops[i].after[j]).on (by omega) (by omega)
                rw [two listed _ hl (by omega)] at h9
                rw [h9]; simp
              · simp [hbd]
        exact hd _ a w (List.all_eq_true.2 fun i hi => by rw [← two listed i hl (List.mem_range.1 hi)]; exact hall (i + 1) i (by omega) (List.mem_range.1 hi)) hI
      · obtain ⟨hun, o, ho, hall⟩ := mem_ready.1 hi
        have hlt : i < ops.size := (Array.getElem?_eq_some_iff.1 ho).1
        have hltl : i < listed.size := by omega
        have ho' : ops.toList[i]? = some o := by simpa using ho
        unfold wpOp
        rw [ho]
        have hg := (plainOps_get hp i o ho').1
        have hw : Region.wanted o (yielded ops a.tmps) = true := by simp [Region.wanted, hg]
        simp only [hw, if_true]
        refine .inl ?_
        have hstep := OpsAll.get hs i o ho'
        rw [Nat.zero_add] at hstep
        refine Oper.wp_mono ?_ (hstep (fun j => listed.getD j false) a w (by rw [← two listed i hl hlt]; exact hun) ?_ hI)
        · intro a' w' hK
          refine ih (listed.setIfInBounds i true) a' w' (by simpa using hl) ?_ ?_
          · have : (fun j => (listed.setIfInBounds i true).getD j false) = also (fun j => listed.getD j false) i := by
              funext j
              unfold also
              by_cases e : j = i
              · subst e; simp [Array.getD, hltl]
              · rw [getD_set_ne false (Ne.symm e)]; simp [e]
            rw [this]; exact hK
          · have hlt2 : (List.range ops.size).countP (fun j => !(listed.setIfInBounds i true).getD j true) < (List.range ops.size).countP (fun j => !listed.getD j true) := by
              refine countP_lt_of (i := i) (List.mem_range.2 hlt) (by simp [hun]) (by simp [Array.getD, hltl]) ?_
              intro j hj
              by_cases e : j = i
              · subst e; simp [Array.getD, hltl] at hj
              · rw [getD_set_ne true (Ne.symm e)] at hj; exact hj
            omega
        · refine List.all_eq_true.2 fun x hx => ?_
          obtain ⟨e, he, hex⟩ := List.mem_filterMap.1 hx
          split at hex
          · rename_i hb
            have : e.on = x := by simpa using hex
            subst this
            exact hall e (by simpa using he) hb
          · simp at hex
  refine key _ _ _ _ (by simp) ?_ ?_
  · have : (fun j => (Array.replicate ops.size false).getD j false) = fun _ => false := by
      funext j
      by_cases h : j < ops.size <;> simp [Array.getD, h]
    rw [this]; exact h0
  · exact Nat.le_trans List.countP_le_length (by simp)

end Go.Proofs.YthpallkphamobaaGreatDoor
