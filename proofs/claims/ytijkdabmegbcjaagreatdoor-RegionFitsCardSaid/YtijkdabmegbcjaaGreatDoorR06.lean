/- Texts of this claim, merged; no condition. -/
import Derived.Test.YtijkdabmegbcjaaGreatDoorR05
import Derived.Test.YtijkdabmegbcjaaGreatDoorR03
import Derived.Deep.QuietTactic
import Derived.BigQuiet
import Derived.Test.YtijkdabmegbcjaaGreatDoorR00
set_option linter.all false
namespace Go.Proofs.YtijkdabmegbcjaaGreatDoor
open Go.RowKit

theorem run_append_own_blkV {P : Program} (w : World) (base : Nat) (t ty e : TypeId) (i : TypeInfo) (z : Value) (size bytes : Nat) (ht : P.underlying t = some (.slice e)) (hi : P.info? e = some i) (hz : i.zero = some z)
    (hsize : i.size = size) (hby : i.bytes = bytes) (hzs : z.cells.size = size) (hsz : 0 < size) (v : Value) (n : Nat) (xs : List Value) (hown : w.ownsRow base e size v n xs)
    (a : Addr) (m c : Nat) (news : List Value) (hl : news.length = m * size) (hnews : ∀ j u, news[j]? = some u → w.cell? (a.add j) = some u) (h1 : ∀ u ∈ news, u.oneCell' = true)
    (h63 : n + m ≤ maxLen) (hbytes : (n + m) * bytes ≤ 140737488355328) (hbase : base ≤ w.heap.size) :
    ∃ v' w', (Builtin.append_ #[t, t] ty #[v, .slice (some a) m c]).run P w = .ok v' w' ∧ w'.ownsRow base e size v' (n + m) (xs ++ news) ∧ w.grownBy w' v.ownBlock ∧
      (v'.ownBlock = v.ownBlock ∨ ∀ k, v'.ownBlock = some k → w.heap.size ≤ k) := by
  obtain ⟨v', w', hr, ho, hg, -⟩ := run_append_own (P := P) w base t ty e i z size bytes ht hi hz hsize hby hzs hsz v n xs hown a m c news hl hnews h1 h63 hbytes hbase
  refine ⟨v', w', hr, ho, hg, ?_⟩
  rcases hown.2 with ⟨rfl, rfl⟩ | ⟨g, cap, cur, rfl, hbg, hgg, hnc, hcm, hcs, htake⟩
  · obtain ⟨v2, w2, hr2, ho2, -, -⟩ := run_append_own (P := P) w w.heap.size t ty e i z size bytes ht hi hz hsize hby hzs hsz (.slice none 0 0) 0 [] (World.ownsRow_nil _ _ _ _) a m c news hl hnews h1 (by simpa using h63) (by simpa using hbytes) (Nat.le_refl _)
    rw [hr] at hr2
    obtain ⟨rfl, rfl⟩ : v' = v2 ∧ w' = w2 := by injection hr2; exact ⟨by assumption, by assumption⟩
    exact .inr fun k hk => (ho2.lt k hk).1
  · by_cases hroom : n + m ≤ cap
    · have hmul : (n + m) * size ≤ cap * size := Nat.mul_le_mul_right _ hroom
      rw [Nat.add_mul] at hmul
      have hcells : ∀ j, j < cur.size → w.cell? ⟨g, j, none⟩ = cur[j]? := fun j _ => by rw [cell_of_row w g j cur e (0, 0) hgg]
      have hr2 := run_append_room_cells (P := P) w t ty e i ht hi g 0 n cap a m c news (by rw [hsize, hl]) hnews h1 hroom (fun j hj => by
        have hlt : 0 + n * i.size + j < cur.size := by rw [hsize, hcs]; omega
        rw [hcells _ hlt, Array.getElem?_eq_getElem hlt]; rfl) (fun j hj => frozen_of_row w g _ cur e hgg)
      rw [hr] at hr2
      obtain ⟨rfl, rfl⟩ : v' = .slice (some ⟨g, 0, none⟩) (n + m) cap ∧ w' = _ := by injection hr2; exact ⟨by assumption, by assumption⟩
      exact .inl rfl
    · obtain ⟨v2, w2, hr2, ho2, -⟩ := run_append_arg_grows (P := P) w t ty e i z size bytes ht hi hz hsize hby hzs hsz ⟨g, 0, none⟩ n cap xs hown.1 (fun j u hj => hown.cells (g := g) rfl j u hj) a m c news hl hnews (by omega) h63 hbytes
      rw [hr] at hr2
      obtain ⟨rfl, rfl⟩ : v' = v2 ∧ w' = w2 := by injection hr2; exact ⟨by assumption, by assumption⟩
      exact .inr fun k hk => (ho2.lt k hk).1

theorem wpListIn_append_blkV {F : Fence} {N : Nat} {P : Program} (w : World) {ops : Array Oper} {rest : List Oper} {o : Oper} {ac : Act} {Q : Exit → Act → World → Prop} (hgd : o.guard = none) (s x : Operand) (t : TypeId)
    (hop : o.op = .call { callee := .builtin .append, args := #[s, x], argTypes := #[t, t] })
    (base : Nat) (e : TypeId) (i : TypeInfo) (z : Value) (size bytes : Nat) (ht : P.underlying t = some (.slice e)) (hi : P.info? e = some i) (hz : i.zero = some z)
    (hsize : i.size = size) (hby : i.bytes = bytes) (hzs : z.cells.size = size) (hsz : 0 < size) (v : Value) (n : Nat) (xs : List Value) (hs : ac.eval s = v) (hown : w.ownsRow base e size v n xs)
    (a : Addr) (m c : Nat) (news : List Value) (hx : ac.eval x = .slice (some a) m c) (hl : news.length = m * size) (hnews : ∀ j u, news[j]? = some u → w.cell? (a.add j) = some u) (h1 : ∀ u ∈ news, u.oneCell' = true)
    (h63 : n + m ≤ maxLen) (hbytes : (n + m) * bytes ≤ 140737488355328) (hbase : base ≤ w.heap.size)
    (hK : ∀ v' w', w'.ownsRow base e size v' (n + m) (xs ++ news) → w.grownBy w' v.ownBlock → (v'.ownBlock = v.ownBlock ∨ ∀ k, v'.ownBlock = some k → w.heap.size ≤ k) → wpListIn F N P ops Q rest (ac.put o.dst v') w') : wpListIn F N P ops Q (o :: rest) ac w := by
  refine wpListIn_plain hgd fun K hK' => ?_
  obtain ⟨v', w', hrun, r1, r2, r3⟩ := run_append_own_blkV (P := P) w base t o.type e i z size bytes ht hi hz hsize hby hzs hsz v n xs hown a m c news hl hnews h1 h63 hbytes hbase
  unfold Oper.wpIn
  refine ⟨?_, ?_⟩
  · simp [Oper.about, hop, resolve, Target.leads, Sem.run_pure]
  · rw [Oper.semAt_plain F _ _ (by rw [hop]; intro c hc'; cases hc')]
    simp [execOp, hop, resolve, invoke, builtin, hs, hx, hrun, Result.andThen]
    exact hK' _ _ (hK v' w' r1 r2 r3)
/-- The same, in a walk without a fence. -/
theorem wpList_append_blkV {P : Program} (w : World) {ops : Array Oper} {rest : List Oper} {o : Oper} {ac : Act} {Q : Exit → Act → World → Prop} (hgd : o.guard = none) (s x : Operand) (t : TypeId)
    (ho : o.op = .call { callee := .builtin .append, args := #[s, x], argTypes := #[t, t] })
    (base : Nat) (e : TypeId) (i : TypeInfo) (z : Value) (size bytes : Nat) (ht : P.underlying t = some (.slice e)) (hi : P.info? e = some i) (hz : i.zero = some z)
    (hsize : i.size = size) (hby : i.bytes = bytes) (hzs : z.cells.size = size) (hsz : 0 < size) (v : Value) (n : Nat) (xs : List Value) (hs : ac.eval s = v) (hown : w.ownsRow base e size v n xs)
    (a : Addr) (m c : Nat) (news : List Value) (hx : ac.eval x = .slice (some a) m c) (hl : news.length = m * size) (hnews : ∀ j u, news[j]? = some u → w.cell? (a.add j) = some u) (h1 : ∀ u ∈ news, u.oneCell' = true)
    (h63 : n + m ≤ maxLen) (hbytes : (n + m) * bytes ≤ 140737488355328) (hbase : base ≤ w.heap.size)
    (h : ∀ v' w', w'.ownsRow base e size v' (n + m) (xs ++ news) → w.grownBy w' v.ownBlock → (v'.ownBlock = v.ownBlock ∨ ∀ k, v'.ownBlock = some k → w.heap.size ≤ k) → wpList P ops Q rest (ac.put o.dst v') w') : wpList P ops Q (o :: rest) ac w := by
  obtain ⟨v', w', h1, h2, h3, h4⟩ := run_append_own_blkV (P := P) w base t o.type e i z size bytes ht hi hz hsize hby hzs hsz v n xs hown a m c news hl hnews h1 h63 hbytes hbase
  exact Lib.wpList_append_run w hgd s x t t ho _ _ hs hx v' w' h1 (h v' w' h2 h3 h4)

/-! Rows of structs: each element k cells. -/
theorem flat_len {α β : Type} (k : Nat) (g : α → List β) (hg : ∀ x, (g x).length = k) : ∀ l : List α, (l.flatMap g).length = l.length * k
  | [] => by simp
  | x :: l => by rw [List.flatMap_cons, List.length_append, hg, flat_len k g hg l, List.length_cons, Nat.add_mul]; omega
theorem flat_get {α β : Type} (k : Nat) (g : α → List β) (hg : ∀ x, (g x).length = k) : ∀ (l : List α) (i j : Nat) (h : i < l.length), j < k → (l.flatMap g)[i * k + j]? = (g l[i])[j]?
  | x :: l, 0, j, _, hj => by
    rw [List.flatMap_cons, Nat.zero_mul, Nat.zero_add, List.getElem?_append_left (by rw [hg]; exact hj)]; rfl
  | x :: l, i + 1, j, h, hj => by
    rw [List.flatMap_cons, List.getElem?_append_right (by rw [hg, Nat.add_mul]; omega), hg, show (i + 1) * k + j - k = i * k + j by rw [Nat.add_mul]; omega]
    exact flat_get k g hg l i j (by simpa using h) hj
end Go.Proofs.YtijkdabmegbcjaaGreatDoor
namespace Go.Proofs.YtijkdabmegbcjaaGreatDoor
open Go.RowKit

theorem info_blk : (Tryz.prog.info? 51).map (fun i => (i.zero, i.size, i.bytes)) = some (some (blkV none 0 blk0), 4, 48) := by kernel_rfl
theorem own_sliceV {w : World} {base : Nat} {e : TypeId} {size : Nat} {v : Value} {n : Nat} {xs : List Value} (h : w.ownsRow base e size v n xs) : ∃ a c, v = .slice a n c := by
  obtain ⟨a, c, e, -⟩ := rowV_own h
  exact ⟨a, c, e⟩
end Go.Proofs.YtijkdabmegbcjaaGreatDoor
namespace Go.Proofs.YtijkdabmegbcjaaGreatDoor
open Go.RowKit

def atZ (cs : List Nat) (n : Int) : Option Nat := if 0 ≤ n then atN cs n.toNat else none
def fixedZ (cs : List Nat) (n : Int) : Option Nat := if 0 ≤ n then fixedN cs n.toNat else none
theorem atZ_in {cs g : List Nat} {x : Nat} (hg : g ∈ grps cs) (hx : x ∈ g) : atZ cs x = some (fstN g) := by
  unfold atZ
  rw [if_pos (by omega), Int.toNat_natCast]
  unfold atN
  obtain ⟨g', h1, h2, h3⟩ := grps_find (grps_mem hg hx)
  rw [h3, grps_one hg h1 hx h2]
  rfl
theorem atZ_out {cs : List Nat} {n : Int} (h : inN (opsL cs) n = false) : atZ cs n = none := by
  unfold atZ
  split
  · rename_i h0
    obtain ⟨k, rfl⟩ := Int.eq_ofNat_of_zero_le h0
    rw [inN_nat, decide_eq_false_iff_not] at h
    rw [Int.toNat_natCast]
    exact atN_out h
  · rfl
theorem fixedZ_nat (cs : List Nat) (k : Nat) : fixedZ cs k = fixedN cs k := by unfold fixedZ; rw [if_pos (by omega), Int.toNat_natCast]
theorem grp_of_op {cs : List Nat} {x : Nat} (hx : x ∈ opsL cs) : ∃ g, g ∈ grps cs ∧ x ∈ g := by
  obtain ⟨g, h1, h2, -⟩ := grps_find hx
  exact ⟨g, h1, h2⟩
def atV (r : Option Nat) : Value := .tuple #[.int .i64 (r.getD 0), .bool r.isSome]
end Go.Proofs.YtijkdabmegbcjaaGreatDoor
namespace Go.Proofs.YtijkdabmegbcjaaGreatDoor
open Go.RowKit

theorem run_storeVar_at {P : Program} (w : World) (b i : Nat) (ty : TypeId) (v : Value) (ht : (w.cell? ⟨b, i, none⟩).isSome = true) (hf : w.frozen? ⟨b, i, none⟩ = false) (hi : (P.info? ty).map (·.size) = some 1) (h1 : v.oneCell' = true) :
    (storeVar ty ⟨b, i, none⟩ v).run P w = .ok () (w.setCell ⟨b, i, none⟩ v) := by
  have := run_storeCells_cells (P := P) b i [v] 0 w (fun j hj => by
    have : j = 0 := by simpa using hj
    subst this; simpa using ht) (fun j hj => by
    have : j = 0 := by simpa using hj
    subst this; simpa using hf) (fun u hu => by rw [List.mem_singleton.1 hu]; exact h1)
  have hc : v.cells = #[v] := by cases v <;> first | rfl | cases h1
  cases hq : P.info? ty with
  | none => simp [hq] at hi
  | some k =>
    have hs : k.size = 1 := by simpa [hq] using hi
    simp only [Nat.add_zero] at this
    simp [storeVar, sizeOf, typeInfo, hq, hc, hs, this, World.setCells]
theorem wp_store_at {P : Program} {o : Oper} {a : Act} {w : World} {K : Act → World → Prop} {Q : Exit → Act → World → Prop} (ty : TypeId) (x y : Operand) (ho : o.op = .store ty x y)
    (b i : Nat) (hx : a.eval x = .pointer (some ⟨b, i, none⟩)) (T : TypeId) (vs : List Value) (v : Value) (hB : BlkG w b T vs) (hl : i < vs.length) (hy : a.eval y = v) (hi : (P.info? ty).map (·.size) = some 1) (h1 : v.oneCell' = true)
    (h : ∀ w', BlkG w' b T (vs.set i v) → Only (· = b) w w' → K (a.put o.dst undef) w') : o.wp P a w K Q := by
  unfold Oper.wp execOp
  simp only [ho, hx, hy, Instr.storeAt, Instr.sureAddr, Sem.run_bind, Sem.run_pure, Result.andThen_ok, run_storeVar_at w b i ty v (by rw [hB.cell i hl]; rfl) (hB.free i) hi h1]
  exact h _ (hB.set i v) ((Only.refl _ w).setCell _ _ rfl)
theorem wpList_store_at {P : Program} {ops : Array Oper} {rest : List Oper} {o : Oper} {a : Act} {w : World} {Q : Exit → Act → World → Prop} (hgd : o.guard = none) (ty : TypeId) (x y : Operand) (ho : o.op = .store ty x y)
    (b i : Nat) (hx : a.eval x = .pointer (some ⟨b, i, none⟩)) (T : TypeId) (vs : List Value) (v : Value) (hB : BlkG w b T vs) (hl : i < vs.length) (hy : a.eval y = v) (hi : (P.info? ty).map (·.size) = some 1) (h1 : v.oneCell' = true)
    (h : ∀ w', BlkG w' b T (vs.set i v) → Only (· = b) w w' → wpList P ops Q rest (a.put o.dst undef) w') : wpList P ops Q (o :: rest) a w :=
  wpList_plain hgd fun _ hK => wp_store_at ty x y ho b i hx T vs v hB hl hy hi h1 fun w' h1 h2 => hK _ _ (h w' h1 h2)
/-- An operation whose guard is met. -/
theorem wpList_wanted {P : Program} {ops : Array Oper} {rest : List Oper} {o : Oper} {a : Act} {w : World} {Q : Exit → Act → World → Prop} (hw : Region.wanted o (yielded ops a.tmps) = true)
    (h : ∀ K : Act → World → Prop, (∀ a w, wpList P ops Q rest a w → K a w) → o.wp P a w K Q) : wpList P ops Q (o :: rest) a w :=
  wpList_step fun K hK => by rw [if_pos hw]; exact h K hK
theorem wpList_load_blkG_g {P : Program} {ops : Array Oper} {rest : List Oper} {o : Oper} {a : Act} {w : World} {Q : Exit → Act → World → Prop} (hw : Region.wanted o (yielded ops a.tmps) = true) (ty : TypeId) (x : Operand) (ho : o.op = .load ty x)
    (b : Nat) (hx : a.eval x = .pointer (some ⟨b, 0, none⟩)) (T : TypeId) (vs : List Value) (d : TypeDesc) (hB : BlkG w b T vs) (hu : P.underlying ty = some d) (hd : (match d with | .struct _ | .array _ _ => true | _ => false) = true) (hi : (P.info? ty).map (·.size) = some vs.length)
    (h : wpList P ops Q rest (a.put o.dst (.agg vs.toArray)) w) : wpList P ops Q (o :: rest) a w :=
  wpList_wanted hw fun _ hK => wp_load_blkG ty x ho b hx T vs d hB hu hd hi (hK _ _ h)
/-- An operation whose value is known. -/
theorem wpList_exec {P : Program} {ops : Array Oper} {rest : List Oper} {o : Oper} {a : Act} {w : World} {Q : Exit → Act → World → Prop} (hgd : o.guard = none) (v : Value) (hr : (execOp a.eval o).run P w = .ok (.value v) w) (h : wpList P ops Q rest (a.put o.dst v) w) : wpList P ops Q (o :: rest) a w :=
  wpList_plain hgd fun _ hK => by unfold Oper.wp; rw [hr]; exact hK _ _ h
end Go.Proofs.YtijkdabmegbcjaaGreatDoor
namespace Go.Proofs.YtijkdabmegbcjaaGreatDoor
open Go.RowKit

theorem IntsAt.only {O : Nat → Prop} {w w' : World} {a : Option Addr} {c : Nat} {l : List Nat} (h : IntsAt w a c l) (ho : Only O w w') (ha : ∀ x, a = some x → ¬ O x.block) : IntsAt w' a c l := ⟨h.row.only ho ha, h.nil⟩
section
variable {w W W' : World} {f l : Nat} {nx nx' : List Nat} {e : Bool} {p p' : Option Addr} {q q' k : Nat}
end
end Go.Proofs.YtijkdabmegbcjaaGreatDoor
namespace Go.Proofs.YtijkdabmegbcjaaGreatDoor
open Go.RowKit

def updC (C : Nat → List Value) (i : Nat) (x : List Value) : Nat → List Value := fun j => if j = i then x else C j
section
variable {w w' : World} {b n : Nat} {T : TypeId} {C : Nat → List Value} {vs : List Value} {k : Nat}
end
end Go.Proofs.YtijkdabmegbcjaaGreatDoor
namespace Go.Proofs.YtijkdabmegbcjaaGreatDoor
open Go.RowKit

section
variable {w0 w w' : World} {b n : Nat} {C : Nat → List Value} {vs : List Value} {F F' : Nat → BlkN}
end
theorem getD_lt {α : Type} {l : List α} {i : Nat} (d : α) (h : i < l.length) : l.getD i d = l[i] := by simp [h]
end Go.Proofs.YtijkdabmegbcjaaGreatDoor
namespace Go.Proofs.YtijkdabmegbcjaaGreatDoor
open Go.RowKit

/-- R hangs on the blocks of S alone. -/
def RdOn (S : Nat → Prop) (R : World → Prop) : Prop := ∀ W W', R W → W.heap.size ≤ W'.heap.size → (∀ k, S k → k < W.heap.size → W'.heap[k]? = W.heap[k]?) → R W'
theorem RdOn.only {S O : Nat → Prop} {R : World → Prop} {W W' : World} (h : RdOn S R) (hR : R W) (ho : Only O W W') (hO : ∀ k, S k → ¬ O k) : R W' := h W W' hR ho.size fun k hk hl => ho.same k hl (hO k hk)
theorem RdOn.below {S : Nat → Prop} {R : World → Prop} {W W' : World} (h : RdOn S R) (hR : R W) (hb : Below W.heap.size W W') : R W' := h W W' hR hb.size fun k _ hl => hb.block k hl
/-- A fact that hangs on blocks that are there. -/
structure Fac (S : Nat → Prop) (R : World → Prop) : Prop where
  on : RdOn S R
  lt : ∀ W, R W → ∀ k, S k → k < W.heap.size
theorem Fac.below {S : Nat → Prop} {R : World → Prop} {W W' : World} (h : Fac S R) (hR : R W) (hb : Below W.heap.size W W') : R W' := h.on.below hR hb

section
variable {α : Type} {brk : Nat} {w : World} {F : World → Prop} {S : Nat → Prop} {rc p8 : Nat} {x : Int} {t M : Nat}
end
end Go.Proofs.YtijkdabmegbcjaaGreatDoor
namespace Go.Proofs.YtijkdabmegbcjaaGreatDoor
open Go.RowKit Go.Shelf

theorem wpIn_scope_wide {P : Program} {c : Code} {Q : Exit → Act → World → Prop} {a : Act} {w : World} (h : c.wpIn Fence.wide 0 P (Exit.noGoto Q) a w) : (Code.scope c).wpIn Fence.wide 0 P Q a w :=
  wpIn_wide.2 (wp_scope_straight (wpIn_wide.1 h))
theorem Fac.only' {S O : Nat → Prop} {R : World → Prop} {W W' : World} (h : Fac S R) (hR : R W) (ho : Only O W W') (hO : ∀ k, S k → ¬ O k) : R W' := h.on.only hR ho hO
theorem take_snoc {α : Type} {l pre : List α} {x : α} {k : Nat} (hk : k ≤ l.length) (h : pre ++ [x] = l.take k) : ∃ hl : pre.length < l.length, l[pre.length] = x ∧ pre = l.take pre.length := by
  have hlen := congrArg List.length h
  rw [List.length_append, List.length_take, List.length_singleton] at hlen
  have hkk : k = pre.length + 1 := by omega
  have hl : pre.length < l.length := by omega
  refine ⟨hl, ?_, ?_⟩
  · rw [hkk, List.take_succ_eq_append_getElem hl] at h
    have := (List.append_inj' h rfl).2
    simpa using this.symm
  · rw [hkk, List.take_succ_eq_append_getElem hl] at h
    exact (List.append_inj' h rfl).1

/-- How a round may be left. -/
def postL (k : Nat) (St : Nat → (Nat → Prop) → World → Prop) (Stop : Nat → Code → (Nat → Prop) → World → Prop) (S : Nat → Prop) (W : World) : Exit → Act → World → Prop
  | .normal, _, W' => Only S W W' ∧ ∃ S', (∀ j, S' j → S j ∨ W.heap.size ≤ j) ∧ St (k + 1) S' W'
  | .ret, _, W' => Only S W W' ∧ ∃ S', (∀ j, S' j → S j ∨ W.heap.size ≤ j) ∧ Stop k .ret S' W'
  | .exit id, _, W' => Only S W W' ∧ ∃ S', (∀ j, S' j → S j ∨ W.heap.size ≤ j) ∧ Stop k (.exit id) S' W'
  | .goto t, _, W' => Only S W W' ∧ ∃ S', (∀ j, S' j → S j ∨ W.heap.size ≤ j) ∧ Stop k (.goto t) S' W'
  | .panic _, _, _ => False
  | .outgrown, _, _ => False

theorem wp_rangeL {P : Program} {α : Type} {g : Operand} {ps : Array Tmp} {assign body : Code} {Q : Exit → Act → World → Prop} {a : Act} {w w0 : World}
    {gf : Nat} {lb : Array Value} (hg : a.eval g = .func (.func gf) #[] lb) (eg : ∀ args w, (callFunc gf args).run P w = .ok (.enter gf args) w)
    {encs : α → Array Value} {Rd : Nat → Prop} (l : List α) (hRd : ∀ k, Rd k → k < w.heap.size) (hw0 : Below w0.heap.size w0 w)
    (hseq : ∀ W, Below w.heap.size w W → SeqP P gf lb encs Rd (fun xs => xs = l) (fun pre => ∃ k, k ≤ l.length ∧ pre = l.take k) l.length false W) (hps : ∀ x, (encs x).size = ps.size)
    (St : Nat → (Nat → Prop) → World → Prop) (Stop : Nat → Code → (Nat → Prop) → World → Prop) (fac : ∀ k S, Fac S (St k S)) (facS : ∀ k c S, Fac S (Stop k c S))
    (S0 : Nat → Prop) (hS0 : ∀ j, S0 j → w0.heap.size ≤ j ∧ ¬ Rd j) (h0 : St 0 S0 w)
    (hround : ∀ (l0 k : Nat) (hk : k < l.length) (W : World),
      assign.wpIn (Fence.wide.inRound l0) 0 P (Exit.then (fun a₁ W₁ => W₁ = W ∧ ∀ S W₂, Below w0.heap.size w0 W₂ → w.heap.size ≤ W₂.heap.size → (∀ j, Rd j → W₂.heap[j]? = w.heap[j]?) → (∀ j, S j → w0.heap.size ≤ j ∧ ¬ Rd j) → St k S W₂ →
        body.wpIn (Fence.wide.inRound l0) 0 P (postL k St Stop S W₂) a₁ W₂) (fun _ _ _ => False))
        { tmps := (ps.zip (encs l[k])).foldl (fun t (p, v) => t.setIfInBounds p v) a.tmps, defers := [] } W)
    (hdone : ∀ (D : Nat) (S : Nat → Prop) (W : World), w.heap.size ≤ D → ¬ S D → Below w0.heap.size w0 W → (∀ j, Rd j → W.heap[j]? = w.heap[j]?) → (∀ j, S j → w0.heap.size ≤ j) → St l.length S W → W.heap[D]? = some (.deferred (some [])) → Q .normal { a with defers := { target := .collected D, args := #[] } :: a.defers } W)
    (hstop : ∀ (D k : Nat) (c : Code) (S : Nat → Prop) (W : World), k < l.length → w.heap.size ≤ D → ¬ S D → Below w0.heap.size w0 W → (∀ j, Rd j → W.heap[j]? = w.heap[j]?) → (∀ j, S j → w0.heap.size ≤ j) → Stop k c S W → W.heap[D]? = some (.deferred (some [])) → c.wpIn Fence.wide 0 P Q { a with defers := { target := .collected D, args := #[] } :: a.defers } W) :
    (Code.rangeFunc g ps assign body).wpIn Fence.wide 0 P Q a w := by
  have stab : ∀ (F : Nat → (Nat → Prop) → World → Prop) (_ : ∀ k S, Fac S (F k S)) (m : List α → Nat), Stable w.heap.size (fun O (pre : List α) W => Below w0.heap.size w0 W ∧ w.heap.size ≤ W.heap.size ∧ (∀ j, Rd j → W.heap[j]? = w.heap[j]?) ∧ ∃ S, (∀ j, S j → ¬ O j ∧ w0.heap.size ≤ j ∧ ¬ Rd j) ∧ F (m pre) S W) := by
    rintro F fF m O O' s W W' ⟨h1, h2, h3, S, h4, h5⟩ hO hon hO'
    refine ⟨hon.below h1 h1.size (fun i hi => by have := hO i hi; have := hw0.size; omega), Nat.le_trans h2 hon.size, fun j hj => ?_, S, fun j hj => ⟨fun h => ?_, (h4 j hj).2⟩, (fF _ S).only' h5 hon fun j hj => (h4 j hj).1⟩
    · have := hRd j hj
      rw [hon.same j (by omega) (fun h => by have := hO j h; omega)]
      exact h3 j hj
    · have hl := (fF _ S).lt _ h5 j hj
      rcases hO' j h with h | h
      · exact (h4 j hj).1 h
      · omega
  refine wp_rangeP hg eg (encs := encs) (Rd := Rd) (S := fun xs => xs = l) (Sp := fun pre => ∃ k, k ≤ l.length ∧ pre = l.take k) (N := l.length) (inf := false) hRd hseq hps
    (fun O pre W => Below w0.heap.size w0 W ∧ w.heap.size ≤ W.heap.size ∧ (∀ j, Rd j → W.heap[j]? = w.heap[j]?) ∧ ∃ S, (∀ j, S j → ¬ O j ∧ w0.heap.size ≤ j ∧ ¬ Rd j) ∧ St pre.length S W)
    (fun c O pre W => Below w0.heap.size w0 W ∧ w.heap.size ≤ W.heap.size ∧ (∀ j, Rd j → W.heap[j]? = w.heap[j]?) ∧ ∃ S, (∀ j, S j → ¬ O j ∧ w0.heap.size ≤ j ∧ ¬ Rd j) ∧ (Stop (pre.length - 1) c S W ∧ pre.length - 1 < l.length))
    (stab St fac List.length) (fun c => stab (fun k S W => Stop k c S W ∧ k < l.length) (fun k S => ⟨fun W W' h hz hs => ⟨(facS k c S).on W W' h.1 hz hs, h.2⟩, fun W h => (facS k c S).lt W h.1⟩) (fun pre => pre.length - 1)) ⟨hw0, Nat.le_refl _, fun _ _ => rfl, S0, fun j hj => ⟨fun h => h, hS0 j hj⟩, h0⟩ (fun h => by cases h) ?_ ?_ ?_
  · rintro l0 O pre x W hOl hO hI hlen ⟨k, hk, hsp⟩
    obtain ⟨hl, hx, -⟩ := take_snoc hk hsp
    subst hx
    refine wpIn_mono (hround l0 pre.length hl W) ?_
    rintro e a1 W1 hp
    cases e with
    | normal =>
      obtain ⟨rfl, hb⟩ := hp
      refine ⟨Keep.refl _ _, fun W2 hon => ?_⟩
      obtain ⟨h1, h2, h3, S, h4, h5⟩ := stab St fac List.length O O pre W1 W2 hI (fun k h => (hO k h).1) (hon.mono fun j _ e => by rw [e]; exact hOl) (fun k h => .inl h)
      have hO2 : ∀ k, O k → k < W2.heap.size := fun k h => Nat.lt_of_lt_of_le (hO k h).2 hon.size
      refine wpIn_mono (hb S W2 h1 h2 h3 (fun j hj => (h4 j hj).2) h5) ?_
      have key : ∀ (F : Nat → (Nat → Prop) → World → Prop) (W3 : World), Only S W2 W3 → (∃ S', (∀ j, S' j → S j ∨ W2.heap.size ≤ j) ∧ F 0 S' W3) →
          Keep (fun k => O k ∨ Rd k) W2 W3 ∧ Below w0.heap.size w0 W3 ∧ w.heap.size ≤ W3.heap.size ∧ (∀ j, Rd j → W3.heap[j]? = w.heap[j]?) ∧ ∃ S, (∀ j, S j → ¬ O j ∧ w0.heap.size ≤ j ∧ ¬ Rd j) ∧ F 0 S W3 := by
        rintro F W3 ho ⟨S', e1, e2⟩
        refine ⟨⟨ho.size, fun j hj h => ho.same j hj fun hs => ?_⟩, ho.below h1 h1.size (fun j hj => (h4 j hj).2.1), Nat.le_trans h2 ho.size, fun j hj => ?_, S', fun j hj => ?_, e2⟩
        · rcases h with h | h
          · exact (h4 j hs).1 h
          · exact (h4 j hs).2.2 h
        · have := hRd j hj
          rw [ho.same j (by omega) fun hs => (h4 j hs).2.2 hj]
          exact h3 j hj
        · rcases e1 j hj with h | h
          · exact h4 j h
          · have := hw0.size
            exact ⟨fun ho => by have := hO2 j ho; omega, by omega, fun hr => by have := hRd j hr; omega⟩
      rintro e a3 W3 hp
      cases e with
      | normal =>
        obtain ⟨ho, hs⟩ := hp
        obtain ⟨r1, r2, r3, r4, r5⟩ := key (fun _ S W => St (pre.length + 1) S W) W3 ho hs
        exact ⟨r1, r2, r3, r4, by rw [List.length_append]; exact r5⟩
      | ret =>
        obtain ⟨ho, S', hS', hs⟩ := hp
        obtain ⟨r1, r2, r3, r4, r5⟩ := key (fun _ S W => Stop pre.length .ret S W ∧ pre.length < l.length) W3 ho ⟨S', hS', hs, hl⟩
        exact ⟨r1, r2, r3, r4, by rw [List.length_append]; exact r5⟩
      | exit id =>
        obtain ⟨ho, S', hS', hs⟩ := hp
        obtain ⟨r1, r2, r3, r4, r5⟩ := key (fun _ S W => Stop pre.length (.exit id) S W ∧ pre.length < l.length) W3 ho ⟨S', hS', hs, hl⟩
        exact ⟨r1, r2, r3, r4, by rw [List.length_append]; exact r5⟩
      | goto t =>
        obtain ⟨ho, S', hS', hs⟩ := hp
        obtain ⟨r1, r2, r3, r4, r5⟩ := key (fun _ S W => Stop pre.length (.goto t) S W ∧ pre.length < l.length) W3 ho ⟨S', hS', hs, hl⟩
        exact ⟨r1, r2, r3, r4, by rw [List.length_append]; exact r5⟩
      | panic ch => exact hp.elim
      | outgrown => exact hp.elim
    | _ => exact hp.elim
  · rintro D xs O W hD hOD hO hS ⟨h1, h2, h3, S, h4, h5⟩ hK
    rw [show xs = l from hS] at h5
    exact hdone D S W hD (fun h => (h4 D h).1 hOD) h1 h3 (fun j hj => (h4 j hj).2.1) h5 hK
  · rintro D c pre O W hD hOD hO hSp ⟨h1, h2, h3, S, h4, h5, h6⟩ hK
    exact hstop D _ c S W h6 hD (fun h => (h4 D h).1 hOD) h1 h3 (fun j hj => (h4 j hj).2.1) h5 hK
end Go.Proofs.YtijkdabmegbcjaaGreatDoor
namespace Go.Proofs.YtijkdabmegbcjaaGreatDoor
open Go.RowKit Go.Shelf
attribute [local go_sem] Oper.semAt_some

theorem size_any (c : Nat) (w : World) (hc : c < 256) : Calls Tryz.prog 131 #[.int .u8 c] w fun e w' => e = .returned (.int .i64 (szN c)) ∧ w = w' := by
  by_cases h1 : 96 ≤ c
  · by_cases h2 : c ≤ 127
    · have e : szN c = c - 95 := by unfold szN; rw [if_pos ⟨h1, h2⟩]
      have e2 : ((c - 95 : Nat) : Int) = (c : Int) - 95 := by omega
      rw [e, e2]
      have h3 : (95 : Int) < c := by omega
      have h4 : (c : Int) ≤ 127 := by omega
      clear e e2
      go_enter Tryz.func131, Tryz.ntmps131
      go_wp2
      go_ret
      exact ⟨rfl, rfl⟩
    · have e : szN c = 0 := by unfold szN; rw [if_neg (by omega)]
      rw [e]
      have h3 : (95 : Int) < c := by omega
      have h4 : (127 : Int) < c := by omega
      clear e
      go_enter Tryz.func131, Tryz.ntmps131
      go_wp2
      go_ret
      exact ⟨rfl, rfl⟩
  · have e : szN c = 0 := by unfold szN; rw [if_neg (by omega)]
    rw [e]
    have h3 : (c : Int) ≤ 95 := by omega
    clear e
    go_enter Tryz.func131, Tryz.ntmps131
    go_wp2
    go_ret
    exact ⟨rfl, rfl⟩
theorem ops_any (a : Option Addr) (n c : Nat) (w : World) : Calls Tryz.prog 106 #[.slice a n c] w fun e w' => e = .returned (.func (.func 130) #[] #[.pointer (some ⟨w.heap.size, 0, none⟩)]) ∧ w.alloc (.cells #[.slice a n c] 22) = w' := by
  go_enter Tryz.func106, Tryz.ntmps106
  go_wp2
  go_ret
  exact ⟨rfl, rfl⟩
def encOp (cs : List Nat) (x : Nat) : Array Value := #[.int .i64 x, .int .u8 (byN cs x)]
/-- The blocks in which code lies that a box holds. -/
def codeRd (bx : Nat) (a : Option Addr) (cs : List Nat) (k : Nat) : Prop := k = bx ∨ (cs ≠ [] ∧ ∃ y, a = some y ∧ y.block = k)
theorem code_keep {O : Nat → Prop} {W W' : World} {a : Option Addr} {c : Nat} {cs : List Nat} (h : CodeAt W a c cs) (hk : Keep O W W') (hO : ∀ k, (cs ≠ [] ∧ ∃ y, a = some y ∧ y.block = k) → O k) : CodeAt W' a c cs :=
  ⟨fun i hi => by
    obtain ⟨b, o, e, hc⟩ := h.row i hi
    exact ⟨b, o, e, (World.cell?_of_block (hk.same b (cell_lt hc) (hO b ⟨fun e => by rw [e] at hi; simp [natI] at hi, _, e, rfl⟩))).trans hc⟩, h.nil, h.len, h.ok, h.cap⟩
theorem drop_cons {α : Type} {l : List α} {k : Nat} {x : α} {r : List α} (h : l.drop k = x :: r) : ∃ hk : k < l.length, l[k] = x ∧ l.drop (k + 1) = r ∧ l.take (k + 1) = l.take k ++ [x] := by
  have hk : k < l.length := by
    rcases Nat.lt_or_ge k l.length with h1 | h1
    · exact h1
    · rw [List.drop_eq_nil_of_le h1] at h; cases h
  rw [List.drop_eq_getElem_cons hk] at h
  injection h with h1 h2
  exact ⟨hk, h1, h2, by rw [List.take_succ_eq_append_getElem hk, h1]⟩
set_option maxRecDepth 100000 in
set_option maxHeartbeats 1000000 in
theorem ops_seq (cs : List Nat) (bx : Nat) (a : Option Addr) (c : Nat) (W : World) (hx : Box W bx (.slice a cs.length c) 22) (hm : CodeAt W a c cs) :
    SeqP Tryz.prog 130 #[.pointer (some ⟨bx, 0, none⟩)] (encOp cs) (codeRd bx a cs) (fun xs => xs = opsL cs) (fun pre => ∃ k, k ≤ (opsL cs).length ∧ pre = (opsL cs).take k) (opsL cs).length false W := by
  intro l0 J Jx hJ hJx hY h0 _
  replace hJ := Lib.hid hJ
  replace hJx := Lib.hid hJx
  replace hY := Lib.hid hY
  have hlen := hm.len
  replace hm := Lib.hid hm
  replace hx := Lib.hid hx
  replace h0 := Lib.hid h0
  refine callsIn_of_wp Tryz.func130 rfl trivial ?_ rfl
  simp only [Tryz.ntmps130, List.size_toArray, List.length_cons, List.length_nil, Nat.reduceAdd, Nat.reduceSub, Array.replicate_succ, Array.replicate_zero, List.push_toArray, List.append_toArray, List.nil_append, List.cons_append]
  gi_wp2
  refine wpIn_scope_wide ?_
  gi_wp2
  refine wpIn_label ?_
  gi_wp2
  gi_loopw [3] (fun iv wr => ∃ (k x : Nat), iv = .int .i64 x ∧ x ≤ 500 ∧ Hid (opsA cs x = (opsL cs).drop k) ∧ Hid (k ≤ (opsL cs).length) ∧ Hid (Box wr bx (.slice a cs.length c) 22) ∧ Hid (CodeAt wr a c cs) ∧ Hid (J (fun _ => False) ((opsL cs).take k) wr)) (fun iv _ => 600 - (intOf iv).toNat)
  case atStart => exact ⟨0, 0, rfl, by omega, Lib.hid rfl, Lib.hid (Nat.zero_le _), hx, hm, h0⟩
  case round =>
    clear hx hm h0
    obtain ⟨k, x, rfl, hx5, ho, hk, hx, hm, hJs⟩ := hrel
    have hxc := hx.out.cell
    by_cases hlt : x < cs.length
    · have hltI : (x : Int) < cs.length := by omega
      obtain ⟨b, o, rfl, hc, h256⟩ := hm.out.get hlt
      have ho2 := ho.out
      rw [opsA_lt hlt] at ho2
      obtain ⟨hkl, hke, hdr, htk⟩ := drop_cons ho2.symm
      have hs32 := szN_le (byN cs x)
      have h00 : cs ≠ [] := fun e => by rw [e] at hlt; simp at hlt
      have hnx : nxN cs x = x + 1 + szN (byN cs x) := rfl
      obtain ⟨fnc, tmps, assign, body, hy, hR⟩ := hY.out (fun _ => False) ((opsL cs).take k) x wr (fun k h => h.elim) hJs.out (by rw [List.length_take]; omega) ⟨k + 1, by omega, htk.symm⟩
      rw [← htk] at hR
      replace hR := Lib.hid hR
      replace hdr := Lib.hid hdr
      clear ho2 hke htk
      replace hkl := Lib.hid hkl
      generalize hS : szN (byN cs x) = s at *
      have hsz := Lib.hid fun W => size_any (byN cs x) W h256
      rw [hS] at hsz
      have hxn : nxN cs x ≤ 500 := by omega
      clear hS
      replace hnx := Lib.hid hnx
      unfold encOp at hy
      generalize byN cs x = y at *
      gi_wp2
      refine ⟨rfl, hR.out.mono ?_⟩
      rintro e W3 (⟨rfl, hJ3, hk3⟩ | ⟨rfl, hJx3, hk3⟩)
      · have hx3 := Lib.hid (show Box W3 bx _ _ from (hk3.same bx hx.out.lt (.inr (.inl rfl))).trans hx.out)
        have hm3 := Lib.hid (code_keep hm.out hk3 (fun k h => .inr (.inr h)))
        have hxc3 := hx3.out.cell
        have hc3 : W3.cell? ⟨b, o + x, none⟩ = some (.int .u8 y) := (World.cell?_of_block (hk3.same b (cell_lt hc) (.inr (.inr ⟨h00, _, rfl, rfl⟩)))).trans hc
        replace hJ3 := Lib.hid hJ3
        clear hk3 hJs hx hm hxc hc hR
        gi_wp2
        refine ⟨trivial, rfl, (callsIn_wide.2 (hsz.out _)).mono ?_⟩
        rintro e w' ⟨rfl, rfl⟩
        gi_wp2
        have hv : Value.int .i64 ((x : Int) + (1 + (s : Int))) = .int .i64 ((nxN cs x : Nat) : Int) := by rw [hnx.out]; congr 1; omega
        refine ⟨⟨k + 1, nxN cs x, hv, hxn, Lib.hid hdr.out.symm, Lib.hid hkl.out, hx3, hm3, hJ3⟩, ?_⟩
        simp [intOf]; omega
      · gi_wp2
        rw [Exit.noGoto_normal]
        go_end0
        exact ⟨⟨_, rfl⟩, .inr ⟨_, _, ⟨k + 1, hkl.out, rfl⟩, fun k h => h.elim, hJx3⟩⟩
    · have ho2 := ho.out
      rw [opsA_ge (by omega)] at ho2
      have hkl : k = (opsL cs).length := by
        have := congrArg List.length ho2
        rw [List.length_nil, List.length_drop] at this
        have := hk.out
        omega
      replace ho2 := Lib.hid ho2
      rw [hkl, List.take_length] at hJs
      replace hkl := Lib.hid hkl
      gi_wp2
      rw [Exit.noGoto_normal]
      go_end0
      exact ⟨⟨_, rfl⟩, .inl ⟨_, _, rfl, fun k h => h.elim, hJs.out⟩⟩
end Go.Proofs.YtijkdabmegbcjaaGreatDoor
