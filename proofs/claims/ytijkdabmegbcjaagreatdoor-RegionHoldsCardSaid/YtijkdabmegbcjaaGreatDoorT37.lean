/- Texts of this claim, merged; no condition. -/
import Derived.Test.YtijkdabmegbcjaaGreatDoorT36
import Derived.Test.YtijkdabmegbcjaaGreatDoorT34
import Derived.Shelf.SlMaps.Clone
import Derived.Test.YtijkdabmegbcjaaGreatDoorT03
import Derived.Test.YtijkdabmegbcjaaGreatDoorTA
set_option linter.all false
namespace Go.Proofs.YtijkdabmegbcjaaGreatDoor
section
open Go.RowKit
structure SetE (E : List (Int × Value × Nat)) (clk : Nat) (K : List Nat) : Prop where
  key : E.map (·.1) = natI K
  nd : K.Nodup
  val : ∀ e ∈ E, e.2.1 = .bool true
  sn : (E.map (·.2.2)).Nodup
  lt : ∀ e ∈ E, e.2.2 < clk
def SetAt (w : World) (b : Nat) (K : List Nat) : Prop := ∃ E clk, w.heap[b]? = some (mapQ .i64 E clk) ∧ SetE E clk K
theorem SetAt.lt {w : World} {b : Nat} {K : List Nat} (h : SetAt w b K) : b < w.heap.size := by
  obtain ⟨E, clk, h1, -⟩ := h
  exact (Array.getElem?_eq_some_iff.1 h1).1
theorem SetAt.same {w w' : World} {b : Nat} {K : List Nat} (h : SetAt w b K) (hs : w'.heap[b]? = w.heap[b]?) : SetAt w' b K := by
  obtain ⟨E, clk, h1, h2⟩ := h
  exact ⟨E, clk, hs.trans h1, h2⟩
theorem SetAt.below {w w' : World} {b : Nat} {K : List Nat} (h : SetAt w b K) (hb : Below w.heap.size w w') : SetAt w' b K := h.same (hb.block b h.lt)
theorem SetAt.only {O : Nat → Prop} {w w' : World} {b : Nat} {K : List Nat} (h : SetAt w b K) (ho : Only O w w') (hb : ¬ O b) : SetAt w' b K := h.same (ho.same b h.lt hb)
theorem SetAt.new (w : World) : SetAt (w.alloc (mapI .i64 [])) w.heap.size [] := ⟨[], 0, World.alloc_heap_new w _, rfl, List.nodup_nil, by simp, by simp, by simp⟩
theorem SetE.mem {E : List (Int × Value × Nat)} {clk : Nat} {K : List Nat} (h : SetE E clk K) {k : Nat} : k ∈ K ↔ ∃ e ∈ E, e.1 = (k : Int) := by
  constructor
  · intro hk
    have : (k : Int) ∈ natI K := List.mem_map.2 ⟨k, hk, rfl⟩
    rw [← h.key, List.mem_map] at this
    obtain ⟨e, he, h2⟩ := this
    exact ⟨e, he, h2⟩
  · rintro ⟨e, he, h2⟩
    have : e.1 ∈ natI K := by rw [← h.key]; exact List.mem_map.2 ⟨e, he, rfl⟩
    obtain ⟨j, hj, h3⟩ := List.mem_map.1 this
    have : j = k := by rw [h2] at h3; omega
    rw [← this]; exact hj
theorem SetE.nat {E : List (Int × Value × Nat)} {clk : Nat} {K : List Nat} (h : SetE E clk K) {e : Int × Value × Nat} (he : e ∈ E) : ∃ k ∈ K, e.1 = ((k : Nat) : Int) := by
  have : e.1 ∈ natI K := by rw [← h.key]; exact List.mem_map.2 ⟨e, he, rfl⟩
  obtain ⟨j, hj, h3⟩ := List.mem_map.1 this
  exact ⟨j, hj, h3.symm⟩
theorem SetE.find {E : List (Int × Value × Nat)} {clk : Nat} {K : List Nat} (h : SetE E clk K) (k : Nat) : valQ (k : Int) E = if k ∈ K then some (.bool true) else none := by
  unfold valQ
  by_cases hk : k ∈ K
  · rw [if_pos hk]
    obtain ⟨e, he, h2⟩ := h.mem.1 hk
    cases hf : E.find? (fun e => e.1 == (k : Int)) with
    | none => exact absurd (List.find?_eq_none.1 hf e he) (by simp [h2])
    | some x =>
      show some x.2.1 = _
      rw [h.val x (List.mem_of_find?_eq_some hf)]
  · rw [if_neg hk, List.find?_eq_none.2]
    · rfl
    · intro e he
      have : ¬ e.1 = (k : Int) := fun h2 => hk (h.mem.2 ⟨e, he, h2⟩)
      simpa using this
theorem SetE.len {E : List (Int × Value × Nat)} {clk : Nat} {K : List Nat} (h : SetE E clk K) : E.length = K.length := by
  have := congrArg List.length h.key
  simpa [natI] using this
theorem SetE.keyNd {E : List (Int × Value × Nat)} {clk : Nat} {K : List Nat} (h : SetE E clk K) : (E.map (·.1)).Nodup := by
  rw [h.key]
  unfold natI
  exact List.Pairwise.map _ (fun a b hab e => hab (by omega)) h.nd
theorem SetE.add {E : List (Int × Value × Nat)} {clk : Nat} {K : List Nat} (h : SetE E clk K) {k : Nat} (hk : k ∉ K) : SetE (E ++ [((k : Int), .bool true, clk)]) (clk + 1) (K ++ [k]) := by
  refine ⟨by rw [List.map_append, h.key, natI_app]; rfl, List.nodup_append.2 ⟨h.nd, by simp, fun a ha b hb e => hk (by simp at hb; rw [← hb, ← e]; exact ha)⟩, fun e he => ?_, ?_, fun e he => ?_⟩
  · rcases List.mem_append.1 he with he | he
    · exact h.val e he
    · rw [List.mem_singleton] at he; rw [he]
  · rw [List.map_append, List.nodup_append]
    refine ⟨h.sn, by simp, fun a ha b hb e => ?_⟩
    obtain ⟨x, hx, rfl⟩ := List.mem_map.1 ha
    have := h.lt x hx
    simp at hb
    omega
  · rcases List.mem_append.1 he with he | he
    · have := h.lt e he; omega
    · rw [List.mem_singleton] at he; rw [he]; exact Nat.lt_succ_self _
theorem SetE.drop {E : List (Int × Value × Nat)} {clk : Nat} {K : List Nat} (h : SetE E clk K) (p : Nat → Bool) : SetE (E.filter fun e => p e.1.toNat) clk (K.filter p) := by
  have hk : (E.filter fun e => p e.1.toNat).map (·.1) = natI (K.filter p) := by
    have : ∀ (E : List (Int × Value × Nat)) (K : List Nat), E.map (·.1) = natI K → (E.filter fun e => p e.1.toNat).map (·.1) = natI (K.filter p) := by
      intro E
      induction E with
      | nil =>
        intro K hK
        match K, hK with
        | [], _ => rfl
      | cons e E ih =>
        intro K hK
        match K, hK with
        | k :: K, hK =>
          rw [List.map_cons, natI_cons] at hK
          injection hK with h1 h2
          have h3 : e.1.toNat = k := by rw [h1]; exact Int.toNat_natCast k
          by_cases hp : p k = true
          · rw [List.filter_cons_of_pos (by rw [h3]; exact hp), List.filter_cons_of_pos hp, List.map_cons, natI_cons, ih K h2, h1]
          · rw [List.filter_cons_of_neg (by rw [h3]; exact hp), List.filter_cons_of_neg hp, ih K h2]
    exact this E K h.key
  exact ⟨hk, h.nd.filter _, fun e he => h.val e (List.mem_filter.1 he).1, (List.filter_sublist.map _).nodup h.sn, fun e he => h.lt e (List.mem_filter.1 he).1⟩
section
variable {P : Program} {t k : TypeId} {w : World} {b : Nat} {K : List Nat}
theorem SetAt.look (h : SetAt w b K) {e : TypeId} (ht : P.underlying t = some (.map k e)) (hk : P.underlying k = some (.int .i64)) (hz : ∀ w, (zeroValue e).run P w = .ok (.bool false) w) (n : Nat) :
    (Instr.lookup t (.map (some b)) (.int .i64 n) false).run P w = .ok (.bool (decide (n ∈ K))) w := by
  obtain ⟨E, clk, h1, h2⟩ := h
  rw [run_lookQ ht hk hz _ _ h1, h2.find, if_neg (by decide)]
  by_cases hn : n ∈ K
  · rw [if_pos hn, decide_eq_true hn]; rfl
  · rw [if_neg hn, decide_eq_false hn]; rfl
theorem SetAt.len (h : SetAt w b K) {e : TypeId} (ht : P.underlying t = some (.map k e)) (T : TypeId) : (Builtin.len_ #[t] T #[.map (some b)]).run P w = .ok (.int .i64 K.length) w := by
  obtain ⟨E, clk, h1, h2⟩ := h
  rw [run_lenQ ht T h1, h2.len]
theorem SetAt.put (h : SetAt w b K) {e : TypeId} (ht : P.underlying t = some (.map k e)) (hk : P.underlying k = some (.int .i64)) (n : Nat) :
    ∃ w', (Instr.mapUpdate t (.map (some b)) (.int .i64 n) (.bool true)).run P w = .ok () w' ∧ SetAt w' b (addK K n) ∧ Only (· = b) w w' := by
  have hb := h.lt
  obtain ⟨E, clk, h1, h2⟩ := h
  by_cases hn : n ∈ K
  · obtain ⟨r, hr1, hr2⟩ := findNow_Q .i64 (n : Int) E 0
    rcases hr2 with ⟨-, h3⟩ | ⟨d, hd, -, h3, h4⟩
    · obtain ⟨x, hx, h5⟩ := h2.mem.1 hn
      exact absurd h5 (h3 x hx)
    · refine ⟨_, run_putQ_old ht hk _ _ h1 hd h3 h4, ?_, (Only.refl _ _).putObj b _ rfl⟩
      have he : E.set d ((n : Int), .bool true, E[d].2.2) = E := by
        have : ((n : Int), Value.bool true, E[d].2.2) = E[d] := by
          rw [← h3, ← h2.val E[d] (List.getElem_mem hd)]
        rw [this, List.set_getElem_self]
      rw [he]
      unfold addK
      rw [if_pos hn]
      exact ⟨E, clk, World.putObj_heap_same hb, h2⟩
  · refine ⟨_, run_putQ_new ht hk _ _ h1 (fun e he h3 => hn (h2.mem.2 ⟨e, he, h3⟩)), ?_, (Only.refl _ _).putObj b _ rfl⟩
    unfold addK
    rw [if_neg hn]
    exact ⟨_, _, World.putObj_heap_same hb, h2.add hn⟩
end
section
variable {P : Program} {o : Oper} {a : Act} {w : World} {ops : Array Oper} {rest : List Oper} {Q : Exit → Act → World → Prop}
theorem exec_lookS (t k e : TypeId) (x y : Operand) (ho : o.op = .lookup t x y false) (ht : P.underlying t = some (.map k e)) (hk : P.underlying k = some (.int .i64)) (hz : ∀ w, (zeroValue e).run P w = .ok (.bool false) w) (b n : Nat) (K : List Nat)
    (hx : a.eval x = .map (some b)) (hy : a.eval y = .int .i64 n) (h : SetAt w b K) : (execOp a.eval o).run P w = .ok (.value (.bool (decide (n ∈ K)))) w := by
  unfold execOp
  simp only [ho, hx, hy, Sem.run_bind, h.look ht hk hz n, Result.andThen_ok, Sem.run_pure]
theorem exec_lenS (t k e : TypeId) (x : Operand) (ho : o.op = .call { callee := .builtin .len, args := #[x], argTypes := #[t] }) (ht : P.underlying t = some (.map k e)) (b : Nat) (K : List Nat) (hx : a.eval x = .map (some b)) (h : SetAt w b K) :
    (execOp a.eval o).run P w = .ok (.value (.int .i64 K.length)) w := by
  unfold execOp
  simp only [ho, resolve, invoke, builtin, Sem.run_bind, Sem.run_pure, Result.andThen_ok, List.map_toArray, List.map_cons, List.map_nil, hx, h.len ht]
theorem wpList_putS (hgd : o.guard = none) (t k e : TypeId) (x y z : Operand) (ho : o.op = .mapUpdate t x y z) (ht : P.underlying t = some (.map k e)) (hk : P.underlying k = some (.int .i64)) (b n : Nat) (K : List Nat) (hx : a.eval x = .map (some b)) (hy : a.eval y = .int .i64 n) (hz : a.eval z = .bool true) (hS : SetAt w b K)
    (h : ∀ w', SetAt w' b (addK K n) → Only (· = b) w w' → wpList P ops Q rest (a.put o.dst undef) w') : wpList P ops Q (o :: rest) a w := by
  refine wpList_plain hgd fun _ hK => ?_
  obtain ⟨w', h1, h2, h3⟩ := hS.put ht hk n
  unfold Oper.wp execOp
  simp only [ho, hx, hy, hz, Sem.run_bind, h1, Result.andThen_ok, Sem.run_pure]
  exact hK _ _ (h w' h2 h3)
theorem wpList_delQ (hgd : o.guard = none) (t k e : TypeId) (x y : Operand) (ho : o.op = .call { callee := .builtin .delete, args := #[x, y], argTypes := #[t, k] }) (ht : P.underlying t = some (.map k e)) (hk : P.underlying k = some (.int .i64)) (b : Nat) (n : Int) (E : List (Int × Value × Nat)) (clk : Nat) (hx : a.eval x = .map (some b)) (hy : a.eval y = .int .i64 n) (hb : w.heap[b]? = some (mapQ .i64 E clk)) (hn : (E.map (·.1)).Nodup)
    (h : wpList P ops Q rest (a.put o.dst (.tuple #[])) (w.putObj b (mapQ .i64 (E.filter fun e => decide (e.1 ≠ n)) clk))) : wpList P ops Q (o :: rest) a w := by
  refine wpList_plain hgd fun _ hK => ?_
  unfold Oper.wp execOp
  simp only [ho, resolve, invoke, builtin, Sem.run_bind, Sem.run_pure, Result.andThen_ok, List.map_toArray, List.map_cons, List.map_nil, hx, hy, run_delQ ht hk n hb hn]
  exact hK _ _ h
end
def seenQ (W : World) (it : Nat) : Nat := match W.heap[it]? with | some (.mapIter _ _ s _) => s.size | _ => 0
theorem seenQ_eq {W : World} {it b clk : Nat} {S : List Nat} (h : W.heap[it]? = some (itQ b clk S)) : seenQ W it = S.length := by
  unfold seenQ; rw [h]; simp [itQ]
theorem stamps_le {E : List (Int × Value × Nat)} {S : List Nat} (hn : S.Nodup) (hs : ∀ s ∈ S, ∃ e ∈ E, e.2.2 = s) : S.length ≤ E.length := by
  have := hn.length_le_of_subset (l₂ := E.map (·.2.2)) fun s h => by
    obtain ⟨e, he, h2⟩ := hs s h
    exact List.mem_map.2 ⟨e, he, h2⟩
  simpa using this
theorem stamps_lt {E : List (Int × Value × Nat)} {S : List Nat} (hn : S.Nodup) (hs : ∀ s ∈ S, ∃ e ∈ E, e.2.2 = s) {e : Int × Value × Nat} (he : e ∈ E) (h : e.2.2 ∉ S) : S.length < E.length := by
  have := stamps_le (E := E) (S := e.2.2 :: S) (List.nodup_cons.2 ⟨h, hn⟩) (fun s hs2 => by
    rcases List.mem_cons.1 hs2 with rfl | h2
    · exact ⟨e, he, rfl⟩
    · exact hs s h2)
  simp at this
  omega
def leftP (S Ks : List Nat) (e : Int × Value × Nat) : Bool := decide (e.2.2 ∉ S) || decide (e.1.toNat ∈ Ks)
theorem nodup_inj {α β : Type} {f : α → β} : ∀ {l : List α}, (l.map f).Nodup → ∀ {x y}, x ∈ l → y ∈ l → f x = f y → x = y
  | [], _, _, _, h, _, _ => by cases h
  | a :: l, hn, x, y, hx, hy, e => by
    rw [List.map_cons, List.nodup_cons] at hn
    rcases List.mem_cons.1 hx with e1 | hx2
    · rcases List.mem_cons.1 hy with e2 | hy2
      · rw [e1, e2]
      · exact absurd (List.mem_map.2 ⟨y, hy2, by rw [← e, e1]⟩) hn.1
    · rcases List.mem_cons.1 hy with e2 | hy2
      · exact absurd (List.mem_map.2 ⟨x, hx2, by rw [e, e2]⟩) hn.1
      · exact nodup_inj hn.2 hx2 hy2 e
theorem left_stay {E : List (Int × Value × Nat)} {clk : Nat} {K S Ks : List Nat} (h : SetE E clk K) {e : Int × Value × Nat} (he : e ∈ E) (hk : e.1.toNat ∈ Ks) : E.filter (leftP (S ++ [e.2.2]) Ks) = E.filter (leftP S Ks) := List.filter_congr fun x hx => by
  unfold leftP
  by_cases hs : x.2.2 = e.2.2
  · have := nodup_inj h.sn hx he hs
    subst this
    simp [hk]
  · simp [hs]
theorem left_go {E : List (Int × Value × Nat)} {clk : Nat} {K S Ks : List Nat} (h : SetE E clk K) {e : Int × Value × Nat} (he : e ∈ E) (hk : e.1.toNat ∉ Ks) (hS : e.2.2 ∉ S) : (E.filter (leftP S Ks)).filter (fun x => decide (x.1 ≠ e.1)) = E.filter (leftP (S ++ [e.2.2]) Ks) := by
  rw [List.filter_filter]
  refine List.filter_congr fun x hx => ?_
  unfold leftP
  by_cases hs : x.2.2 = e.2.2
  · have := nodup_inj h.sn hx he hs
    subst this
    simp [hk]
  · have hne : ¬ x.1 = e.1 := fun h2 => hs (by rw [nodup_inj h.keyNd hx he h2])
    simp [hs, hne]
theorem left_all {E : List (Int × Value × Nat)} {S Ks : List Nat} (h : ∀ e ∈ E.filter (leftP S Ks), e.2.2 ∈ S) : E.filter (leftP S Ks) = E.filter fun e => decide (e.1.toNat ∈ Ks) := List.filter_congr fun x hx => by
  have hS : x.2.2 ∈ S := by
    by_cases hs : x.2.2 ∈ S
    · exact hs
    · exact h x (List.mem_filter.2 ⟨hx, by unfold leftP; simp [hs]⟩)
  unfold leftP
  simp [hS]
end
section
open Go.RowKit Go.Shelf
set_option maxRecDepth 100000 in
set_option maxHeartbeats 1000000 in
theorem cloneS_any (b clk : Nat) (E : List (Int × Value × Nat)) (w : World) (hb : w.heap[b]? = some (mapQ .i64 E clk)) :
    Calls Tryz.prog 89 #[.map (some b)] w fun e w' => e = .returned (.map (some w.heap.size)) ∧ w.alloc (mapQ .i64 E clk) = w' := by
  have hq := fun w => run_eql_map_nil_sl (P := Tryz.prog) w 132 _ _ (some b) Tryz.underlying132
  unfold mapQ at hb
  go_enter Tryz.func89, Tryz.ntmps89
  go_wp2
  rw [run_callFunc_extern Tryz.func120 (by kernel_rfl) (by kernel_rfl) (by kernel_rfl) (e := Extern.MapsClone.clone) (by kernel_rfl), run_maps_clone_sl w 132 hb]
  simp only [Result.andThen]
  rw [Oper.upon_value]
  go_wp2
  rw [run_typeAssert_map_sl _ 132 20 _ _ _ Tryz.underlying132]
  simp only [Result.andThen]
  rw [Oper.upon_value]
  go_wp2
  go_ret
  exact ⟨rfl, rfl⟩
set_option maxRecDepth 100000 in
set_option maxHeartbeats 1000000 in
theorem cloneB_any (b clk : Nat) (E : List (Int × Value × Nat)) (w : World) (hb : w.heap[b]? = some (mapQ .i64 E clk)) :
    Calls Tryz.prog 137 #[.map (some b)] w fun e w' => e = .returned (.map (some w.heap.size)) ∧ w.alloc (mapQ .i64 E clk) = w' := by
  have hq := fun w => run_eql_map_nil_sl (P := Tryz.prog) w 95 _ _ (some b) Tryz.underlying95
  unfold mapQ at hb
  go_enter Tryz.func137, Tryz.ntmps137
  go_wp2
  rw [run_callFunc_extern Tryz.func120 (by kernel_rfl) (by kernel_rfl) (by kernel_rfl) (e := Extern.MapsClone.clone) (by kernel_rfl), run_maps_clone_sl w 95 hb]
  simp only [Result.andThen]
  rw [Oper.upon_value]
  go_wp2
  rw [run_typeAssert_map_sl _ 95 20 _ _ _ Tryz.underlying95]
  simp only [Result.andThen]
  rw [Oper.upon_value]
  go_wp2
  go_ret
  exact ⟨rfl, rfl⟩
theorem met1_any (bx ms : Nat) (K : List Nat) (k : Nat) (v : Value) (w : World) (hx : w.cell? ⟨bx, 0, none⟩ = some (.map (some ms))) (hS : SetAt w ms K) :
    Calls Tryz.prog 139 #[.int .i64 k, v, .pointer (some ⟨bx, 0, none⟩)] w fun e w' => e = .returned (.bool (!decide (k ∈ K))) ∧ w = w' := by
  have hz : ∀ w, (zeroValue 4).run Tryz.prog w = .ok (.bool false) w := fun _ => by kernel_rfl
  replace hS := qh hS
  go_enter Tryz.func139, Tryz.ntmps139
  go_wp2_with (refine wpList_exec rfl (.bool (decide (k ∈ K))) (exec_lookS 95 3 4 _ _ rfl Tryz.underlying95 Tryz.underlying3 hz ms k K rfl rfl hS.out) ?_)
  go_ret
  exact ⟨rfl, rfl⟩
set_option maxRecDepth 100000 in
set_option maxHeartbeats 2000000 in
theorem delFunc_any (b bx ms : Nat) (K0 Ks : List Nat) (w : World) (hb : SetAt w b K0) (hx : w.cell? ⟨bx, 0, none⟩ = some (.map (some ms))) (hS : SetAt w ms Ks) (hne : b ≠ ms) :
    Calls Tryz.prog 138 #[.map (some b), .func (.func 139) #[] #[.pointer (some ⟨bx, 0, none⟩)]] w fun e w' => e = .returned (.tuple #[]) ∧ SetAt w' b (K0.filter fun k => decide (k ∈ Ks)) ∧ Only (· = b) w w' := by
  have hbl := hb.lt
  have hml := hS.lt
  have hxl := cell_lt hx
  obtain ⟨E0, clk, h1, h2⟩ := hb
  have hbx : bx ≠ b := fun e => by
    subst e
    unfold mapQ at h1
    obtain ⟨obj, ho⟩ : ∃ obj, w.heap[bx]? = some obj := ⟨_, h1⟩
    unfold World.cell? at hx
    simp [h1] at hx
  have hrg := range_Q (P := Tryz.prog) (t := 95) Tryz.underlying95 h1
  have hb9 : Below w.heap.size w (w.alloc (itQ b clk [])) := xalloc (xrefl w) _
  obtain ⟨it, hit⟩ : ∃ it, it = w.heap.size := ⟨_, rfl⟩
  have hi9 : (w.alloc (itQ b clk [])).heap[it]? = some (itQ b clk []) := by rw [hit]; exact World.alloc_heap_new w _
  have hm9 := (hb9.block b hbl).trans h1
  have hS9 := hS.below hb9
  have hx9 := cbel hb9 hx
  have hs9 : (w.alloc (itQ b clk [])).heap.size = w.heap.size + 1 := World.size_alloc _ _
  have hf0 : E0.filter (leftP [] Ks) = E0 := List.filter_eq_self.2 fun e _ => by unfold leftP; simp
  clear hx
  replace h2 := qh h2
  go_enter Tryz.func138, Tryz.ntmps138
  go_wp2
  rw [← hit]
  generalize w.alloc (itQ b clk []) = w9 at *
  have hit1 : w.heap.size ≤ it := by omega
  have hit2 : it < w9.heap.size := by omega
  have hs9' : w.heap.size ≤ w9.heap.size := by omega
  replace hit := qh hit
  replace hi9 := qh hi9
  replace hm9 := qh (by rw [← hf0] at hm9; exact hm9)
  replace hS9 := qh hS9
  replace hx9 := qh hx9
  replace hb9 := qh hb9
  clear hrg hs9 hf0 h1 hS
  go_loopw [4] (fun _ wx => ∃ S : List Nat, Hid (S.Nodup ∧ ∀ s ∈ S, ∃ e ∈ E0, e.2.2 = s) ∧ Hid (wx.heap[it]? = some (itQ b clk S)) ∧ Hid (wx.heap[b]? = some (mapQ .i64 (E0.filter (leftP S Ks)) clk)) ∧ Hid (Only (fun k => k = it ∨ k = b) w9 wx)) (fun _ wx => E0.length - seenQ wx it)
  case atStart => exact ⟨[], qh ⟨List.nodup_nil, by simp⟩, hi9, hm9, qh (Only.refl _ _)⟩
  case round =>
    clear hi9 hm9
    obtain ⟨S, hSn, hi, hm, hon⟩ := hrel
    have hsz := hon.out.size
    rcases next_Q (P := Tryz.prog) 0 hi.out hm.out (fun e he => h2.out.lt e (List.mem_filter.1 he).1) with ⟨hall, hrun⟩ | ⟨e, he, hns, W2, hrun, hon2, hi2⟩
    · have hrun' : ∀ ty, (Instr.next (.pointer (some ⟨it, 0, none⟩)) false ty).run Tryz.prog wr = _ := fun ty => hrun
      have hfin := left_all hall
      replace hfin := qh hfin
      clear hrun hall
      go_wp2
      go_end0
      refine ⟨rfl, ⟨_, clk, hm.out, ?_⟩, ?_⟩
      · rw [hfin.out]; exact h2.out.drop fun k => decide (k ∈ Ks)
      · exact ⟨hon.out.os.trans hb9.out.os, hon.out.tape.trans hb9.out.tape, hon.out.output.trans hb9.out.output, by omega, fun k hk hkb => (hon.out.same k (by omega) (by rintro (h | h); omega; exact hkb h)).trans (hb9.out.block k hk)⟩
    · have hrun' : ∀ ty, (Instr.next (.pointer (some ⟨it, 0, none⟩)) false ty).run Tryz.prog wr = _ := fun ty => hrun
      have heE := (List.mem_filter.1 he).1
      have hm2 := (hon2.same b (by omega) (by omega)).trans hm.out
      have hen := entry_Q (P := Tryz.prog) he ((List.filter_sublist.map _).nodup h2.out.sn) hi2 hm2
      obtain ⟨k, hkK, hek⟩ := h2.out.nat heE
      have hev := h2.out.val e heE
      have hslt := stamps_lt hSn.out.1 hSn.out.2 heE hns
      have hsl : seenQ wr it = S.length := seenQ_eq hi.out
      have hSn2 : Hid ((S ++ [e.2.2]).Nodup ∧ ∀ s ∈ S ++ [e.2.2], ∃ e ∈ E0, e.2.2 = s) := qh ⟨List.nodup_append.2 ⟨hSn.out.1, by simp, fun a ha b hb h => hns (by simp at hb; rw [← hb, ← h]; exact ha)⟩, fun s hs => by
        rcases List.mem_append.1 hs with h | h
        · exact hSn.out.2 s h
        · rw [List.mem_singleton] at h; exact ⟨e, heE, h.symm⟩⟩
      have hon3 : Only (fun k => k = it ∨ k = b) w9 W2 := hon.out.trans (hon2.mono fun _ _ e => .inl e)
      have hS2 := hS9.out.only hon3 (by omega)
      have hx2 := hon3.cell hx9.out (by simp only; omega)
      have hmet := fun v => met1_any bx ms Ks k v W2 hx2 hS2
      have hltw := hon2.size
      rw [hek, hev] at hrun' hen
      have hi2' := qh hi2
      have hon3' := qh hon3
      by_cases hkK2 : k ∈ Ks
      · have hst := left_stay (S := S) h2.out heE (by rw [hek, Int.toNat_natCast]; exact hkK2)
        have hm3 := qh (show W2.heap[b]? = some (mapQ .i64 (E0.filter (leftP (S ++ [e.2.2]) Ks)) clk) by rw [hst]; exact hm2)
        rw [decide_eq_true hkK2] at hmet
        generalize e.2.2 = st at *
        replace hmet := qh hmet
        replace hsl := qh hsl
        clear hst hkK2 hi2 hon3 hm2 hrun hon2 hS2 hx2 hns heE he hev hek
        go_wp2_with (go_at_call 139; refine (hmet.out _).mono ?_; rintro en w' ⟨rfl, rfl⟩)
        refine ⟨⟨S ++ [st], hSn2, hi2', hm3, hon3'⟩, ?_⟩
        rw [hsl.out, seenQ_eq hi2'.out, List.length_append, List.length_singleton]; omega
      · have hgo := left_go (S := S) h2.out heE (by rw [hek, Int.toNat_natCast]; exact hkK2) hns
        rw [hek] at hgo
        have hnd := ((List.filter_sublist (p := leftP S Ks) (l := E0)).map (·.1)).nodup h2.out.keyNd
        rw [decide_eq_false hkK2] at hmet
        have hbl2 : b < W2.heap.size := by omega
        generalize e.2.2 = st at *
        have hgo' := qh hgo
        replace hmet := qh hmet
        replace hsl := qh hsl
        replace hm2 := qh hm2
        clear hgo hkK2 hi2 hon3 hrun hon2 hS2 hx2 hns heE he hev hek
        go_wp2_with (first
          | (go_at_call 139; refine (hmet.out _).mono ?_; rintro en w' ⟨rfl, rfl⟩)
          | (refine wpList_delQ rfl 95 3 4 _ _ rfl Tryz.underlying95 Tryz.underlying3 b (k : Int) (E0.filter (leftP S Ks)) clk rfl rfl hm2.out hnd ?_; rw [hgo'.out]))
        have hi3 : (W2.putObj b (mapQ .i64 (E0.filter (leftP (S ++ [st]) Ks)) clk)).heap[it]? = some (itQ b clk (S ++ [st])) := (World.putObj_heap_other (by omega)).trans hi2'.out
        refine ⟨⟨_, _, _, _, _, _, _, _, _, _, _, _, _, ⟨S ++ [st], hSn2, qh hi3, qh (World.putObj_heap_same hbl2), qh (hon3'.out.trans ((Only.refl _ _).putObj b _ (.inr rfl)))⟩, rfl⟩, ?_⟩
        rw [hsl.out, seenQ_eq hi3, List.length_append, List.length_singleton]; omega
end
section
open Go.RowKit
theorem run_sliceBound {P : Program} (n m : Nat) (k : BoundsCode) (w : World) (h : n ≤ m) : (Instr.sliceBound (.int .i64 n) m k).run P w = .ok n w := by
  have h1 : (n : Int) ≤ (m : Int) := by omega
  have h0 : (0 : Int) ≤ (n : Int) := by omega
  simp [Instr.sliceBound, asIntOf, Sem.run_bind, h]
def sl2 (a : Option Addr) (k c : Nat) : Option Addr := if c = k then a else a.map (·.add k)
theorem run_slice_lo {P : Program} (T e : TypeId) (a : Option Addr) (n c k : Nat) (w : World) (hT : P.underlying T = some (.slice e)) (hs : (P.info? e).map (·.size) = some 1) (hk : k ≤ n) (hc : n ≤ c) :
    (Instr.slice T (.slice a n c) (some (.int .i64 k)) none none).run P w = .ok (.slice (sl2 a k c) (n - k) (c - k)) w := by
  obtain ⟨i, hi, hs1⟩ := Option.map_eq_some_iff.1 hs
  simp only [Instr.slice, Instr.sliceBounds, Sem.run_bind, run_underlying hT, Result.andThen_ok, Option.isSome_none, Bool.false_eq_true, if_false, if_true, run_sliceBound k n _ w hk, Sem.run_pure]
  simp [sizeOf, typeInfo, hi, hs1, Sem.run_bind, sl2]
theorem rowAt_drop {q : IntKind} {w : World} {a : Option Addr} {zs : List Int} (h : RowAt q w a zs) (k c : Nat) (hc : zs.length ≤ c) : RowAt q w (sl2 a k c) (zs.drop k) := fun i hi => by
  rw [List.length_drop] at hi
  obtain ⟨b, o, h1, h2⟩ := h (k + i) (by omega)
  refine ⟨b, o + k, ?_, ?_⟩
  · unfold sl2
    rw [if_neg (by omega), h1]
    simp [Addr.add]
  · rw [List.getElem_drop, Nat.add_assoc]; exact h2
end
section
open Go.RowKit Go.Shelf
def interT (K : List Nat) (r : List (List Nat)) : List Nat := r.foldl (fun acc K => acc.filter fun k => decide (k ∈ K)) K
theorem interT_snoc (K : List Nat) (r : List (List Nat)) (L : List Nat) : interT K (r ++ [L]) = (interT K r).filter fun k => decide (k ∈ L) := by unfold interT; rw [List.foldl_append]; rfl
theorem mem_interT (x : Nat) : ∀ (r : List (List Nat)) (K : List Nat), x ∈ interT K r ↔ x ∈ K ∧ ∀ L ∈ r, x ∈ L
  | [], K => by simp [interT]
  | L :: r, K => by
    show x ∈ interT (K.filter fun k => decide (k ∈ L)) r ↔ _
    rw [mem_interT x r, List.mem_filter, decide_eq_true_eq]
    simp only [List.mem_cons, forall_eq_or_imp, and_assoc]
theorem rowV_drop {w : World} {a : Option Addr} {vs : List Value} (h : RowV w a vs) (k c : Nat) (hc : vs.length ≤ c) : RowV w (sl2 a k c) (vs.drop k) := fun i hi => by
  rw [List.length_drop] at hi
  obtain ⟨b, o, h1, h2⟩ := h (k + i) (by omega)
  refine ⟨b, o + k, ?_, ?_⟩
  · unfold sl2
    rw [if_neg (by omega), h1]
    simp [Addr.add]
  · rw [List.getElem_drop, Nat.add_assoc]; exact h2
set_option maxRecDepth 100000 in
set_option maxHeartbeats 2000000 in
theorem met_any (b0 : Nat) (r : List Nat) (K0 : List Nat) (Ks : List (List Nat)) (a : Option Addr) (c : Nat) (w : World) (hc : r.length + 1 ≤ c) (hl : r.length ≤ 1000) (hlen : Ks.length = r.length) (hrow : RowV w a ((b0 :: r).map fun b => .map (some b)))
    (h0 : SetAt w b0 K0) (hs : ∀ i (h : i < r.length), SetAt w r[i] (Ks[i]'(by omega))) :
    Calls Tryz.prog 121 #[.slice a (r.length + 1) c] w fun e w' => (e = .returned (.map (some w.heap.size)) ∧ SetAt w' w.heap.size (interT K0 Ks)) ∧ Below w.heap.size w w' := by
  obtain ⟨E, clk, hE1, hE2⟩ := h0
  have hcl := qh (cloneB_any b0 clk E w hE1)
  obtain ⟨b, o, rfl, hc0⟩ := hrow 0 (by simp)
  have hc0' : w.cell? ⟨b, o, none⟩ = some (.map (some b0)) := by simpa using hc0
  have hb1 : Below w.heap.size w (w.alloc (mapQ .i64 E clk)) := xalloc (xrefl w) _
  have hS1 : Hid (SetAt (w.alloc (mapQ .i64 E clk)) w.heap.size (interT K0 (Ks.take 0))) := qh ⟨E, clk, World.alloc_heap_new w _, hE2⟩
  have hsl : ∀ W, (Instr.slice 169 (.slice (some ⟨b, o, none⟩) (r.length + 1) c) (some (.int .i64 1)) none none).run Tryz.prog W = .ok (.slice (sl2 (some ⟨b, o, none⟩) 1 c) r.length (c - 1)) W := fun W => run_slice_lo (P := Tryz.prog) 169 95 (some ⟨b, o, none⟩) (r.length + 1) c 1 W Tryz.underlying169 (by kernel_rfl) (by omega) hc
  have hrd : RowV w (sl2 (some ⟨b, o, none⟩) 1 c) (r.map fun b => .map (some b)) := by
    have := rowV_drop hrow 1 c (by simpa using hc)
    simpa using this
  generalize sl2 (some ⟨b, o, none⟩) 1 c = a1 at *
  have hposI : (0 : Int) < (r.length : Int) + 1 := by omega
  replace hb1 := qh hb1
  replace hrd := qh hrd
  replace hs := qh hs
  clear hrow hc0 hE1 hE2
  go_enter Tryz.func121, Tryz.ntmps121
  go_wp2_with (go_at_call 137; refine hcl.out.mono ?_; rintro e w' ⟨rfl, rfl⟩)
  go_loopw [13] (fun iv wx => ∃ i : Nat, iv = .int .i64 i ∧ i ≤ r.length ∧ Hid (SetAt wx w.heap.size (interT K0 (Ks.take i))) ∧ Hid (Below w.heap.size w wx)) (fun iv _ => r.length - (intOf iv).toNat)
  case atStart => exact ⟨0, rfl, by omega, hS1, hb1⟩
  case round =>
    clear hS1 hb1
    obtain ⟨i, rfl, hi, hS, hb⟩ := hrel
    by_cases hlt : i < r.length
    · have hltI : (i : Int) < r.length := by omega
      obtain ⟨b2, o2, rfl, hci⟩ := hrd.out i (by simpa using hlt)
      have hci' : wr.cell? ⟨b2, o2 + i, none⟩ = some (.map (some r[i])) := cbel hb.out (by simpa using hci)
      have hSi := (hs.out i hlt).below hb.out
      have hlti := (hs.out i hlt).lt
      have htk : Hid (interT K0 (Ks.take (i + 1)) = (interT K0 (Ks.take i)).filter fun k => decide (k ∈ Ks[i]'(by omega))) := qh (by rw [List.take_succ_eq_append_getElem (by omega), interT_snoc])
      generalize r[i] = m at *
      generalize Ks[i]'(by omega) = Km at *
      have hbA : Below wr.heap.size wr (wr.alloc (.cells #[.map (some m)] 95)) := xalloc (xrefl wr) _
      have hdl := qh (delFunc_any w.heap.size wr.heap.size m _ Km (wr.alloc (.cells #[.map (some m)] 95)) (hS.out.below hbA) (Box.new wr _ _).cell (hSi.below hbA) (by omega))
      replace hbA := qh hbA
      clear hci hSi
      go_wp2_with (go_at_call 138; refine hdl.out.mono ?_; rintro e w3 ⟨rfl, hS3, ho3⟩; have hb3 := qh (ho3.below (xtrans hb.out hbA.out) (xtrans hb.out hbA.out).size (by rintro k rfl; exact Nat.le_refl _)); replace hS3 := qh hS3; clear ho3)
      exact ⟨⟨i + 1, by go_num, by omega, qh (by rw [htk.out]; exact hS3.out), hb3⟩, by simp [intOf]; omega⟩
    · obtain rfl : i = r.length := by omega
      rw [← hlen, List.take_length] at hS
      clear hlt
      go_wp2
      go_ret
      exact ⟨⟨rfl, hS.out⟩, hb.out⟩
end
end Go.Proofs.YtijkdabmegbcjaaGreatDoor
