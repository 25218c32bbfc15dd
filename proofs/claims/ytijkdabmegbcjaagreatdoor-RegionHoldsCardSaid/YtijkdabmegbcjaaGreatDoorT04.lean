/- Texts of this claim, merged; no condition. -/
import Derived.ChangeKeysEq
import Derived.Laws.StructEq
import Derived.Test.YtijkdabmegbcjaaGreatDoorT03
import Derived.ArgAppend
import Derived.OwnWalkIn
import Derived.Orders
import Derived.StillTail
import Derived.Test.YtijkdabmegbcjaaGreatDoorTA
set_option linter.all false
namespace Go.Proofs.YtijkdabmegbcjaaGreatDoor
section
open Go.RowKit
theorem run_part_int {P : Program} (e : TypeId) (q q' : IntKind) (l : List Int) (k : Nat) (w : World) (he : P.underlying e = some (.int q')) (hk : k < l.length) : (part e (l.map (Value.int q)).toArray k).run P w = .ok (.int q l[k]) w := by
  have hagg : (isAgg e).run P w = .ok false w := by
    unfold isAgg
    rw [Sem.run_bind, run_underlying he w]
    rfl
  simp [part, hagg, Sem.run_bind, hk]
theorem run_eqItems_ints {P : Program} (d : Nat) (e : TypeId) (q q' : IntKind) (l l' : List Int) (w : World) (he : P.underlying e = some (.int q')) (hl : l.length = l'.length) :
    ∀ (m k : Nat), k + m = l.length → (Op.eqItems (d + 1) e 1 (l.map (Value.int q)).toArray (l'.map (Value.int q)).toArray (List.range' k m)).run P w = .ok (decide (l.drop k = l'.drop k)) w
  | 0, k, h => by
    rw [List.drop_eq_nil_of_le (by omega), List.drop_eq_nil_of_le (by omega)]
    simp [Op.eqItems]
  | m + 1, k, h => by
    have hk : k < l.length := by omega
    have hk' : k < l'.length := by omega
    have ih := run_eqItems_ints d e q q' l l' w he hl m (k + 1) (by omega)
    have h1 := run_part_int e q q' l k w he hk
    have h2 := run_part_int e q q' l' k w he hk'
    have h3 := run_equalIn_int (P := P) w d e q q' l[k] l'[k] he
    have hd : decide (l.drop k = l'.drop k) = (l[k] == l'[k] && decide (l.drop (k + 1) = l'.drop (k + 1))) := by
      rw [List.drop_eq_getElem_cons hk, List.drop_eq_getElem_cons hk', Bool.eq_iff_iff, decide_eq_true_iff, Bool.and_eq_true, beq_iff_eq, decide_eq_true_iff, List.cons.injEq]
    simp only [List.range'_succ, Op.eqItems, Sem.run_bind, Nat.mul_one, h1, h2, h3, Result.andThen_ok]
    rw [hd]
    by_cases c : l[k] = l'[k]
    · simp [c, ih]
    · simp [c]
end
section
open Go.RowKit
theorem rowAt_new {q : IntKind} (w : World) (T : TypeId) (zs : List Int) : RowAt q (w.alloc (.cells (zs.map (Value.int q)).toArray T)) (some ⟨w.heap.size, 0, none⟩) zs := fun i hi =>
  ⟨_, _, rfl, by have h := (Blk.new (q := q) w T zs).cell i hi; rw [Nat.zero_add]; exact h⟩
theorem rowAt_one {q : IntKind} (w : World) (T : TypeId) (x : Int) : RowAt q (w.alloc (.cells #[.int q x] T)) (some ⟨w.heap.size, 0, none⟩) [x] := rowAt_new w T [x]
theorem Blk.row {q : IntKind} {w : World} {b : Nat} {T : TypeId} {l : List Int} (h : Blk q w b T l) (k : Nat) : RowAt q w (some ⟨b, k, none⟩) (l.drop k) := fun i hi =>
  ⟨_, _, rfl, by
    have hi2 : k + i < l.length := by simp at hi; omega
    rw [h.cell (k + i) hi2]; simp⟩
theorem own_keep {w w' : World} {base : Nat} {e : TypeId} {size : Nat} {v : Value} {n : Nat} {xs : List Value} (h : w.ownsRow base e size v n xs) (hb : Below w.heap.size w w') : w'.ownsRow base e size v n xs :=
  h.kept ⟨hb.os, hb.tape, hb.output, hb.size, fun k hk _ => hb.block k hk⟩ (row := none) (by cases v.ownBlock <;> simp)
theorem RowAt.only {q : IntKind} {w w' : World} {a : Option Addr} {zs : List Int} {O : Nat → Prop} (h : RowAt q w a zs) (ho : Only O w w') (ha : ∀ x, a = some x → ¬ O x.block) : RowAt q w' a zs := fun i hi => by
  obtain ⟨b, o, h1, h2⟩ := h i hi
  exact ⟨b, o, h1, ho.cell h2 (ha ⟨b, o, none⟩ h1)⟩
end
section
open Go.RowKit
theorem run_append_own_blk {P : Program} (w : World) (base : Nat) (t ty e : TypeId) (i : TypeInfo) (z : Value) (bytes : Nat) (ht : P.underlying t = some (.slice e)) (hi : P.info? e = some i) (hz : i.zero = some z)
    (hsize : i.size = 1) (hby : i.bytes = bytes) (hzs : z.cells.size = 1) (v : Value) (n : Nat) (xs : List Value) (hown : w.ownsRow base e 1 v n xs)
    (a : Addr) (m c : Nat) (news : List Value) (hl : news.length = m) (hnews : ∀ j u, news[j]? = some u → w.cell? (a.add j) = some u) (h1 : ∀ u ∈ news, u.oneCell' = true)
    (h63 : n + m ≤ maxLen) (hbytes : (n + m) * bytes ≤ 140737488355328) (hbase : base ≤ w.heap.size) :
    ∃ v' w', (Builtin.append_ #[t, t] ty #[v, .slice (some a) m c]).run P w = .ok v' w' ∧ w'.ownsRow base e 1 v' (n + m) (xs ++ news) ∧ w.grownBy w' v.ownBlock ∧
      (v'.ownBlock = v.ownBlock ∨ ∀ k, v'.ownBlock = some k → w.heap.size ≤ k) := by
  obtain ⟨v', w', hr, ho, hg, -⟩ := run_append_own (P := P) w base t ty e i z 1 bytes ht hi hz hsize hby hzs (by decide) v n xs hown a m c news (by rw [hl, Nat.mul_one]) hnews h1 h63 hbytes hbase
  refine ⟨v', w', hr, ho, hg, ?_⟩
  rcases hown.2 with ⟨rfl, rfl⟩ | ⟨g, cap, cur, rfl, hbg, hgg, hnc, hcm, hcs, htake⟩
  · obtain ⟨v2, w2, hr2, ho2, -, -⟩ := run_append_own (P := P) w w.heap.size t ty e i z 1 bytes ht hi hz hsize hby hzs (by decide) (.slice none 0 0) 0 [] (World.ownsRow_nil _ _ _ _) a m c news (by rw [hl, Nat.mul_one]) hnews h1 (by simpa using h63) (by simpa using hbytes) (Nat.le_refl _)
    rw [hr] at hr2
    obtain ⟨rfl, rfl⟩ : v' = v2 ∧ w' = w2 := by injection hr2; exact ⟨by assumption, by assumption⟩
    exact .inr fun k hk => (ho2.lt k hk).1
  · by_cases hroom : n + m ≤ cap
    · have hcells : ∀ j, j < cur.size → w.cell? ⟨g, j, none⟩ = cur[j]? := fun j _ => by rw [cell_of_row w g j cur e (0, 0) hgg]
      have hr2 := run_append_room_cells (P := P) w t ty e i ht hi g 0 n cap a m c news (by rw [hsize, hl, Nat.mul_one]) hnews h1 hroom (fun j hj => by
        have hlt : 0 + n * i.size + j < cur.size := by rw [hsize]; omega
        rw [hcells _ hlt, Array.getElem?_eq_getElem hlt]; rfl) (fun j hj => frozen_of_row w g _ cur e hgg)
      rw [hr] at hr2
      obtain ⟨rfl, rfl⟩ : v' = .slice (some ⟨g, 0, none⟩) (n + m) cap ∧ w' = _ := by injection hr2; exact ⟨by assumption, by assumption⟩
      exact .inl rfl
    · obtain ⟨v2, w2, hr2, ho2, -⟩ := run_append_arg_grows (P := P) w t ty e i z 1 bytes ht hi hz hsize hby hzs (by decide) ⟨g, 0, none⟩ n cap xs hown.1 (fun j u hj => hown.cells (g := g) rfl j u hj) a m c news (by rw [hl, Nat.mul_one]) hnews (by omega) h63 hbytes
      rw [hr] at hr2
      obtain ⟨rfl, rfl⟩ : v' = v2 ∧ w' = w2 := by injection hr2; exact ⟨by assumption, by assumption⟩
      exact .inr fun k hk => (ho2.lt k hk).1
theorem wpListIn_append_blk {F : Fence} {N : Nat} {P : Program} (w : World) {ops : Array Oper} {rest : List Oper} {o : Oper} {ac : Act} {Q : Exit → Act → World → Prop} (hgd : o.guard = none) (s x : Operand) (t : TypeId)
    (hop : o.op = .call { callee := .builtin .append, args := #[s, x], argTypes := #[t, t] })
    (base : Nat) (e : TypeId) (i : TypeInfo) (z : Value) (bytes : Nat) (ht : P.underlying t = some (.slice e)) (hi : P.info? e = some i) (hz : i.zero = some z)
    (hsize : i.size = 1) (hby : i.bytes = bytes) (hzs : z.cells.size = 1) (v : Value) (n : Nat) (xs : List Value) (hs : ac.eval s = v) (hown : w.ownsRow base e 1 v n xs)
    (a : Addr) (m c : Nat) (news : List Value) (hx : ac.eval x = .slice (some a) m c) (hl : news.length = m) (hnews : ∀ j u, news[j]? = some u → w.cell? (a.add j) = some u) (h1 : ∀ u ∈ news, u.oneCell' = true)
    (h63 : n + m ≤ maxLen) (hbytes : (n + m) * bytes ≤ 140737488355328) (hbase : base ≤ w.heap.size)
    (hK : ∀ v' w', w'.ownsRow base e 1 v' (n + m) (xs ++ news) → w.grownBy w' v.ownBlock → (v'.ownBlock = v.ownBlock ∨ ∀ k, v'.ownBlock = some k → w.heap.size ≤ k) → wpListIn F N P ops Q rest (ac.put o.dst v') w') : wpListIn F N P ops Q (o :: rest) ac w := by
  refine wpListIn_plain hgd fun K hK' => ?_
  obtain ⟨v', w', hrun, r1, r2, r3⟩ := run_append_own_blk (P := P) w base t o.type e i z bytes ht hi hz hsize hby hzs v n xs hown a m c news hl hnews h1 h63 hbytes hbase
  unfold Oper.wpIn
  refine ⟨?_, ?_⟩
  · simp [Oper.about, hop, resolve, Target.leads, Sem.run_pure]
  · rw [Oper.semAt_plain F _ _ (by rw [hop]; intro c hc'; cases hc')]
    simp [execOp, hop, resolve, invoke, builtin, hs, hx, hrun, Result.andThen]
    exact hK' _ _ (hK v' w' r1 r2 r3)
end
section
open Go.RowKit
def OpsAll (T : Nat → Oper → Prop) : List Oper → Nat → Prop
  | [], _ => True
  | o :: r, k => T k o ∧ OpsAll T r (k + 1)
theorem OpsAll.get {T : Nat → Oper → Prop} : ∀ {l : List Oper} {k : Nat}, OpsAll T l k → ∀ (i : Nat) (o : Oper), l[i]? = some o → T (k + i) o
  | [], _, _, _, _, h => by simp at h
  | x :: r, k, h, 0, o, ho => by
    have : x = o := by simpa using ho
    subst this; exact h.1
  | x :: r, k, h, i + 1, o, ho => by
    have := OpsAll.get h.2 i o (by simpa using ho)
    rwa [show k + 1 + i = k + (i + 1) by omega] at this
def waitsFor (o : Oper) : List Nat := o.after.toList.filterMap fun e => if Region.binds .any e then some e.on else none
def plainOps (l : List Oper) : Bool := (l.zipIdx).all fun p => p.1.guard.isNone && p.1.after.all fun e => decide (e.on < p.2)
theorem plainOps_get {l : List Oper} (h : plainOps l = true) (i : Nat) (o : Oper) (ho : l[i]? = some o) : o.guard = none ∧ ∀ e ∈ o.after, e.on < i := by
  have := List.all_eq_true.1 h (o, i) (by rw [List.mem_iff_getElem?]; exact ⟨i, by simp [ho]⟩)
  simp only [Bool.and_eq_true, Option.isNone_iff_eq_none, Array.all_eq_true, decide_eq_true_eq] at this
  refine ⟨this.1, fun e he => ?_⟩
  obtain ⟨j, hj, rfl⟩ := Array.mem_iff_getElem.1 he
  exact this.2 j hj
theorem countP_lt_of {α : Type} {p q : α → Bool} {i : α} : ∀ {l : List α}, i ∈ l → p i = true → q i = false → (∀ j, q j = true → p j = true) → l.countP q < l.countP p
  | [], h, _, _, _ => by simp at h
  | x :: r, h, hp, hq, hm => by
    have hle : r.countP q ≤ r.countP p := List.countP_mono_left fun j _ hj => hm j hj
    rcases List.mem_cons.1 h with rfl | h
    · rw [List.countP_cons, List.countP_cons, hp, hq]; simp; omega
    · have := countP_lt_of h hp hq hm
      rw [List.countP_cons, List.countP_cons]
      have := hm x
      by_cases hx : q x = true
      · rw [if_pos hx, if_pos (hm x hx)]; omega
      · rw [if_neg hx]; omega
def also (d : Nat → Bool) (i : Nat) : Nat → Bool := fun j => j == i || d j
theorem wp_region_inv {P : Program} {id : Nat} {ops : Array Oper} {Q : Exit → Act → World → Prop} {a : Act} {w : World} (hm : P.follows .mixedOrders = true) (hp : plainOps ops.toList = true)
    (I : (Nat → Bool) → Act → World → Prop) (h0 : I (fun _ => false) a w.drew)
    (hs : OpsAll (fun i o => ∀ (d : Nat → Bool) (a : Act) (w : World), d i = false → (waitsFor o).all d = true → I d a w → o.wp P a w (I (also d i)) Q) ops.toList 0)
    (hd : ∀ (d : Nat → Bool) (a : Act) (w : World), (List.range ops.size).all d = true → I d a w → Q .normal a w) : (Code.region id ops true).wp P Q a w := by
  refine wp_region_any hm ?_
  have key : ∀ (fuel : Nat) (listed : Array Bool) (a : Act) (w : World), listed.size = ops.size → I (fun j => listed.getD j false) a w → (List.range ops.size).countP (fun i => !listed.getD i true) ≤ fuel → wpAny P .any ops Q fuel listed a w := by
    intro fuel
    have two : ∀ (listed : Array Bool) (i : Nat), listed.size = ops.size → i < ops.size → listed.getD i true = listed.getD i false := by
      intro listed i hl hi
      have hin : i < listed.size := by omega
      simp [Array.getD, hin]
    induction fuel with
    | zero =>
      intro listed a w hl hI hc
      have hall : ∀ i, i < ops.size → listed.getD i true = true := by
        intro i hi
        have := List.countP_eq_zero.1 (Nat.le_zero.1 hc) i (List.mem_range.2 hi)
        simpa using this
      refine ⟨?_, hd _ a w (List.all_eq_true.2 fun i hi => ?_) hI⟩
      · refine List.filter_eq_nil_iff.2 fun i hi => ?_
        simp [hall i (List.mem_range.1 hi)]
      · rw [← two listed i hl (List.mem_range.1 hi)]
        exact hall i (List.mem_range.1 hi)
    | succ fuel ih =>
      intro listed a w hl hI hc
      refine ⟨fun hr => ?_, fun i hi => ?_⟩
      · have hall : ∀ n i, i < n → i < ops.size → listed.getD i true = true := by
          intro n
          induction n with
          | zero => intro i h; omega
          | succ n ihn =>
            intro i h hi
            have hno := List.filter_eq_nil_iff.1 hr i (List.mem_range.2 hi)
            have ho : ops.toList[i]? = some ops[i] := by simp [hi]
            have hp2 := (plainOps_get hp i _ ho).2
            by_cases hx : listed.getD i true = true
            · exact hx
            · exfalso
              refine hno ?_
              have hx' : listed.getD i true = false := by simpa using hx
              rw [hx']
              simp only [Bool.not_false, Bool.true_and]
              rw [show ops[i]? = some ops[i] by simp [hi]]
              simp only [Option.map_some, Option.getD_some]
              rw [Array.all_eq_true]
              intro j hj
              have hlt := hp2 _ (Array.getElem_mem hj)
              have h9 := ihn (ops[i].after[j]).on (by omega) (by omega)
              rw [two listed _ hl (by omega)] at h9
              rw [h9]; simp
        exact hd _ a w (List.all_eq_true.2 fun i hi => by rw [← two listed i hl (List.mem_range.1 hi)]; exact hall (i + 1) i (by omega) (List.mem_range.1 hi)) hI
      · obtain ⟨hun, o, ho, hall⟩ := mem_ready.1 hi
        have hlt : i < ops.size := (Array.getElem?_eq_some_iff.1 ho).1
        have hltl : i < listed.size := by omega
        have ho' : ops.toList[i]? = some o := by simpa using ho
        unfold wpOp
        rw [ho]
        have hg := (plainOps_get hp i o ho').1
        have hw : Region.wanted o (yielded ops a.tmps) = true := by simp [Region.wanted, hg]
        simp only [hw, if_true]
        refine .inl ?_
        have hstep := OpsAll.get hs i o ho'
        rw [Nat.zero_add] at hstep
        refine Oper.wp_mono ?_ (hstep (fun j => listed.getD j false) a w (by rw [← two listed i hl hlt]; exact hun) ?_ hI)
        · intro a' w' hK
          refine ih (listed.setIfInBounds i true) a' w' (by simpa using hl) ?_ ?_
          · have : (fun j => (listed.setIfInBounds i true).getD j false) = also (fun j => listed.getD j false) i := by
              funext j
              unfold also
              by_cases e : j = i
              · subst e; simp [Array.getD, hltl]
              · rw [getD_set_ne false (Ne.symm e)]; simp [e]
            rw [this]; exact hK
          · have hlt2 : (List.range ops.size).countP (fun j => !(listed.setIfInBounds i true).getD j true) < (List.range ops.size).countP (fun j => !listed.getD j true) := by
              refine countP_lt_of (i := i) (List.mem_range.2 hlt) (by simp [hun]) (by simp [Array.getD, hltl]) ?_
              intro j hj
              by_cases e : j = i
              · subst e; simp [Array.getD, hltl] at hj
              · rw [getD_set_ne true (Ne.symm e)] at hj; exact hj
            omega
        · refine List.all_eq_true.2 fun x hx => ?_
          obtain ⟨e, he, hex⟩ := List.mem_filterMap.1 hx
          split at hex
          · rename_i hb
            have : e.on = x := by simpa using hex
            subst this
            exact hall e (by simpa using he) hb
          · simp at hex
  refine key _ _ _ _ (by simp) ?_ ?_
  · have : (fun j => (Array.replicate ops.size false).getD j false) = fun _ => false := by
      funext j
      by_cases h : j < ops.size <;> simp [Array.getD, h]
    rw [this]; exact h0
  · exact Nat.le_trans List.countP_le_length (by simp)
end
section
open Go.RowKit
def growsUpon (P : Program) (W : World) (v : Value) : Result Next → Prop
  | .ok (.value u) W' => u = v ∧ Below W.heap.size W W'
  | .ok .skip W' => v = undef ∧ Below W.heap.size W W'
  | .ok (.enter f args) W1 => Calls P f args W1 fun e W' => e = .returned v ∧ Below W.heap.size W W'
  | _ => False
@[go_sem] theorem growsUpon_value (P : Program) (W W' : World) (u v : Value) : growsUpon P W v (.ok (.value u) W') = (u = v ∧ Below W.heap.size W W') := rfl
@[go_sem] theorem growsUpon_skip (P : Program) (W W' : World) (v : Value) : growsUpon P W v (.ok .skip W') = (v = undef ∧ Below W.heap.size W W') := rfl
@[go_sem] theorem growsUpon_enter (P : Program) (W W' : World) (v : Value) (f : FuncId) (args : Array Value) : growsUpon P W v (.ok (.enter f args) W') = Calls P f args W' fun e W'' => e = .returned v ∧ Below W.heap.size W W'' := rfl
def layT : List Oper → (Nat → Value) → Nat → Act → Act
  | _, _, 0, a => a
  | [], _, _ + 1, a => a
  | o :: l, vs, i + 1, a => layT l (fun j => vs (j + 1)) i (a.put o.dst (vs 0))
structure Laid (l : List Oper) (vs : Nat → Value) (a : Act) (D : Nat → Prop) (x : Act) : Prop where
  defers : x.defers = a.defers
  size : x.tmps.size = a.tmps.size
  done : ∀ (j : Nat) (o : Oper) (d : Tmp), l[j]? = some o → D j → o.dst = some d → d < a.tmps.size → x.tmps[d]? = some (vs j)
  else_ : ∀ t, (∀ (j : Nat) (o : Oper), l[j]? = some o → D j → o.dst ≠ some t) → x.tmps[t]? = a.tmps[t]?
def Apart (l : List Oper) : Prop := ∀ (i j : Nat) (o o' : Oper) (d : Tmp), l[i]? = some o → l[j]? = some o' → o.dst = some d → o'.dst = some d → i = j
theorem Laid.put {l : List Oper} {vs : Nat → Value} {a x : Act} {D : Nat → Prop} (hap : Apart l) (h : Laid l vs a D x) {i : Nat} {o : Oper} (ho : l[i]? = some o) : Laid l vs a (fun j => j = i ∨ D j) (x.put o.dst (vs i)) := by
  cases hd : o.dst with
  | none =>
    refine ⟨h.defers, h.size, fun j o' d hj hD hdd hlt => ?_, fun t ht => h.else_ t fun j o' hj hD => ht j o' hj (.inr hD)⟩
    rcases hD with rfl | hD
    · have : o = o' := Option.some.inj (ho.symm.trans hj)
      subst this
      rw [hd] at hdd; cases hdd
    · exact h.done j o' d hj hD hdd hlt
  | some d0 =>
    refine ⟨h.defers, by simp [Act.put, h.size], fun j o' d hj hD hdd hlt => ?_, fun t ht => ?_⟩
    · by_cases e : j = i
      · subst e
        have : o = o' := Option.some.inj (ho.symm.trans hj)
        subst this
        have : d0 = d := Option.some.inj (hd.symm.trans hdd)
        subst this
        simp [Act.put, Array.getElem?_setIfInBounds, h.size, hlt]
      · have hne : d0 ≠ d := fun e2 => e (hap j i o' o d hj ho hdd (by rw [hd, e2]))
        simp only [Act.put, Array.getElem?_setIfInBounds_ne hne]
        exact h.done j o' d hj (hD.resolve_left e) hdd hlt
    · have hne : d0 ≠ t := fun e2 => ht i o ho (.inl rfl) (by rw [hd, e2])
      simp only [Act.put, Array.getElem?_setIfInBounds_ne hne]
      exact h.else_ t fun j o' hj hD => ht j o' hj (.inr hD)
theorem Laid.refl (l : List Oper) (vs : Nat → Value) (a : Act) (D : Nat → Prop) (h : ∀ j, ¬ D j) : Laid l vs a D a := ⟨rfl, rfl, fun j _ _ _ hD => absurd hD (h j), fun _ _ => rfl⟩
theorem Laid.congr {l : List Oper} {vs : Nat → Value} {a x : Act} {D D' : Nat → Prop} (h : Laid l vs a D x) (hD : ∀ j, j < l.length → (D j ↔ D' j)) : Laid l vs a D' x :=
  ⟨h.defers, h.size, fun j o d hj hd => h.done j o d hj ((hD j (List.getElem?_eq_some_iff.1 hj).1).2 hd), fun t ht => h.else_ t fun j o hj hd => ht j o hj ((hD j (List.getElem?_eq_some_iff.1 hj).1).1 hd)⟩
theorem layT_succ : ∀ (l : List Oper) (vs : Nat → Value) (i : Nat) (a : Act) (o : Oper), l[i]? = some o → layT l vs (i + 1) a = (layT l vs i a).put o.dst (vs i)
  | [], _, _, _, _, h => by simp at h
  | x :: l, vs, 0, a, o, h => by
    obtain rfl : x = o := by simpa using h
    cases l <;> rfl
  | x :: l, vs, i + 1, a, o, h => by
    rw [layT, layT_succ l _ i _ o (by simpa using h)]
    rfl
theorem layT_laid {l : List Oper} (hap : Apart l) (vs : Nat → Value) (a : Act) : ∀ i, i ≤ l.length → Laid l vs a (· < i) (layT l vs i a)
  | 0, _ => by
    have : layT l vs 0 a = a := by cases l <;> rfl
    rw [this]
    exact Laid.refl l vs a _ (by omega)
  | i + 1, h => by
    have ho : l[i]? = some l[i] := by simp
    rw [layT_succ l vs i a _ ho]
    exact ((layT_laid hap vs a i (by omega)).put hap ho).congr fun j _ => by omega
theorem Laid.eq {l : List Oper} {vs : Nat → Value} {a x y : Act} {D : Nat → Prop} (h : Laid l vs a D x) (k : Laid l vs a D y) : x = y := by
  have ht : x.tmps = y.tmps := by
    apply Array.ext_getElem?
    intro t
    by_cases hx : ∃ (j : Nat) (o : Oper), l[j]? = some o ∧ D j ∧ o.dst = some t
    · obtain ⟨j, o, hj, hD, hd⟩ := hx
      by_cases hlt : t < a.tmps.size
      · rw [h.done j o t hj hD hd hlt, k.done j o t hj hD hd hlt]
      · rw [Array.getElem?_eq_none (by rw [h.size]; omega), Array.getElem?_eq_none (by rw [k.size]; omega)]
    · have hn : ∀ (j : Nat) (o : Oper), l[j]? = some o → D j → o.dst ≠ some t := fun j o hj hD hd => hx ⟨j, o, hj, hD, hd⟩
      rw [h.else_ t hn, k.else_ t hn]
  have hd : x.defers = y.defers := h.defers.trans k.defers.symm
  cases x; cases y; simp at ht hd; subst ht hd; rfl
def looksB (l : List Oper) (ops : Array Oper) : Bool :=
  l.all fun o => l.zipIdx.all fun p => match p.1.dst with
    | some d => !(o.looksAt ops).contains d || o.after.any fun e => Region.binds .any e && e.on == p.2
    | none => true
def apartB (l : List Oper) : Bool := l.zipIdx.all fun p => l.zipIdx.all fun q => p.2 == q.2 || match p.1.dst with
    | some d => q.1.dst != some d
    | none => true
def backB (ops : Array Oper) : Bool := ops.toList.zipIdx.all fun p => p.1.after.all fun e => !Region.binds .any e || decide (e.on < p.2)
def growB (l : List Oper) (n : Nat) : Bool :=
  Region.noSelect l.toArray && decide (n ≤ l.length) && (decide (n = l.length) || Region.sinkB .any l.toArray n && Region.chainB .any l.toArray n) && looksB (l.take n) l.toArray && apartB (l.take n) && backB l.toArray &&
    Region.seqB .any l.toArray (l.length - n) n ((List.range l.length).map fun i => decide (i < n)).toArray
theorem apartB_spec {l : List Oper} (h : apartB l = true) : Apart l := by
  intro i j o o' d hi hj hd hd'
  have hi2 : (o, i) ∈ l.zipIdx := List.mem_iff_getElem?.2 ⟨i, by simp [hi]⟩
  have hj2 : (o', j) ∈ l.zipIdx := List.mem_iff_getElem?.2 ⟨j, by simp [hj]⟩
  have h1 := List.all_eq_true.1 (List.all_eq_true.1 h _ hi2) _ hj2
  simp only [hd, hd', Bool.or_eq_true, beq_iff_eq] at h1
  rcases h1 with h1 | h1
  · exact h1
  · simp at h1
theorem looksB_spec {l : List Oper} {ops : Array Oper} (h : looksB l ops = true) {i j : Nat} {o o' : Oper} {d : Tmp} (hi : l[i]? = some o) (hj : l[j]? = some o') (hd : o'.dst = some d) (hm : d ∈ o.looksAt ops) :
    ∃ e ∈ o.after, Region.binds .any e = true ∧ e.on = j := by
  have hi2 : o ∈ l := List.mem_iff_getElem?.2 ⟨i, hi⟩
  have hj2 : (o', j) ∈ l.zipIdx := List.mem_iff_getElem?.2 ⟨j, by simp [hj]⟩
  have h1 := List.all_eq_true.1 (List.all_eq_true.1 h _ hi2) _ hj2
  simp only [hd, Bool.or_eq_true, Bool.not_eq_true'] at h1
  rcases h1 with h1 | h1
  · have : (o.looksAt ops).contains d = true := List.contains_iff_mem.2 hm
    rw [this] at h1; cases h1
  · obtain ⟨e, he, hb⟩ := Array.any_eq_true'.1 h1
    simp only [Bool.and_eq_true, beq_iff_eq] at hb
    exact ⟨e, he, hb.1, hb.2⟩
theorem exec_same {ops : Array Oper} {o : Oper} {x y : Act} (hs : ∀ cs b, o.op ≠ .select cs b) (h : ∀ t ∈ o.looksAt ops, x.tmps[t]? = y.tmps[t]?) :
    execOp x.eval o = execOp y.eval o ∧ Region.wanted o (yielded ops x.tmps) = Region.wanted o (yielded ops y.tmps) := by
  refine ⟨execOp_congr o hs fun z hz => ?_, ?_⟩
  · cases z with
    | tmp t =>
      have := h t (List.mem_append_left _ (List.mem_filterMap.2 ⟨.tmp t, by simpa using hz, rfl⟩))
      simp [Act.eval, this]
    | _ => rfl
  · unfold Region.wanted
    cases hg : o.guard with
    | none => rfl
    | some gw =>
      obtain ⟨g, want⟩ := gw
      have hy : yielded ops x.tmps g = yielded ops y.tmps g := by
        unfold yielded
        cases ht : (ops[g]?).bind (·.dst) with
        | none => rfl
        | some t =>
          have := h t (by simp [Oper.looksAt, hg, ht])
          simp [this]
      simp only [hy]
end
end Go.Proofs.YtijkdabmegbcjaaGreatDoor
