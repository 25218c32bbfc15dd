/- Texts of this claim, merged; no condition. -/
import Derived.StillTail
import Derived.Test.YthpallkphamobaaGreatDoorJ02
import Derived.Test.YthpallkphamobaaGreatDoorJ01
import Derived.OrdersIn
import Derived.OwnWalkIn
import Derived.RangeFuncCalls
set_option linter.all false
namespace Go.Proofs.YthpallkphamobaaGreatDoor
open Go.RowKit

/-- What an operation came to: the value v, memory having grown. -/
def growsUpon (P : Program) (W : World) (v : Value) : Result Next → Prop
  | .ok (.value u) W' => u = v ∧ Below W.heap.size W W'
  | .ok .skip W' => v = undef ∧ Below W.heap.size W W'
  | .ok (.enter f args) W1 => Calls P f args W1 fun e W' => e = .returned v ∧ Below W.heap.size W W'
  | _ => False
@[go_sem] theorem growsUpon_value (P : Program) (W W' : World) (u v : Value) : growsUpon P W v (.ok (.value u) W') = (u = v ∧ Below W.heap.size W W') := rfl
@[go_sem] theorem growsUpon_skip (P : Program) (W W' : World) (v : Value) : growsUpon P W v (.ok .skip W') = (v = undef ∧ Below W.heap.size W W') := rfl
@[go_sem] theorem growsUpon_enter (P : Program) (W W' : World) (v : Value) (f : FuncId) (args : Array Value) : growsUpon P W v (.ok (.enter f args) W') = Calls P f args W' fun e W'' => e = .returned v ∧ Below W.heap.size W W'' := rfl

/-- The frame behind the first i operations, in the text's order. -/
def layT : List Oper → (Nat → Value) → Nat → Act → Act
  | _, _, 0, a => a
  | [], _, _ + 1, a => a
  | o :: l, vs, i + 1, a => layT l (fun j => vs (j + 1)) i (a.put o.dst (vs 0))

/-- What a frame holds when the operations of D are done. -/
structure Laid (l : List Oper) (vs : Nat → Value) (a : Act) (D : Nat → Prop) (x : Act) : Prop where
  defers : x.defers = a.defers
  size : x.tmps.size = a.tmps.size
  done : ∀ (j : Nat) (o : Oper) (d : Tmp), l[j]? = some o → D j → o.dst = some d → d < a.tmps.size → x.tmps[d]? = some (vs j)
  else_ : ∀ t, (∀ (j : Nat) (o : Oper), l[j]? = some o → D j → o.dst ≠ some t) → x.tmps[t]? = a.tmps[t]?

/-- No two write to one slot. -/
def Apart (l : List Oper) : Prop := ∀ (i j : Nat) (o o' : Oper) (d : Tmp), l[i]? = some o → l[j]? = some o' → o.dst = some d → o'.dst = some d → i = j

theorem Laid.put {l : List Oper} {vs : Nat → Value} {a x : Act} {D : Nat → Prop} (hap : Apart l) (h : Laid l vs a D x) {i : Nat} {o : Oper} (ho : l[i]? = some o) : Laid l vs a (fun j => j = i ∨ D j) (x.put o.dst (vs i)) := by
  cases hd : o.dst with
  | none =>
    refine ⟨h.defers, h.size, fun j o' d hj hD hdd hlt => ?_, fun t ht => h.else_ t fun j o' hj hD => ht j o' hj (.inr hD)⟩
    rcases hD with rfl | hD
    · have : o = o' := Option.some.inj (ho.symm.trans hj)
      subst this
      rw [hd] at hdd; cases hdd
    · exact h.done j o' d hj hD hdd hlt
  | some d0 =>
    refine ⟨h.defers, by simp [Act.put, h.size], fun j o' d hj hD hdd hlt => ?_, fun t ht => ?_⟩
    · by_cases e : j = i
      · subst e
        have : o = o' := Option.some.inj (ho.symm.trans hj)
        subst this
        have : d0 = d := Option.some.inj (hd.symm.trans hdd)
        subst this
        simp [Act.put, Array.getElem?_setIfInBounds, h.size, hlt]
      · have hne : d0 ≠ d := fun e2 => e (hap j i o' o d hj ho hdd (by rw [hd, e2]))
        simp only [Act.put, Array.getElem?_setIfInBounds_ne hne]
        exact h.done j o' d hj (hD.resolve_left e) hdd hlt
    · have hne : d0 ≠ t := fun e2 => ht i o ho (.inl rfl) (by rw [hd, e2])
      simp only [Act.put, Array.getElem?_setIfInBounds_ne hne]
      exact h.else_ t fun j o' hj hD => ht j o' hj (.inr hD)

theorem Laid.refl (l : List Oper) (vs : Nat → Value) (a : Act) (D : Nat → Prop) (h : ∀ j, ¬ D j) : Laid l vs a D a := ⟨rfl, rfl, fun j _ _ _ hD => absurd hD (h j), fun _ _ => rfl⟩
theorem Laid.congr {l : List Oper} {vs : Nat → Value} {a x : Act} {D D' : Nat → Prop} (h : Laid l vs a D x) (hD : ∀ j, j < l.length → (D j ↔ D' j)) : Laid l vs a D' x :=
  ⟨h.defers, h.size, fun j o d hj hd => h.done j o d hj ((hD j (List.getElem?_eq_some_iff.1 hj).1).2 hd), fun t ht => h.else_ t fun j o hj hd => ht j o hj ((hD j (List.getElem?_eq_some_iff.1 hj).1).1 hd)⟩

theorem layT_succ : ∀ (l : List Oper) (vs : Nat → Value) (i : Nat) (a : Act) (o : Oper), l[i]? = some o → layT l vs (i + 1) a = (layT l vs i a).put o.dst (vs i)
  | [], _, _, _, _, h => by simp at h
  | x :: l, vs, 0, a, o, h => by
    obtain rfl : x = o := by simpa using h
    cases l <;> rfl
  | x :: l, vs, i + 1, a, o, h => by
    rw [layT, layT_succ l _ i _ o (by simpa using h)]
    rfl
theorem layT_laid {l : List Oper} (hap : Apart l) (vs : Nat → Value) (a : Act) : ∀ i, i ≤ l.length → Laid l vs a (· < i) (layT l vs i a)
  | 0, _ => by
    have : layT l vs 0 a = a := by cases l <;> rfl
    rw [this]
    exact Laid.refl l vs a _ (by omega)
  | i + 1, h => by
    have ho : l[i]? = some l[i] := by simp
    rw [layT_succ l vs i a _ ho]
    exact ((layT_laid hap vs a i (by omega)).put hap ho).congr fun j _ => by omega

theorem Laid.eq {l : List Oper} {vs : Nat → Value} {a x y : Act} {D : Nat → Prop} (h : Laid l vs a D x) (k : Laid l vs a D y) : x = y := by
  have ht : x.tmps = y.tmps := by
    apply Array.ext_getElem?
    intro t
    by_cases hx : ∃ (j : Nat) (o : Oper), l[j]? = some o ∧ D j ∧ o.dst = some t
    · obtain ⟨j, o, hj, hD, hd⟩ := hx
      by_cases hlt : t < a.tmps.size
      · rw [h.done j o t hj hD hd hlt, k.done j o t hj hD hd hlt]
      · rw [Array.getElem?_eq_none (by rw [h.size]; omega), Array.getElem?_eq_none (by rw [k.size]; omega)]
    · have hn : ∀ (j : Nat) (o : Oper), l[j]? = some o → D j → o.dst ≠ some t := fun j o hj hD hd => hx ⟨j, o, hj, hD, hd⟩
      rw [h.else_ t hn, k.else_ t hn]
  have hd : x.defers = y.defers := h.defers.trans k.defers.symm
  cases x; cases y; simp at ht hd; subst ht hd; rfl

/-- What an operation looks at, of what the region writes, it waits for. -/
def looksB (l : List Oper) (ops : Array Oper) : Bool :=
  l.all fun o => l.zipIdx.all fun p => match p.1.dst with
    | some d => !(o.looksAt ops).contains d || o.after.any fun e => Region.binds .any e && e.on == p.2
    | none => true
def apartB (l : List Oper) : Bool := l.zipIdx.all fun p => l.zipIdx.all fun q => p.2 == q.2 || match p.1.dst with
    | some d => q.1.dst != some d
    | none => true
def backB (ops : Array Oper) : Bool := ops.toList.zipIdx.all fun p => p.1.after.all fun e => !Region.binds .any e || decide (e.on < p.2)
def growB (l : List Oper) (n : Nat) : Bool :=
  Region.noSelect l.toArray && decide (n ≤ l.length) && (decide (n = l.length) || Region.sinkB .any l.toArray n && Region.chainB .any l.toArray n) && looksB (l.take n) l.toArray && apartB (l.take n) && backB l.toArray &&
    Region.seqB .any l.toArray (l.length - n) n ((List.range l.length).map fun i => decide (i < n)).toArray

theorem apartB_spec {l : List Oper} (h : apartB l = true) : Apart l := by
  intro i j o o' d hi hj hd hd'
  have hi2 : (o, i) ∈ l.zipIdx := List.mem_iff_getElem?.2 ⟨i, by simp [hi]⟩
  have hj2 : (o', j) ∈ l.zipIdx := List.mem_iff_getElem?.2 ⟨j, by simp [hj]⟩
  have h1 := List.all_eq_true.1 (List.all_eq_true.1 h _ hi2) _ hj2
  simp only [hd, hd', Bool.or_eq_true, beq_iff_eq] at h1
  rcases h1 with h1 | h1
  · exact h1
  · simp at h1
theorem looksB_spec {l : List Oper} {ops : Array Oper} (h : looksB l ops = true) {i j : Nat} {o o' : Oper} {d : Tmp} (hi : l[i]? = some o) (hj : l[j]? = some o') (hd : o'.dst = some d) (hm : d ∈ o.looksAt ops) :
    ∃ e ∈ o.after, Region.binds .any e = true ∧ e.on = j := by
  have hi2 : o ∈ l := List.mem_iff_getElem?.2 ⟨i, hi⟩
  have hj2 : (o', j) ∈ l.zipIdx := List.mem_iff_getElem?.2 ⟨j, by simp [hj]⟩
  have h1 := List.all_eq_true.1 (List.all_eq_true.1 h _ hi2) _ hj2
  simp only [hd, Bool.or_eq_true, Bool.not_eq_true'] at h1
  rcases h1 with h1 | h1
  · have : (o.looksAt ops).contains d = true := List.contains_iff_mem.2 hm
    rw [this] at h1; cases h1
  · obtain ⟨e, he, hb⟩ := Array.any_eq_true'.1 h1
    simp only [Bool.and_eq_true, beq_iff_eq] at hb
    exact ⟨e, he, hb.1, hb.2⟩

/-- Two frames that hold the same where an operation looks. -/
theorem exec_same {ops : Array Oper} {o : Oper} {x y : Act} (hs : ∀ cs b, o.op ≠ .select cs b) (h : ∀ t ∈ o.looksAt ops, x.tmps[t]? = y.tmps[t]?) :
    execOp x.eval o = execOp y.eval o ∧ Region.wanted o (yielded ops x.tmps) = Region.wanted o (yielded ops y.tmps) := by
  refine ⟨execOp_congr o hs fun z hz => ?_, ?_⟩
  · cases z with
    | tmp t =>
      have := h t (List.mem_append_left _ (List.mem_filterMap.2 ⟨.tmp t, by simpa using hz, rfl⟩))
      simp [Act.eval, this]
    | _ => rfl
  · unfold Region.wanted
    cases hg : o.guard with
    | none => rfl
    | some gw =>
      obtain ⟨g, want⟩ := gw
      have hy : yielded ops x.tmps g = yielded ops y.tmps g := by
        unfold yielded
        cases ht : (ops[g]?).bind (·.dst) with
        | none => rfl
        | some t =>
          have := h t (by simp [Oper.looksAt, hg, ht])
          simp [this]
      simp only [hy]

end Go.Proofs.YthpallkphamobaaGreatDoor
namespace Go.Proofs.YthpallkphamobaaGreatDoor
open Go.RowKit

/-- What is told of a value: what it is, and what memory holds of it. -/
structure Told where
  is : Value → Prop
  mem : Value → World → Prop
  some_ : ∃ v, is v
  stays : ∀ v W W', mem v W → Below W.heap.size W W' → mem v W'
/-- It is v. -/
def fixd (v : Value) : Told := ⟨fun u => u = v, fun _ _ => True, ⟨v, rfl⟩, fun _ _ _ _ _ => trivial⟩
/-- It is nothing to speak of. -/
def anyT : Told := ⟨fun _ => True, fun _ _ => True, ⟨undef, trivial⟩, fun _ _ _ _ _ => trivial⟩
/-- A new slice that holds integers. -/
def rowT (q : IntKind) (zs : List Int) : Told := ⟨fun v => ∃ b : Nat, v = .slice (some ⟨b, 0, none⟩) zs.length zs.length, fun v W => ∀ b : Nat, v = .slice (some ⟨b, 0, none⟩) zs.length zs.length → RowAt q W (some ⟨b, 0, none⟩) zs,
  ⟨_, 0, rfl⟩, fun v W W' h hb b e => (h b e).below hb⟩

def growsUponV (P : Program) (W : World) (V : Value → World → Prop) : Result Next → Prop
  | .ok (.value u) W' => V u W' ∧ Below W.heap.size W W'
  | .ok .skip W' => V undef W' ∧ Below W.heap.size W W'
  | .ok (.enter f args) W1 => Calls P f args W1 fun e W' => ∃ v, e = .returned v ∧ V v W' ∧ Below W.heap.size W W'
  | _ => False
@[go_sem] theorem growsUponV_value (P : Program) (W W' : World) (u : Value) (V : Value → World → Prop) : growsUponV P W V (.ok (.value u) W') = (V u W' ∧ Below W.heap.size W W') := rfl
@[go_sem] theorem growsUponV_skip (P : Program) (W W' : World) (V : Value → World → Prop) : growsUponV P W V (.ok .skip W') = (V undef W' ∧ Below W.heap.size W W') := rfl
@[go_sem] theorem growsUponV_enter (P : Program) (W W' : World) (V : Value → World → Prop) (f : FuncId) (args : Array Value) : growsUponV P W V (.ok (.enter f args) W') = Calls P f args W' fun e W'' => ∃ v, e = .returned v ∧ V v W'' ∧ Below W.heap.size W W'' := rfl

/-- Operation o waits for operation j. -/
def waitsB (o : Oper) (j : Nat) : Bool := o.after.any fun e => Region.binds .any e && e.on == j

def GrowsAtV (P : Program) (ops : Array Oper) (w : World) (o : Oper) (F : World → Prop) (T : Told) (a : Act) : Prop :=
  (Region.wanted o (yielded ops a.tmps) = true ∧ ∀ W, Below w.heap.size w W → F W → growsUponV P W (fun v W' => T.is v ∧ T.mem v W') ((execOp a.eval o).run P W)) ∨
  (Region.wanted o (yielded ops a.tmps) = false ∧ T.is undef ∧ ∀ W, T.mem undef W)

def wpGrowV (P : Program) (ops : Array Oper) (w : World) (L : Nat → Told) (K : List Value → Act → Prop) : List Oper → List Value → Act → Prop
  | [], s, a => K s a
  | o :: rest, s, a => GrowsAtV P ops w o (fun W => ∀ j, waitsB o j = true → j < s.length → (L j).mem (s.getD j undef) W) (L s.length) a ∧ ∀ v, (L s.length).is v → wpGrowV P ops w L K rest (s ++ [v]) (a.put o.dst v)

section
variable {P : Program} {ops : Array Oper} {w : World} {L : Nat → Told} {K : List Value → Act → Prop} {o : Oper} {rest : List Oper} {s : List Value} {a : Act}
theorem wpGrowV_nil (h : K s a) : wpGrowV P ops w L K [] s a := h
/-- A value that is fixed. -/
theorem wpGrowV_fix (v : Value) (hL : L s.length = fixd v) (hw : Region.wanted o (yielded ops a.tmps) = true)
    (hv : ∀ W, Below w.heap.size w W → (∀ j, waitsB o j = true → j < s.length → (L j).mem (s.getD j undef) W) → growsUpon P W v ((execOp a.eval o).run P W)) (h : wpGrowV P ops w L K rest (s ++ [v]) (a.put o.dst v)) : wpGrowV P ops w L K (o :: rest) s a := by
  refine ⟨.inl ⟨hw, fun W hb hF => ?_⟩, fun u hu => ?_⟩
  · have := hv W hb hF
    generalize (execOp a.eval o).run P W = r at this
    rw [hL]
    cases r with
    | ok n W1 =>
      cases n <;> simp only [growsUpon] at this <;> simp only [growsUponV]
      case value u => exact ⟨⟨this.1, trivial⟩, this.2⟩
      case skip => exact ⟨⟨this.1.symm, trivial⟩, this.2⟩
      case enter f args => exact this.mono fun e W' ⟨he, hb2⟩ => ⟨v, he, ⟨rfl, trivial⟩, hb2⟩
    | halt x W1 => simp only [growsUpon] at this
  · rw [hL] at hu
    have : u = v := hu
    subst this
    exact h
theorem wpGrowV_not (hL : L s.length = fixd undef) (hw : Region.wanted o (yielded ops a.tmps) = false) (h : wpGrowV P ops w L K rest (s ++ [undef]) (a.put o.dst undef)) : wpGrowV P ops w L K (o :: rest) s a := by
  refine ⟨.inr ⟨hw, ?_⟩, fun u hu => ?_⟩
  · rw [hL]; exact ⟨rfl, fun _ => trivial⟩
  · rw [hL] at hu
    have : u = undef := hu
    subst this
    exact h
/-- A value of which something is told. -/
theorem wpGrowV_any (T : Told) (hL : L s.length = T) (hw : Region.wanted o (yielded ops a.tmps) = true)
    (hv : ∀ W, Below w.heap.size w W → (∀ j, waitsB o j = true → j < s.length → (L j).mem (s.getD j undef) W) → growsUponV P W (fun v W' => T.is v ∧ T.mem v W') ((execOp a.eval o).run P W))
    (h : ∀ v, T.is v → wpGrowV P ops w L K rest (s ++ [v]) (a.put o.dst v)) : wpGrowV P ops w L K (o :: rest) s a := by
  subst hL
  exact ⟨.inl ⟨hw, hv⟩, h⟩
end

theorem wpGrowV_values {P : Program} {ops : Array Oper} {w : World} {L : Nat → Told} {K : List Value → Act → Prop} : ∀ (l : List Oper) (s : List Value) (a : Act), wpGrowV P ops w L K l s a →
    ∀ vs : Nat → Value, (∀ k, (L k).is (vs k)) → (∀ k, k < s.length → s.getD k undef = vs k) →
    (∀ (i : Nat) (o : Oper), l[i]? = some o → GrowsAtV P ops w o (fun W => ∀ j, waitsB o j = true → j < s.length + i → (L j).mem (vs j) W) (L (s.length + i)) (layT l (fun j => vs (s.length + j)) i a)) ∧
    ∃ s' : List Value, s'.length = s.length + l.length ∧ (∀ k, k < s'.length → s'.getD k undef = vs k) ∧ K s' (layT l (fun j => vs (s.length + j)) l.length a)
  | [], s, a, h, vs, _, hs => ⟨fun i o ho => by simp at ho, s, by simp, hs, h⟩
  | o :: l, s, a, ⟨hg, h⟩, vs, hvs, hs => by
    have h2 := h (vs s.length) (hvs _)
    obtain ⟨h3, s', h4, h5, h6⟩ := wpGrowV_values l (s ++ [vs s.length]) _ h2 vs hvs (fun k hk => by
      rw [List.length_append] at hk
      by_cases e : k < s.length
      · rw [← hs k e]
        simp only [List.getD_eq_getElem?_getD]
        rw [List.getElem?_append_left e]
      · obtain rfl : k = s.length := by simp at hk; omega
        simp [List.getD_eq_getElem?_getD])
    have e1 : (fun j => vs ((s ++ [vs s.length]).length + j)) = fun j => vs (s.length + (j + 1)) := by funext j; simp; congr 1; omega
    rw [e1] at h3 h6
    refine ⟨?_, s', by simp at h4 ⊢; omega, h5, h6⟩
    rintro (_ | i) o' ho
    · obtain rfl : o = o' := by simpa using ho
      show GrowsAtV P ops w o _ (L s.length) a
      unfold GrowsAtV at hg ⊢
      rcases hg with ⟨hw, hv⟩ | hn
      · exact .inl ⟨hw, fun W hb hF => hv W hb fun j hj e => by rw [hs j e]; exact hF j hj (by omega)⟩
      · exact .inr hn
    · have := h3 i o' (by simpa using ho)
      rw [show (s ++ [vs s.length]).length + i = s.length + (i + 1) by simp; omega] at this
      exact this

theorem wpOp_of_growsV {P : Program} {ops : Array Oper} {Q : Exit → Act → World → Prop} {i : Nat} {o : Oper} {F : World → Prop} {T : Told} {a : Act} {w W : World} {K : Act → World → Prop} (ho : ops[i]? = some o) (h : GrowsAtV P ops w o F T a) (hb : Below w.heap.size w W) (hF : F W)
    (hK : ∀ v W', T.is v → T.mem v W' → Below W.heap.size W W' → K (a.put o.dst v) W') : wpOp P ops Q i K a W := by
  unfold wpOp
  simp only [ho]
  rcases h with ⟨hw, hv⟩ | ⟨hw, hi, hm⟩
  · simp only [hw, if_true]
    refine .inl ?_
    unfold Oper.wp
    have h2 := hv W hb hF
    generalize (execOp a.eval o).run P W = r at h2
    cases r with
    | ok n W1 =>
      cases n <;> simp only [growsUponV] at h2 <;> simp only [Oper.upon]
      case value u => exact hK _ _ h2.1.1 h2.1.2 h2.2
      case skip => exact hK _ _ h2.1.1 h2.1.2 h2.2
      case enter f args => exact h2.mono fun e W'' ⟨v, he, ⟨h3, h4⟩, hb2⟩ => by subst he; exact hK _ _ h3 h4 hb2
    | halt x W1 => simp only [growsUponV] at h2
  · simp only [hw, Bool.false_eq_true, if_false]
    exact hK _ _ hi (hm W) (xrefl W)

theorem grow_key {P : Program} {l : List Oper} {a : Act} {w : World} (n : Nat) (L : Nat → Told) (hB : growB l n = true) (Tail : Act → World → Prop) (Any : Nat → Array Bool → Act → World → Prop)
    (hstep : ∀ (m : Nat) (listed : Array Bool) (x : Act) (W : World), Region.ready .any l.toArray listed ≠ [] →
      (∀ i ∈ Region.ready .any l.toArray listed, ∃ (o : Oper) (F : World → Prop) (T : Told), l.toArray[i]? = some o ∧ F W ∧ Below w.heap.size w W ∧ GrowsAtV P l.toArray w o F T x ∧ ∀ v W', T.is v → T.mem v W' → Below W.heap.size W W' → Any m (listed.setIfInBounds i true) (x.put o.dst v) W') → Any (m + 1) listed x W)
    (hend : ∀ (listed : Array Bool) (x : Act) (W : World), Region.seqB .any l.toArray (l.length - n) n listed = true → Tail x W → Any (l.length - n) listed x W)
    (h : wpGrowV P l.toArray w L (fun s a' => ∀ W, Below w.heap.size w W → (∀ j, j < n → (L j).mem (s.getD j undef) W) → Tail a' W) (l.take n) [] a) : Any l.toArray.size (Array.replicate l.toArray.size false) a { w with drawn := w.drawn + 1 } := by
  simp only [growB, Bool.and_eq_true, decide_eq_true_eq, Bool.or_eq_true] at hB
  obtain ⟨⟨⟨⟨⟨⟨hsel, hn⟩, htail⟩, hlook⟩, hap⟩, hback⟩, hseq⟩ := hB
  have hap := apartB_spec hap
  have htl : (l.take n).length = n := by simp; omega
  have hdl : (l.drop n).length = l.length - n := by simp
  have hsel' : ∀ (j : Nat) (o : Oper) cs b, l.toArray[j]? = some o → o.op ≠ .select cs b := Region.noSelect_spec hsel
  have back : ∀ (j : Nat) (o : Oper), l[j]? = some o → ∀ e ∈ o.after, Region.binds .any e = true → e.on < j := fun j o hj e he hb => by
    have hj2 : (o, j) ∈ l.zipIdx := List.mem_iff_getElem?.2 ⟨j, by simp [hj]⟩
    have h1 := List.all_eq_true.1 hback _ (by simpa using hj2)
    have h2 := (Array.all_eq_true_iff_forall_mem.1 h1) e he
    simp only [hb, Bool.not_true, Bool.false_or, decide_eq_true_eq] at h2
    exact h2
  have key : ∀ (m : Nat) (listed : Array Bool) (x : Act) (W : World) (vs : Nat → Value), HeadInv .any l.toArray n listed → (∀ k, (L k).is (vs k)) → (∀ k, k < n → listed.getD k false = true → (L k).mem (vs k) W) →
      Laid (l.take n) vs a (fun j => listed.getD j false = true) x → Below w.heap.size w W →
      (List.range n).countP (fun i => !listed.getD i true) = m → Any (m + (l.length - n)) listed x W := by
    intro m
    induction m with
    | zero =>
      intro listed x W vs inv hvs hmem hx hb hc
      have hall : ∀ i, i < n → listed.getD i true = true := fun i hi => by
        have := List.countP_eq_zero.1 hc i (List.mem_range.2 hi)
        simpa using this
      have hsz : listed.size = l.length := by have := inv.size; simpa using this
      have hL : listed = ((List.range l.length).map fun i => decide (i < n)).toArray := by
        apply Array.ext
        · simp [hsz]
        · intro i h1 h2
          simp
          by_cases hi : i < n
          · have := hall i hi
            simp [Array.getD, h1] at this
            simp [this, hi]
          · have := inv.tail i (by omega) (by simpa using (by omega : i < l.length))
            simp [Array.getD, h1] at this
            simp [this, hi]
      obtain ⟨-, s', hs1, hs2, hK⟩ := wpGrowV_values _ _ _ h vs hvs (fun k hk => by simp at hk)
      simp only [List.length_nil, Nat.zero_add] at hK hs1
      rw [htl] at hK hs1
      have hx2 : x = layT (l.take n) (fun j => vs j) n a := Laid.eq (hx.congr (D' := (· < n)) fun j hj => by
        rw [htl] at hj
        have h1 := hall j hj
        have hjs : j < listed.size := by omega
        simp [Array.getD, hjs] at h1 ⊢
        simp [h1, hj]) (layT_laid hap vs a n (by omega))
      have hw := hK W hb (fun j hj => by
        rw [hs2 j (by omega)]
        refine hmem j hj ?_
        have h1 := hall j hj
        have hjs : j < listed.size := by omega
        simp [Array.getD, hjs] at h1 ⊢
        exact h1)
      rw [← hx2] at hw
      rw [Nat.zero_add]
      exact hend listed x W (by rw [hL]; exact hseq) hw
    | succ m ih =>
      intro listed x W vs inv hvs hmem hx hb hc
      have hsz : listed.size = l.length := by have := inv.size; simpa using this
      rw [show m + 1 + (l.length - n) = (m + (l.length - n)) + 1 by omega]
      refine hstep _ _ _ _ (fun hr => ?_) (fun i hi => ?_)
      · exfalso
        have hall : ∀ i, i < n → listed.getD i true = true := by
          intro i
          induction i using Nat.strongRecOn with
          | _ i ihs =>
            intro hi
            have hil : i < l.length := by omega
            have ho : l[i]? = some l[i] := by simp
            cases hx : listed.getD i true with
            | true => rfl
            | false =>
              have : i ∈ Region.ready .any l.toArray listed := mem_ready.2 ⟨hx, l[i], by simp, fun e he hbd => by
                have hlt := back i _ ho e he hbd
                have h1 := ihs e.on hlt (by omega)
                have hes : e.on < listed.size := by omega
                simp [Array.getD, hes] at h1 ⊢
                exact h1⟩
              rw [hr] at this; cases this
        have : (List.range n).countP (fun i => !listed.getD i true) = 0 := List.countP_eq_zero.2 fun i hi => by simp [hall i (List.mem_range.1 hi)]
        omega
      · obtain ⟨hun, o, ho, hall⟩ := mem_ready.1 hi
        have hil : i < l.length := by have := (Array.getElem?_eq_some_iff.1 ho).1; simpa using this
        have hin : i < n := by
          rcases Nat.lt_or_ge i n with h1 | h1
          · exact h1
          · rcases htail with ht | ⟨hs, hcn⟩
            · omega
            · obtain ⟨k, hk, hku⟩ : ∃ k, k < n ∧ listed.getD k true = false := by
                refine Classical.byContradiction fun hno => ?_
                have : (List.range n).countP (fun i => !listed.getD i true) = 0 := List.countP_eq_zero.2 fun k hk => by
                  have : ¬ listed.getD k true = false := fun h => hno ⟨k, List.mem_range.1 hk, h⟩
                  simpa using this
                omega
              exact absurd hi (tail_waits hs hcn (by simpa using (by omega : n < l.length)) inv _ k rfl hk hku i h1)
        have hol : l[i]? = some o := by simpa using ho
        have hot : (l.take n)[i]? = some o := by rw [List.getElem?_take_of_lt hin]; exact hol
        have hlaid := layT_laid hap vs a i (by omega : i ≤ (l.take n).length)
        have hsame : ∀ t ∈ o.looksAt l.toArray, x.tmps[t]? = (layT (l.take n) vs i a).tmps[t]? := by
          intro t ht
          by_cases hx2 : ∃ (j : Nat) (o' : Oper), (l.take n)[j]? = some o' ∧ o'.dst = some t
          · obtain ⟨j, o', hj, hd⟩ := hx2
            obtain ⟨e, he, hbd, hon⟩ := looksB_spec hlook hot hj hd ht
            have hdone := hall e he hbd
            have hlt := back i o hol e he hbd
            rw [hon] at hdone hlt
            by_cases hts : t < a.tmps.size
            · rw [hx.done j o' t hj hdone hd hts, hlaid.done j o' t hj hlt hd hts]
            · have g1 : x.tmps.size ≤ t := Nat.le_trans (Nat.le_of_eq hx.size) (Nat.le_of_not_lt hts)
              have g2 : (layT (l.take n) vs i a).tmps.size ≤ t := Nat.le_trans (Nat.le_of_eq hlaid.size) (Nat.le_of_not_lt hts)
              rw [Array.getElem?_eq_none g1, Array.getElem?_eq_none g2]
          · have hn2 : ∀ (D : Nat → Prop) (j : Nat) (o' : Oper), (l.take n)[j]? = some o' → D j → o'.dst ≠ some t := fun D j o' hj _ hd => hx2 ⟨j, o', hj, hd⟩
            rw [hx.else_ t (hn2 _), hlaid.else_ t (hn2 _)]
        obtain ⟨he1, he2⟩ := exec_same (hsel' i o · · ho) hsame
        have hgx : GrowsAtV P l.toArray w o (fun W => ∀ j, waitsB o j = true → j < i → (L j).mem (vs j) W) (L i) x := by
          have := (wpGrowV_values _ _ _ h vs hvs (fun k hk => by simp at hk)).1 i o hot
          simp only [List.length_nil, Nat.zero_add] at this ⊢
          unfold GrowsAtV at this ⊢
          rw [he1, he2]
          exact this
        refine ⟨o, _, L i, ho, (fun j hj hji => ?_), hb, hgx, fun v W' hvi hvm hb' => ih _ _ W' (fun k => if k = i then v else vs k) (inv.set hi hin) (fun k => ?_) (fun k hk hkl => ?_) ?_ (xtrans hb hb') ?_⟩
        · refine hmem j (by omega) ?_
          obtain ⟨e, he, hbe⟩ := Array.any_eq_true'.1 hj
          simp only [Bool.and_eq_true, beq_iff_eq] at hbe
          have := hall e he hbe.1
          rw [hbe.2] at this
          exact this
        · by_cases e : k = i
          · subst e; simpa using hvi
          · simpa [e] using hvs k
        · by_cases e : k = i
          · subst e; simpa using hvm
          · rw [getD_set_ne false (Ne.symm e)] at hkl
            simpa [e] using (L k).stays _ _ _ (hmem k hk hkl) hb'
        · have hx' : Laid (l.take n) (fun k => if k = i then v else vs k) a (fun j => listed.getD j false = true) x := ⟨hx.defers, hx.size, fun j o' d hj hD hd hlt => by
            have hne : j ≠ i := fun e => by
              subst e
              have his : j < listed.size := by omega
              simp [Array.getD, his] at hun hD
              rw [hun] at hD; cases hD
            simp only [hne, if_false]
            exact hx.done j o' d hj hD hd hlt, hx.else_⟩
          have hput := hx'.put hap hot
          simp only [if_true] at hput
          refine hput.congr fun j hj => ?_
          by_cases e : j = i
          · subst e
            have : j < listed.size := by omega
            simp [Array.getD, this]
          · rw [getD_set_ne false (Ne.symm e)]; simp [e]
        · have his : i < listed.size := by omega
          have hcnt : ∀ (r : List Nat), r.Nodup → i ∈ r → r.countP (fun j => !listed.getD j true) = r.countP (fun j => !(listed.setIfInBounds i true).getD j true) + 1 := by
            intro r
            induction r with
            | nil => intro _ h; cases h
            | cons y r ihr =>
              intro hnd hm
              rw [List.countP_cons, List.countP_cons]
              have hnd2 := List.nodup_cons.1 hnd
              by_cases e : y = i
              · subst e
                have h1 : r.countP (fun j => !listed.getD j true) = r.countP (fun j => !(listed.setIfInBounds y true).getD j true) := List.countP_congr fun j hj => by
                  have hne : y ≠ j := fun e => hnd2.1 (e ▸ hj)
                  rw [getD_set_ne true hne]
                rw [h1, hun]
                simp [Array.getD, his]
              · have hm2 : i ∈ r := by
                  rcases List.mem_cons.1 hm with h | h
                  · exact absurd h.symm e
                  · exact h
                rw [ihr hnd2.2 hm2, getD_set_ne true (Ne.symm e)]
                omega
          have := hcnt (List.range n) List.nodup_range (List.mem_range.2 hin)
          omega
  have h0 := key n (Array.replicate l.toArray.size false) a { w with drawn := w.drawn + 1 } (fun k => (L k).some_.choose)
    ⟨by simp, fun j oj _ hl => (by rw [getD_replicate_false] at hl; cases hl), fun t _ ht => getD_in (by simpa using ht) (getD_replicate_false _ _)⟩
    (fun k => (L k).some_.choose_spec) (fun k _ hk => by rw [getD_replicate_false] at hk; cases hk)
    (Laid.refl _ _ _ _ fun j => by rw [getD_replicate_false]; simp) (xdrew (xrefl w)) (by
      have : (List.range n).countP (fun i => !(Array.replicate l.toArray.size false).getD i true) = (List.range n).length := List.countP_eq_length.2 fun i hi => by
        have hi := List.mem_range.1 hi
        have : i < l.length := by omega
        simp [Array.getD, this]
      simpa using this)
  rw [show n + (l.length - n) = l.toArray.size by simp; omega] at h0
  exact h0

theorem wp_region_growV {P : Program} {id : Nat} {l : List Oper} {Q : Exit → Act → World → Prop} {a : Act} {w : World} (n : Nat) (L : Nat → Told) (hm : P.follows .mixedOrders = true) (hB : growB l n = true)
    (h : wpGrowV P l.toArray w L (fun s a' => ∀ W, Below w.heap.size w W → (∀ j, j < n → (L j).mem (s.getD j undef) W) → wpList P l.toArray Q (l.drop n) a' W) (l.take n) [] a) : (Code.region id l.toArray true).wp P Q a w := by
  refine wp_region_any hm (grow_key n L hB (fun a' W => wpList P l.toArray Q (l.drop n) a' W) (wpAny P .any l.toArray Q) ?_ ?_ h)
  · rintro m listed x W hne hs
    refine ⟨fun hr => absurd hr hne, fun i hi => ?_⟩
    obtain ⟨o, F, T, ho, hF, hb, hg, hk⟩ := hs i hi
    exact wpOp_of_growsV ho hg hb hF hk
  · intro listed x W hseq hw
    have hdl : (l.drop n).length = l.length - n := by simp
    have := wpAny_of_seq (md := .any) (Q' := Q) (l.drop n) n listed x W (fun j => by simp [List.getElem?_drop]) (by rw [hdl]; exact hseq) hw
    rwa [hdl] at this

/-! The same in a round of a loop over a function. -/
def noDeferB (l : List Oper) : Bool := l.all fun o => match o.op with
  | .defer _ => false
  | _ => true
theorem noDeferB_spec {l : List Oper} (h : noDeferB l = true) {i : Nat} {o : Oper} (ho : l[i]? = some o) : ∀ c, o.op ≠ .defer c := fun c e => by
  have := List.all_eq_true.1 h o (List.mem_iff_getElem?.2 ⟨i, ho⟩)
  rw [e] at this; cases this
theorem wpOpIn_of_growsV {P : Program} {l0 : Nat} {ops : Array Oper} {Q : Exit → Act → World → Prop} {i : Nat} {o : Oper} {F : World → Prop} {T : Told} {a : Act} {w W : World} {K : Act → World → Prop} (ho : ops[i]? = some o) (hnd : ∀ c, o.op ≠ .defer c) (h : GrowsAtV P ops w o F T a) (hb : Below w.heap.size w W) (hF : F W)
    (hK : ∀ v W', T.is v → T.mem v W' → Below W.heap.size W W' → K (a.put o.dst v) W') : wpOpIn (Fence.wide.inRound l0) 0 P ops Q i K a W := by
  unfold wpOpIn
  simp only [ho]
  rcases h with ⟨hw, hv⟩ | ⟨hw, hi, hm⟩
  · simp only [hw, if_true]
    unfold Oper.wpIn
    refine ⟨fun _ _ => trivial, ?_⟩
    rw [Oper.semAt_plain _ _ _ hnd]
    have h2 := hv W hb hF
    generalize (execOp a.eval o).run P W = r at h2
    cases r with
    | ok n W1 =>
      cases n <;> simp only [growsUponV] at h2 <;> simp only [Oper.uponIn]
      case value u => exact hK _ _ h2.1.1 h2.1.2 h2.2
      case skip => exact hK _ _ h2.1.1 h2.1.2 h2.2
      case enter f args => exact ⟨fun h => (by cases h), CallsIn.inRound l0 (callsIn_wide.2 (h2.mono fun e W'' ⟨v, he, ⟨h3, h4⟩, hb2⟩ => by subst he; exact hK _ _ h3 h4 hb2))⟩
    | halt x W1 => simp only [growsUponV] at h2
  · simp only [hw, Bool.false_eq_true, if_false]
    exact ⟨fun _ _ => trivial, hK _ _ hi (hm W) (xrefl W)⟩
theorem wpAnyIn_of_seq {F : Fence} {n : Nat} {P : Program} {ops : Array Oper} {md : Region.Mode} {Q' : Exit → Act → World → Prop} : ∀ (l : List Oper) (k : Nat) (listed : Array Bool) (a : Act) (w : World), (∀ j, l[j]? = ops[k + j]?) →
    Region.seqB md ops l.length k listed = true → wpListIn F n P ops Q' l a w → wpAnyIn F n P md ops Q' l.length listed a w
  | [], _, _, _, _, _, hB, h => ⟨by simpa [Region.seqB] using hB, h⟩
  | o :: l, k, listed, a, w, hl, hB, h => by
    have h0 : ops[k]? = some o := by simpa using (hl 0).symm
    simp only [List.length_cons, Region.seqB, Bool.and_eq_true, decide_eq_true_eq] at hB
    refine ⟨fun h1 => (by rw [hB.1] at h1; cases h1), fun i hi => ?_⟩
    rw [hB.1] at hi
    have hik : i = k := by simpa using hi
    subst hik
    have hw : wpOpIn F n P ops Q' i (wpListIn F n P ops Q' l) a w := by unfold wpOpIn; simp only [h0]; exact h
    exact wpOpIn_mono (fun a' w' h' => wpAnyIn_of_seq l (i + 1) _ a' w' (fun j => by have := hl (j + 1); simpa [Nat.add_assoc, Nat.add_comm 1 j] using this) hB.2 h') hw
theorem wpIn_region_growV {P : Program} {l0 : Nat} {id : Nat} {l : List Oper} {Q : Exit → Act → World → Prop} {a : Act} {w : World} (n : Nat) (L : Nat → Told) (hm : P.follows .mixedOrders = true) (hB : growB l n = true) (hnd : noDeferB l = true)
    (h : wpGrowV P l.toArray w L (fun s a' => ∀ W, Below w.heap.size w W → (∀ j, j < n → (L j).mem (s.getD j undef) W) → wpListIn (Fence.wide.inRound l0) 0 P l.toArray Q (l.drop n) a' W) (l.take n) [] a) : (Code.region id l.toArray true).wpIn (Fence.wide.inRound l0) 0 P Q a w := by
  refine wpIn_region_any hm (grow_key n L hB (fun a' W => wpListIn (Fence.wide.inRound l0) 0 P l.toArray Q (l.drop n) a' W) (wpAnyIn (Fence.wide.inRound l0) 0 P .any l.toArray Q) ?_ ?_ h)
  · rintro m listed x W hne hs
    refine ⟨fun hr => absurd hr hne, fun i hi => ?_⟩
    obtain ⟨o, F, T, ho, hF, hb, hg, hk⟩ := hs i hi
    exact wpOpIn_of_growsV ho (noDeferB_spec hnd (by simpa using ho)) hg hb hF hk
  · intro listed x W hseq hw
    have hdl : (l.drop n).length = l.length - n := by simp
    have := wpAnyIn_of_seq (md := .any) (Q' := Q) (l.drop n) n listed x W (fun j => by simp [List.getElem?_drop]) (by rw [hdl]; exact hseq) hw
    rwa [hdl] at this

/-- What is told, as a list. -/
def tolds (Ls : List Told) (j : Nat) : Told := Ls.getD j anyT
theorem wp_region_growL {P : Program} {id : Nat} {l : List Oper} {Q : Exit → Act → World → Prop} {a : Act} {w : World} (n : Nat) (Ls : List Told) (hm : P.follows .mixedOrders = true) (hB : growB l n = true)
    (h : wpGrowV P l.toArray w (tolds Ls) (fun s a' => ∀ W, Below w.heap.size w W → (∀ j, j < n → (tolds Ls j).mem (s.getD j undef) W) → wpList P l.toArray Q (l.drop n) a' W) (l.take n) [] a) : (Code.region id l.toArray true).wp P Q a w :=
  wp_region_growV n (tolds Ls) hm hB h
theorem wpIn_region_growL {P : Program} {l0 : Nat} {id : Nat} {l : List Oper} {Q : Exit → Act → World → Prop} {a : Act} {w : World} (n : Nat) (Ls : List Told) (hm : P.follows .mixedOrders = true) (hB : growB l n = true) (hnd : noDeferB l = true)
    (h : wpGrowV P l.toArray w (tolds Ls) (fun s a' => ∀ W, Below w.heap.size w W → (∀ j, j < n → (tolds Ls j).mem (s.getD j undef) W) → wpListIn (Fence.wide.inRound l0) 0 P l.toArray Q (l.drop n) a' W) (l.take n) [] a) : (Code.region id l.toArray true).wpIn (Fence.wide.inRound l0) 0 P Q a w :=
  wpIn_region_growV n (tolds Ls) hm hB hnd h


end Go.Proofs.YthpallkphamobaaGreatDoor
