/- A region that draws its order, whose operations yield fixed values and let memory grow alone, ahead of a tail: walked once, in the text's order. -/
import Derived.StillTail
import Derived.Test.YtijkdabmegbcjaaDoorM01
set_option linter.all false
namespace Go.Proofs.YtijkdabmegbcjaaDoor
open Go.RowKit

/-- What an operation came to: the value v, memory having grown. -/
def growsUpon (P : Program) (W : World) (v : Value) : Result Next → Prop
  | .ok (.value u) W' => u = v ∧ Below W.heap.size W W'
  | .ok .skip W' => v = undef ∧ Below W.heap.size W W'
  | .ok (.enter f args) W1 => Calls P f args W1 fun e W' => e = .returned v ∧ Below W.heap.size W W'
  | _ => False
@[go_sem] theorem growsUpon_value (P : Program) (W W' : World) (u v : Value) : growsUpon P W v (.ok (.value u) W') = (u = v ∧ Below W.heap.size W W') := rfl
@[go_sem] theorem growsUpon_skip (P : Program) (W W' : World) (v : Value) : growsUpon P W v (.ok .skip W') = (v = undef ∧ Below W.heap.size W W') := rfl
@[go_sem] theorem growsUpon_enter (P : Program) (W W' : World) (v : Value) (f : FuncId) (args : Array Value) : growsUpon P W v (.ok (.enter f args) W') = Calls P f args W' fun e W'' => e = .returned v ∧ Below W.heap.size W W'' := rfl

def GrowsAt (P : Program) (ops : Array Oper) (w : World) (o : Oper) (v : Value) (a : Act) : Prop :=
  (Region.wanted o (yielded ops a.tmps) = true ∧ ∀ W, Below w.heap.size w W → growsUpon P W v ((execOp a.eval o).run P W)) ∨ (Region.wanted o (yielded ops a.tmps) = false ∧ v = undef)

/-- The operations in the text's order. -/
def wpGrow (P : Program) (ops : Array Oper) (w : World) (K : Act → Prop) : List Oper → Act → Prop
  | [], a => K a
  | o :: rest, a => ∃ v, GrowsAt P ops w o v a ∧ wpGrow P ops w K rest (a.put o.dst v)

theorem wpGrow_nil {P : Program} {ops : Array Oper} {w : World} {K : Act → Prop} {a : Act} (h : K a) : wpGrow P ops w K [] a := h
theorem wpGrow_op {P : Program} {ops : Array Oper} {w : World} {K : Act → Prop} {o : Oper} {rest : List Oper} {a : Act} (v : Value) (hw : Region.wanted o (yielded ops a.tmps) = true)
    (hv : ∀ W, Below w.heap.size w W → growsUpon P W v ((execOp a.eval o).run P W)) (h : wpGrow P ops w K rest (a.put o.dst v)) : wpGrow P ops w K (o :: rest) a := ⟨v, .inl ⟨hw, hv⟩, h⟩
theorem wpGrow_not {P : Program} {ops : Array Oper} {w : World} {K : Act → Prop} {o : Oper} {rest : List Oper} {a : Act} (hw : Region.wanted o (yielded ops a.tmps) = false)
    (h : wpGrow P ops w K rest (a.put o.dst undef)) : wpGrow P ops w K (o :: rest) a := ⟨undef, .inr ⟨hw, rfl⟩, h⟩

/-- The frame behind the first i operations, in the text's order. -/
def layT : List Oper → (Nat → Value) → Nat → Act → Act
  | _, _, 0, a => a
  | [], _, _ + 1, a => a
  | o :: l, vs, i + 1, a => layT l (fun j => vs (j + 1)) i (a.put o.dst (vs 0))

theorem wpGrow_values {P : Program} {ops : Array Oper} {w : World} {K : Act → Prop} : ∀ (l : List Oper) (a : Act), wpGrow P ops w K l a →
    ∃ vs : Nat → Value, (∀ (i : Nat) (o : Oper), l[i]? = some o → GrowsAt P ops w o (vs i) (layT l vs i a)) ∧ K (layT l vs l.length a)
  | [], a, h => ⟨fun _ => undef, fun i o ho => by simp at ho, h⟩
  | o :: l, a, ⟨v, hg, h⟩ => by
    obtain ⟨vs, h1, h2⟩ := wpGrow_values l _ h
    refine ⟨fun j => match j with | 0 => v | j + 1 => vs j, ?_, h2⟩
    rintro (_ | i) o' ho
    · obtain rfl : o = o' := by simpa using ho
      exact hg
    · exact h1 i o' (by simpa using ho)

/-- What a frame holds when the operations of D are done. -/
structure Laid (l : List Oper) (vs : Nat → Value) (a : Act) (D : Nat → Prop) (x : Act) : Prop where
  defers : x.defers = a.defers
  size : x.tmps.size = a.tmps.size
  done : ∀ (j : Nat) (o : Oper) (d : Tmp), l[j]? = some o → D j → o.dst = some d → d < a.tmps.size → x.tmps[d]? = some (vs j)
  else_ : ∀ t, (∀ (j : Nat) (o : Oper), l[j]? = some o → D j → o.dst ≠ some t) → x.tmps[t]? = a.tmps[t]?

/-- No two write to one slot. -/
def Apart (l : List Oper) : Prop := ∀ (i j : Nat) (o o' : Oper) (d : Tmp), l[i]? = some o → l[j]? = some o' → o.dst = some d → o'.dst = some d → i = j

theorem Laid.put {l : List Oper} {vs : Nat → Value} {a x : Act} {D : Nat → Prop} (hap : Apart l) (h : Laid l vs a D x) {i : Nat} {o : Oper} (ho : l[i]? = some o) : Laid l vs a (fun j => j = i ∨ D j) (x.put o.dst (vs i)) := by
  cases hd : o.dst with
  | none =>
    refine ⟨h.defers, h.size, fun j o' d hj hD hdd hlt => ?_, fun t ht => h.else_ t fun j o' hj hD => ht j o' hj (.inr hD)⟩
    rcases hD with rfl | hD
    · have : o = o' := Option.some.inj (ho.symm.trans hj)
      subst this
      rw [hd] at hdd; cases hdd
    · exact h.done j o' d hj hD hdd hlt
  | some d0 =>
    refine ⟨h.defers, by simp [Act.put, h.size], fun j o' d hj hD hdd hlt => ?_, fun t ht => ?_⟩
    · by_cases e : j = i
      · subst e
        have : o = o' := Option.some.inj (ho.symm.trans hj)
        subst this
        have : d0 = d := Option.some.inj (hd.symm.trans hdd)
        subst this
        simp [Act.put, Array.getElem?_setIfInBounds, h.size, hlt]
      · have hne : d0 ≠ d := fun e2 => e (hap j i o' o d hj ho hdd (by rw [hd, e2]))
        simp only [Act.put, Array.getElem?_setIfInBounds_ne hne]
        exact h.done j o' d hj (hD.resolve_left e) hdd hlt
    · have hne : d0 ≠ t := fun e2 => ht i o ho (.inl rfl) (by rw [hd, e2])
      simp only [Act.put, Array.getElem?_setIfInBounds_ne hne]
      exact h.else_ t fun j o' hj hD => ht j o' hj (.inr hD)

theorem Laid.refl (l : List Oper) (vs : Nat → Value) (a : Act) (D : Nat → Prop) (h : ∀ j, ¬ D j) : Laid l vs a D a := ⟨rfl, rfl, fun j _ _ _ hD => absurd hD (h j), fun _ _ => rfl⟩
theorem Laid.congr {l : List Oper} {vs : Nat → Value} {a x : Act} {D D' : Nat → Prop} (h : Laid l vs a D x) (hD : ∀ j, j < l.length → (D j ↔ D' j)) : Laid l vs a D' x :=
  ⟨h.defers, h.size, fun j o d hj hd => h.done j o d hj ((hD j (List.getElem?_eq_some_iff.1 hj).1).2 hd), fun t ht => h.else_ t fun j o hj hd => ht j o hj ((hD j (List.getElem?_eq_some_iff.1 hj).1).1 hd)⟩

theorem layT_succ : ∀ (l : List Oper) (vs : Nat → Value) (i : Nat) (a : Act) (o : Oper), l[i]? = some o → layT l vs (i + 1) a = (layT l vs i a).put o.dst (vs i)
  | [], _, _, _, _, h => by simp at h
  | x :: l, vs, 0, a, o, h => by
    obtain rfl : x = o := by simpa using h
    cases l <;> rfl
  | x :: l, vs, i + 1, a, o, h => by
    rw [layT, layT_succ l _ i _ o (by simpa using h)]
    rfl
theorem layT_laid {l : List Oper} (hap : Apart l) (vs : Nat → Value) (a : Act) : ∀ i, i ≤ l.length → Laid l vs a (· < i) (layT l vs i a)
  | 0, _ => by
    have : layT l vs 0 a = a := by cases l <;> rfl
    rw [this]
    exact Laid.refl l vs a _ (by omega)
  | i + 1, h => by
    have ho : l[i]? = some l[i] := by simp
    rw [layT_succ l vs i a _ ho]
    exact ((layT_laid hap vs a i (by omega)).put hap ho).congr fun j _ => by omega

theorem Laid.eq {l : List Oper} {vs : Nat → Value} {a x y : Act} {D : Nat → Prop} (h : Laid l vs a D x) (k : Laid l vs a D y) : x = y := by
  have ht : x.tmps = y.tmps := by
    apply Array.ext_getElem?
    intro t
    by_cases hx : ∃ (j : Nat) (o : Oper), l[j]? = some o ∧ D j ∧ o.dst = some t
    · obtain ⟨j, o, hj, hD, hd⟩ := hx
      by_cases hlt : t < a.tmps.size
      · rw [h.done j o t hj hD hd hlt, k.done j o t hj hD hd hlt]
      · rw [Array.getElem?_eq_none (by rw [h.size]; omega), Array.getElem?_eq_none (by rw [k.size]; omega)]
    · have hn : ∀ (j : Nat) (o : Oper), l[j]? = some o → D j → o.dst ≠ some t := fun j o hj hD hd => hx ⟨j, o, hj, hD, hd⟩
      rw [h.else_ t hn, k.else_ t hn]
  have hd : x.defers = y.defers := h.defers.trans k.defers.symm
  cases x; cases y; simp at ht hd; subst ht hd; rfl

/-- What an operation looks at, of what the region writes, it waits for. -/
def looksB (l : List Oper) (ops : Array Oper) : Bool :=
  l.all fun o => l.zipIdx.all fun p => match p.1.dst with
    | some d => !(o.looksAt ops).contains d || o.after.any fun e => Region.binds .any e && e.on == p.2
    | none => true
def apartB (l : List Oper) : Bool := l.zipIdx.all fun p => l.zipIdx.all fun q => p.2 == q.2 || match p.1.dst with
    | some d => q.1.dst != some d
    | none => true
def backB (ops : Array Oper) : Bool := ops.toList.zipIdx.all fun p => p.1.after.all fun e => !Region.binds .any e || decide (e.on < p.2)
def growB (l : List Oper) (n : Nat) : Bool :=
  Region.noSelect l.toArray && decide (n ≤ l.length) && (decide (n = l.length) || Region.sinkB .any l.toArray n && Region.chainB .any l.toArray n) && looksB (l.take n) l.toArray && apartB (l.take n) && backB l.toArray &&
    Region.seqB .any l.toArray (l.length - n) n ((List.range l.length).map fun i => decide (i < n)).toArray

theorem apartB_spec {l : List Oper} (h : apartB l = true) : Apart l := by
  intro i j o o' d hi hj hd hd'
  have hi2 : (o, i) ∈ l.zipIdx := List.mem_iff_getElem?.2 ⟨i, by simp [hi]⟩
  have hj2 : (o', j) ∈ l.zipIdx := List.mem_iff_getElem?.2 ⟨j, by simp [hj]⟩
  have h1 := List.all_eq_true.1 (List.all_eq_true.1 h _ hi2) _ hj2
  simp only [hd, hd', Bool.or_eq_true, beq_iff_eq] at h1
  rcases h1 with h1 | h1
  · exact h1
  · simp at h1
theorem looksB_spec {l : List Oper} {ops : Array Oper} (h : looksB l ops = true) {i j : Nat} {o o' : Oper} {d : Tmp} (hi : l[i]? = some o) (hj : l[j]? = some o') (hd : o'.dst = some d) (hm : d ∈ o.looksAt ops) :
    ∃ e ∈ o.after, Region.binds .any e = true ∧ e.on = j := by
  have hi2 : o ∈ l := List.mem_iff_getElem?.2 ⟨i, hi⟩
  have hj2 : (o', j) ∈ l.zipIdx := List.mem_iff_getElem?.2 ⟨j, by simp [hj]⟩
  have h1 := List.all_eq_true.1 (List.all_eq_true.1 h _ hi2) _ hj2
  simp only [hd, Bool.or_eq_true, Bool.not_eq_true'] at h1
  rcases h1 with h1 | h1
  · have : (o.looksAt ops).contains d = true := List.contains_iff_mem.2 hm
    rw [this] at h1; cases h1
  · obtain ⟨e, he, hb⟩ := Array.any_eq_true'.1 h1
    simp only [Bool.and_eq_true, beq_iff_eq] at hb
    exact ⟨e, he, hb.1, hb.2⟩

/-- Two frames that hold the same where an operation looks. -/
theorem exec_same {ops : Array Oper} {o : Oper} {x y : Act} (hs : ∀ cs b, o.op ≠ .select cs b) (h : ∀ t ∈ o.looksAt ops, x.tmps[t]? = y.tmps[t]?) :
    execOp x.eval o = execOp y.eval o ∧ Region.wanted o (yielded ops x.tmps) = Region.wanted o (yielded ops y.tmps) := by
  refine ⟨execOp_congr o hs fun z hz => ?_, ?_⟩
  · cases z with
    | tmp t =>
      have := h t (List.mem_append_left _ (List.mem_filterMap.2 ⟨.tmp t, by simpa using hz, rfl⟩))
      simp [Act.eval, this]
    | _ => rfl
  · unfold Region.wanted
    cases hg : o.guard with
    | none => rfl
    | some gw =>
      obtain ⟨g, want⟩ := gw
      have hy : yielded ops x.tmps g = yielded ops y.tmps g := by
        unfold yielded
        cases ht : (ops[g]?).bind (·.dst) with
        | none => rfl
        | some t =>
          have := h t (by simp [Oper.looksAt, hg, ht])
          simp [this]
      simp only [hy]

theorem wpOp_of_grows {P : Program} {ops : Array Oper} {Q : Exit → Act → World → Prop} {i : Nat} {o : Oper} {v : Value} {a : Act} {w W : World} {K : Act → World → Prop} (ho : ops[i]? = some o) (h : GrowsAt P ops w o v a) (hb : Below w.heap.size w W)
    (hK : ∀ W', Below w.heap.size w W' → K (a.put o.dst v) W') : wpOp P ops Q i K a W := by
  unfold wpOp
  simp only [ho]
  rcases h with ⟨hw, hv⟩ | ⟨hw, rfl⟩
  · simp only [hw, if_true]
    refine .inl ?_
    unfold Oper.wp
    have h2 := hv W hb
    generalize (execOp a.eval o).run P W = r at h2
    cases r with
    | ok n W1 =>
      cases n <;> simp only [growsUpon] at h2 <;> simp only [Oper.upon]
      case value u => obtain ⟨rfl, hb2⟩ := h2; exact hK _ (xtrans hb hb2)
      case skip => obtain ⟨rfl, hb2⟩ := h2; exact hK _ (xtrans hb hb2)
      case enter f args => exact h2.mono fun e W'' ⟨he, hb2⟩ => by subst he; exact hK _ (xtrans hb hb2)
    | halt x W1 => simp only [growsUpon] at h2
  · simp only [hw, Bool.false_eq_true, if_false]
    exact hK _ hb

theorem wp_region_grow {P : Program} {id : Nat} {l : List Oper} {Q : Exit → Act → World → Prop} {a : Act} {w : World} (n : Nat) (hm : P.follows .mixedOrders = true) (hB : growB l n = true)
    (h : wpGrow P l.toArray w (fun a' => ∀ W, Below w.heap.size w W → wpList P l.toArray Q (l.drop n) a' W) (l.take n) a) : (Code.region id l.toArray true).wp P Q a w := by
  simp only [growB, Bool.and_eq_true, decide_eq_true_eq, Bool.or_eq_true] at hB
  obtain ⟨⟨⟨⟨⟨⟨hsel, hn⟩, htail⟩, hlook⟩, hap⟩, hback⟩, hseq⟩ := hB
  have hap := apartB_spec hap
  obtain ⟨vs, hg, hK⟩ := wpGrow_values _ _ h
  have htl : (l.take n).length = n := by simp; omega
  have hdl : (l.drop n).length = l.length - n := by simp
  rw [htl] at hK
  have hsel' : ∀ (j : Nat) (o : Oper) cs b, l.toArray[j]? = some o → o.op ≠ .select cs b := Region.noSelect_spec hsel
  have back : ∀ (j : Nat) (o : Oper), l[j]? = some o → ∀ e ∈ o.after, Region.binds .any e = true → e.on < j := fun j o hj e he hb => by
    have hj2 : (o, j) ∈ l.zipIdx := List.mem_iff_getElem?.2 ⟨j, by simp [hj]⟩
    have h1 := List.all_eq_true.1 hback _ (by simpa using hj2)
    have h2 := (Array.all_eq_true_iff_forall_mem.1 h1) e he
    simp only [hb, Bool.not_true, Bool.false_or, decide_eq_true_eq] at h2
    exact h2
  refine wp_region_any hm ?_
  have key : ∀ (m : Nat) (listed : Array Bool) (x : Act) (W : World), HeadInv .any l.toArray n listed → Laid (l.take n) vs a (fun j => listed.getD j false = true) x → Below w.heap.size w W →
      (List.range n).countP (fun i => !listed.getD i true) = m → wpAny P .any l.toArray Q (m + (l.length - n)) listed x W := by
    intro m
    induction m with
    | zero =>
      intro listed x W inv hx hb hc
      have hall : ∀ i, i < n → listed.getD i true = true := fun i hi => by
        have := List.countP_eq_zero.1 hc i (List.mem_range.2 hi)
        simpa using this
      have hsz : listed.size = l.length := by have := inv.size; simpa using this
      have hL : listed = ((List.range l.length).map fun i => decide (i < n)).toArray := by
        apply Array.ext
        · simp [hsz]
        · intro i h1 h2
          simp
          by_cases hi : i < n
          · have := hall i hi
            simp [Array.getD, h1] at this
            simp [this, hi]
          · have := inv.tail i (by omega) (by simpa using (by omega : i < l.length))
            simp [Array.getD, h1] at this
            simp [this, hi]
      have hx2 : x = layT (l.take n) vs n a := Laid.eq (hx.congr (D' := (· < n)) fun j hj => by
        rw [htl] at hj
        have h1 := hall j hj
        have hjs : j < listed.size := by omega
        simp [Array.getD, hjs] at h1 ⊢
        simp [h1, hj]) (layT_laid hap vs a n (by omega))
      have hw := hK W hb
      rw [← hx2] at hw
      have := wpAny_of_seq (md := .any) (Q' := Q) (l.drop n) n listed x W (fun j => by simp [List.getElem?_drop]) (by rw [hdl, hL]; exact hseq) hw
      rw [hdl] at this
      rwa [Nat.zero_add]
    | succ m ih =>
      intro listed x W inv hx hb hc
      have hsz : listed.size = l.length := by have := inv.size; simpa using this
      rw [show m + 1 + (l.length - n) = (m + (l.length - n)) + 1 by omega]
      refine ⟨fun hr => ?_, fun i hi => ?_⟩
      · exfalso
        have hall : ∀ i, i < n → listed.getD i true = true := by
          intro i
          induction i using Nat.strongRecOn with
          | _ i ihs =>
            intro hi
            have hil : i < l.length := by omega
            have ho : l[i]? = some l[i] := by simp
            cases hx : listed.getD i true with
            | true => rfl
            | false =>
              have : i ∈ Region.ready .any l.toArray listed := mem_ready.2 ⟨hx, l[i], by simp, fun e he hbd => by
                have hlt := back i _ ho e he hbd
                have h1 := ihs e.on hlt (by omega)
                have hes : e.on < listed.size := by omega
                simp [Array.getD, hes] at h1 ⊢
                exact h1⟩
              rw [hr] at this; cases this
        have : (List.range n).countP (fun i => !listed.getD i true) = 0 := List.countP_eq_zero.2 fun i hi => by simp [hall i (List.mem_range.1 hi)]
        omega
      · obtain ⟨hun, o, ho, hall⟩ := mem_ready.1 hi
        have hil : i < l.length := by have := (Array.getElem?_eq_some_iff.1 ho).1; simpa using this
        have hin : i < n := by
          rcases Nat.lt_or_ge i n with h1 | h1
          · exact h1
          · rcases htail with ht | ⟨hs, hcn⟩
            · omega
            · obtain ⟨k, hk, hku⟩ : ∃ k, k < n ∧ listed.getD k true = false := by
                refine Classical.byContradiction fun hno => ?_
                have : (List.range n).countP (fun i => !listed.getD i true) = 0 := List.countP_eq_zero.2 fun k hk => by
                  have : ¬ listed.getD k true = false := fun h => hno ⟨k, List.mem_range.1 hk, h⟩
                  simpa using this
                omega
              exact absurd hi (tail_waits hs hcn (by simpa using (by omega : n < l.length)) inv _ k rfl hk hku i h1)
        have hol : l[i]? = some o := by simpa using ho
        have hot : (l.take n)[i]? = some o := by rw [List.getElem?_take_of_lt hin]; exact hol
        have hlaid := layT_laid hap vs a i (by omega : i ≤ (l.take n).length)
        have hsame : ∀ t ∈ o.looksAt l.toArray, x.tmps[t]? = (layT (l.take n) vs i a).tmps[t]? := by
          intro t ht
          by_cases hx2 : ∃ (j : Nat) (o' : Oper), (l.take n)[j]? = some o' ∧ o'.dst = some t
          · obtain ⟨j, o', hj, hd⟩ := hx2
            obtain ⟨e, he, hbd, hon⟩ := looksB_spec hlook hot hj hd ht
            have hdone := hall e he hbd
            have hlt := back i o hol e he hbd
            rw [hon] at hdone hlt
            by_cases hts : t < a.tmps.size
            · rw [hx.done j o' t hj hdone hd hts, hlaid.done j o' t hj hlt hd hts]
            · have g1 : x.tmps.size ≤ t := Nat.le_trans (Nat.le_of_eq hx.size) (Nat.le_of_not_lt hts)
              have g2 : (layT (l.take n) vs i a).tmps.size ≤ t := Nat.le_trans (Nat.le_of_eq hlaid.size) (Nat.le_of_not_lt hts)
              rw [Array.getElem?_eq_none g1, Array.getElem?_eq_none g2]
          · have hn2 : ∀ (D : Nat → Prop) (j : Nat) (o' : Oper), (l.take n)[j]? = some o' → D j → o'.dst ≠ some t := fun D j o' hj _ hd => hx2 ⟨j, o', hj, hd⟩
            rw [hx.else_ t (hn2 _), hlaid.else_ t (hn2 _)]
        obtain ⟨he1, he2⟩ := exec_same (hsel' i o · · ho) hsame
        have hgx : GrowsAt P l.toArray w o (vs i) x := by
          have := hg i o hot
          unfold GrowsAt at this ⊢
          rw [he1, he2]
          exact this
        refine wpOp_of_grows ho hgx hb fun W' hb' => ih _ _ W' (inv.set hi hin) ?_ hb' ?_
        · refine (hx.put hap hot).congr fun j hj => ?_
          by_cases e : j = i
          · subst e
            have : j < listed.size := by omega
            simp [Array.getD, this]
          · rw [getD_set_ne false (Ne.symm e)]; simp [e]
        · have his : i < listed.size := by omega
          have hcnt : ∀ (r : List Nat), r.Nodup → i ∈ r → r.countP (fun j => !listed.getD j true) = r.countP (fun j => !(listed.setIfInBounds i true).getD j true) + 1 := by
            intro r
            induction r with
            | nil => intro _ h; cases h
            | cons y r ihr =>
              intro hnd hm
              rw [List.countP_cons, List.countP_cons]
              have hnd2 := List.nodup_cons.1 hnd
              by_cases e : y = i
              · subst e
                have h1 : r.countP (fun j => !listed.getD j true) = r.countP (fun j => !(listed.setIfInBounds y true).getD j true) := List.countP_congr fun j hj => by
                  have hne : y ≠ j := fun e => hnd2.1 (e ▸ hj)
                  rw [getD_set_ne true hne]
                rw [h1, hun]
                simp [Array.getD, his]
              · have hm2 : i ∈ r := by
                  rcases List.mem_cons.1 hm with h | h
                  · exact absurd h.symm e
                  · exact h
                rw [ihr hnd2.2 hm2, getD_set_ne true (Ne.symm e)]
                omega
          have := hcnt (List.range n) List.nodup_range (List.mem_range.2 hin)
          omega
  have h0 := key n (Array.replicate l.toArray.size false) a { w with drawn := w.drawn + 1 }
    ⟨by simp, fun j oj _ hl => (by rw [getD_replicate_false] at hl; cases hl), fun t _ ht => getD_in (by simpa using ht) (getD_replicate_false _ _)⟩
    (Laid.refl _ _ _ _ fun j => by rw [getD_replicate_false]; simp) (xdrew (xrefl w)) (by
      have : (List.range n).countP (fun i => !(Array.replicate l.toArray.size false).getD i true) = (List.range n).length := List.countP_eq_length.2 fun i hi => by
        have hi := List.mem_range.1 hi
        have : i < l.length := by omega
        simp [Array.getD, this]
      simpa using this)
  rw [show n + (l.length - n) = l.toArray.size by simp; omega] at h0
  exact h0

/-- A load of a whole array. -/
theorem wpGrow_load_blk {P : Program} {ops : Array Oper} {w : World} {K : Act → Prop} {o : Oper} {rest : List Oper} {a : Act} (hgd : o.guard = none) (ty : TypeId) (x : Operand) (ho : o.op = .load ty x)
    (b : Nat) (hx : a.eval x = .pointer (some ⟨b, 0, none⟩)) (q : IntKind) (T : TypeId) (l : List Int) (n : Nat) (e : TypeId) (hB : Blk q w b T l) (hu : P.underlying ty = some (.array n e)) (hi : (P.info? ty).map (·.size) = some l.length)
    (h : wpGrow P ops w K rest (a.put o.dst (.agg (l.map (Value.int q)).toArray))) : wpGrow P ops w K (o :: rest) a := by
  refine wpGrow_op _ (by simp [Region.wanted, hgd]) (fun W hb => ?_) h
  have hW := hB.below hb
  have hr : (execOp a.eval o).run P W = .ok (.value (.agg (l.map (Value.int q)).toArray)) W := by
    unfold execOp
    have hc : W.rangeAt b 0 (l.map (Value.int q)) := fun j v hj => by
      rw [Nat.zero_add]
      rw [List.getElem?_map] at hj
      obtain ⟨y, hy, rfl⟩ := Option.map_eq_some_iff.1 hj
      obtain ⟨hlt, rfl⟩ := List.getElem?_eq_some_iff.1 hy
      exact hW.cell j hlt
    simp only [ho, hx, Instr.loadAt, Instr.sureAddr, Sem.run_bind, Sem.run_pure, Result.andThen_ok, run_loadVar_mid W b 0 ty _ _ hc hu rfl (by simpa using hi)]
  rw [hr]
  exact ⟨rfl, xrefl W⟩

end Go.Proofs.YtijkdabmegbcjaaDoor
