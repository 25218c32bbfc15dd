/- A region that draws its order, by an invariant: what holds behind each set of operations that have come up; each operation is walked once. -/
import Derived.Test.YtioihjgobmbanaaBytes
import Derived.Orders
namespace Go.Proofs.Ytioihjgobmbanaa
open Go.RowKit

/-- T of each operation, numbered from k on. -/
def OpsAll (T : Nat → Oper → Prop) : List Oper → Nat → Prop
  | [], _ => True
  | o :: r, k => T k o ∧ OpsAll T r (k + 1)
theorem OpsAll.get {T : Nat → Oper → Prop} : ∀ {l : List Oper} {k : Nat}, OpsAll T l k → ∀ (i : Nat) (o : Oper), l[i]? = some o → T (k + i) o
  | [], _, _, _, _, h => by simp at h
  | x :: r, k, h, 0, o, ho => by
    have : x = o := by simpa using ho
    subst this; exact h.1
  | x :: r, k, h, i + 1, o, ho => by
    have := OpsAll.get h.2 i o (by simpa using ho)
    rwa [show k + 1 + i = k + (i + 1) by omega] at this

/-- What an operation waits for. -/
def waitsFor (o : Oper) : List Nat := o.after.toList.filterMap fun e => if Region.binds .any e then some e.on else none
/-- Each operation waits for earlier ones alone, and none is guarded. -/
def plainOps (l : List Oper) : Bool := (l.zipIdx).all fun p => p.1.guard.isNone && p.1.after.all fun e => decide (e.on < p.2)
theorem plainOps_get {l : List Oper} (h : plainOps l = true) (i : Nat) (o : Oper) (ho : l[i]? = some o) : o.guard = none ∧ ∀ e ∈ o.after, e.on < i := by
  have := List.all_eq_true.1 h (o, i) (by rw [List.mem_iff_getElem?]; exact ⟨i, by simp [ho]⟩)
  simp only [Bool.and_eq_true, Option.isNone_iff_eq_none, Array.all_eq_true, decide_eq_true_eq] at this
  refine ⟨this.1, fun e he => ?_⟩
  obtain ⟨j, hj, rfl⟩ := Array.mem_iff_getElem.1 he
  exact this.2 j hj

theorem countP_lt_of {α : Type} {p q : α → Bool} {i : α} : ∀ {l : List α}, i ∈ l → p i = true → q i = false → (∀ j, q j = true → p j = true) → l.countP q < l.countP p
  | [], h, _, _, _ => by simp at h
  | x :: r, h, hp, hq, hm => by
    have hle : r.countP q ≤ r.countP p := List.countP_mono_left fun j _ hj => hm j hj
    rcases List.mem_cons.1 h with rfl | h
    · rw [List.countP_cons, List.countP_cons, hp, hq]; simp; omega
    · have := countP_lt_of h hp hq hm
      rw [List.countP_cons, List.countP_cons]
      have := hm x
      by_cases hx : q x = true
      · rw [if_pos hx, if_pos (hm x hx)]; omega
      · rw [if_neg hx]; omega

/-- The set d and i. -/
def also (d : Nat → Bool) (i : Nat) : Nat → Bool := fun j => j == i || d j

theorem wp_region_inv {P : Program} {id : Nat} {ops : Array Oper} {Q : Exit → Act → World → Prop} {a : Act} {w : World} (hm : P.follows .mixedOrders = true) (hp : plainOps ops.toList = true)
    (I : (Nat → Bool) → Act → World → Prop) (h0 : I (fun _ => false) a w.drew)
    (hs : OpsAll (fun i o => ∀ (d : Nat → Bool) (a : Act) (w : World), d i = false → (waitsFor o).all d = true → I d a w → o.wp P a w (I (also d i)) Q) ops.toList 0)
    (hd : ∀ (d : Nat → Bool) (a : Act) (w : World), (List.range ops.size).all d = true → I d a w → Q .normal a w) : (Code.region id ops true).wp P Q a w := by
  refine wp_region_any hm ?_
  have key : ∀ (fuel : Nat) (listed : Array Bool) (a : Act) (w : World), listed.size = ops.size → I (fun j => listed.getD j false) a w → (List.range ops.size).countP (fun i => !listed.getD i true) ≤ fuel → wpAny P .any ops Q fuel listed a w := by
    intro fuel
    have two : ∀ (listed : Array Bool) (i : Nat), listed.size = ops.size → i < ops.size → listed.getD i true = listed.getD i false := by
      intro listed i hl hi
      have hin : i < listed.size := by omega
      simp [Array.getD, hin]
    induction fuel with
    | zero =>
      intro listed a w hl hI hc
      have hall : ∀ i, i < ops.size → listed.getD i true = true := by
        intro i hi
        have := List.countP_eq_zero.1 (Nat.le_zero.1 hc) i (List.mem_range.2 hi)
        simpa using this
      refine ⟨?_, hd _ a w (List.all_eq_true.2 fun i hi => ?_) hI⟩
      · refine List.filter_eq_nil_iff.2 fun i hi => ?_
        simp [hall i (List.mem_range.1 hi)]
      · rw [← two listed i hl (List.mem_range.1 hi)]
        exact hall i (List.mem_range.1 hi)
    | succ fuel ih =>
      intro listed a w hl hI hc
      refine ⟨fun hr => ?_, fun i hi => ?_⟩
      · have hall : ∀ n i, i < n → i < ops.size → listed.getD i true = true := by
          intro n
          induction n with
          | zero => intro i h; omega
          | succ n ihn =>
            intro i h hi
            have hno := List.filter_eq_nil_iff.1 hr i (List.mem_range.2 hi)
            have ho : ops.toList[i]? = some ops[i] := by simp [hi]
            have hp2 := (plainOps_get hp i _ ho).2
            by_cases hx : listed.getD i true = true
            · exact hx
            · exfalso
              refine hno ?_
              have hx' : listed.getD i true = false := by simpa using hx
              rw [hx']
              simp only [Bool.not_false, Bool.true_and]
              rw [show ops[i]? = some ops[i] by simp [hi]]
              simp only [Option.map_some, Option.getD_some]
              rw [Array.all_eq_true]
              intro j hj
              have hlt := hp2 _ (Array.getElem_mem hj)
              have h9 := ihn (ops[i].after[j]).on (by omega) (by omega)
              rw [two listed _ hl (by omega)] at h9
              rw [h9]; simp
        exact hd _ a w (List.all_eq_true.2 fun i hi => by rw [← two listed i hl (List.mem_range.1 hi)]; exact hall (i + 1) i (by omega) (List.mem_range.1 hi)) hI
      · obtain ⟨hun, o, ho, hall⟩ := mem_ready.1 hi
        have hlt : i < ops.size := (Array.getElem?_eq_some_iff.1 ho).1
        have hltl : i < listed.size := by omega
        have ho' : ops.toList[i]? = some o := by simpa using ho
        unfold wpOp
        rw [ho]
        have hg := (plainOps_get hp i o ho').1
        have hw : Region.wanted o (yielded ops a.tmps) = true := by simp [Region.wanted, hg]
        simp only [hw, if_true]
        refine .inl ?_
        have hstep := OpsAll.get hs i o ho'
        rw [Nat.zero_add] at hstep
        refine Oper.wp_mono ?_ (hstep (fun j => listed.getD j false) a w (by rw [← two listed i hl hlt]; exact hun) ?_ hI)
        · intro a' w' hK
          refine ih (listed.setIfInBounds i true) a' w' (by simpa using hl) ?_ ?_
          · have : (fun j => (listed.setIfInBounds i true).getD j false) = also (fun j => listed.getD j false) i := by
              funext j
              unfold also
              by_cases e : j = i
              · subst e; simp [Array.getD, hltl]
              · rw [getD_set_ne false (Ne.symm e)]; simp [e]
            rw [this]; exact hK
          · have hlt2 : (List.range ops.size).countP (fun j => !(listed.setIfInBounds i true).getD j true) < (List.range ops.size).countP (fun j => !listed.getD j true) := by
              refine countP_lt_of (i := i) (List.mem_range.2 hlt) (by simp [hun]) (by simp [Array.getD, hltl]) ?_
              intro j hj
              by_cases e : j = i
              · subst e; simp [Array.getD, hltl] at hj
              · rw [getD_set_ne true (Ne.symm e)] at hj; exact hj
            omega
        · refine List.all_eq_true.2 fun x hx => ?_
          obtain ⟨e, he, hex⟩ := List.mem_filterMap.1 hx
          split at hex
          · rename_i hb
            have : e.on = x := by simpa using hex
            subst this
            exact hall e (by simpa using he) hb
          · simp at hex
  refine key _ _ _ _ (by simp) ?_ ?_
  · have : (fun j => (Array.replicate ops.size false).getD j false) = fun _ => false := by
      funext j
      by_cases h : j < ops.size <;> simp [Array.getD, h]
    rw [this]; exact h0
  · exact Nat.le_trans List.countP_le_length (by simp)

end Go.Proofs.Ytioihjgobmbanaa
