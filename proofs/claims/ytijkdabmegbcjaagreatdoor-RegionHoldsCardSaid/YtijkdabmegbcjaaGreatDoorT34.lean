/- Texts of this claim, merged; no condition. -/
import Derived.Test.YtijkdabmegbcjaaGreatDoorT33
import Derived.Test.YtijkdabmegbcjaaGreatDoorT14
import Derived.Test.YtijkdabmegbcjaaGreatDoorTA
set_option linter.all false
namespace Go.Proofs.YtijkdabmegbcjaaGreatDoor
section
open Go.RowKit Go.Shelf
def MapB (lo : Nat) (w : World) (mb : Nat) (bs : List BlkN) : Prop := ∃ l, w.heap[mb]? = some (mapI .i64 l) ∧ l.length = bs.length ∧
  ∀ j (h : j < bs.length), ∃ p q, l[j]? = some ((bs[j].first : Int), blkV p q bs[j]) ∧ IntsAt w p q bs[j].next ∧ (bs[j].next ≠ [] → ∀ x, p = some x → lo ≤ x.block)
theorem MapB.below {lo : Nat} {w w' : World} {mb : Nat} {bs : List BlkN} (h : MapB lo w mb bs) (hb : Below w.heap.size w w') : MapB lo w' mb bs := by
  obtain ⟨l, h1, h2, h3⟩ := h
  refine ⟨l, (hb.block mb (Array.getElem?_eq_some_iff.1 h1).1).trans h1, h2, fun j hj => ?_⟩
  obtain ⟨p, q, e, hI, hx⟩ := h3 j hj
  exact ⟨p, q, e, hI.below hb, hx⟩
theorem IntsAt.map_off {w w' : World} {mb : Nat} {q : IntKind} {l : List (Int × Value)} {a : Option Addr} {c : Nat} {L : List Nat} (h : IntsAt w a c L) (hm : w.heap[mb]? = some (mapI q l)) (ho : Only (· = mb) w w') : IntsAt w' a c L :=
  h.only0 ho fun h0 x hx e => by
    obtain ⟨b, o, e', hc⟩ := h.get (i := 0) (List.length_pos_iff.2 h0)
    rw [e'] at hx; cases hx
    have e2 : b = mb := e
    subst e2
    exact map_not_cell hm hc
theorem MapB.find {lo : Nat} {w : World} {mb : Nat} {bs : List BlkN} (h : MapB lo w mb bs) (n : Int) : ∃ l, w.heap[mb]? = some (mapI .i64 l) ∧ ((findI n l = none ∧ ∀ b ∈ bs, (b.first : Int) ≠ n) ∨ ∃ j, ∃ hj : j < bs.length, ∃ p q, (bs[j].first : Int) = n ∧ (∀ i (hi : i < j), ((bs[i]'(by omega)).first : Int) ≠ n) ∧ findI n l = some (blkV p q bs[j]) ∧ IntsAt w p q bs[j].next ∧ (bs[j].next ≠ [] → ∀ x, p = some x → lo ≤ x.block)) := by
  obtain ⟨l, h1, h2, h3⟩ := h
  refine ⟨l, h1, ?_⟩
  clear h1
  induction bs generalizing l with
  | nil => 
    have : l = [] := List.length_eq_zero_iff.1 (by simpa using h2)
    subst this
    exact .inl ⟨rfl, by simp⟩
  | cons b bs ih =>
    match l, h2 with
    | x :: l, h2 =>
      obtain ⟨p, q, e, hI⟩ := h3 0 (by simp)
      simp only [List.getElem?_cons_zero, List.getElem_cons_zero, Option.some.injEq] at e hI
      subst e
      by_cases hn : (b.first : Int) = n
      · refine .inr ⟨0, by simp, p, q, hn, fun i hi => absurd hi (by omega), ?_, hI⟩
        unfold findI
        rw [if_pos hn.symm]; rfl
      · have ih2 := ih l (by simpa using h2) fun j hj => by
          obtain ⟨p, q, e, hI⟩ := h3 (j + 1) (by simpa using hj)
          exact ⟨p, q, by simpa using e, by simpa using hI.1, by simpa using hI.2⟩
        have hf : findI n (((b.first : Int), blkV p q b) :: l) = findI n l := by
          show (if n = (b.first : Int) then _ else _) = _
          rw [if_neg (fun e => hn e.symm)]
        rw [hf]
        rcases ih2 with ⟨e1, e2⟩ | ⟨j, hj, p', q', k1, k2, k3, k4⟩
        · exact .inl ⟨e1, fun c hc => by
            rcases List.mem_cons.1 hc with rfl | hc
            · exact hn
            · exact e2 c hc⟩
        · refine .inr ⟨j + 1, by simpa using hj, p', q', by simpa using k1, fun i hi => ?_, by simpa using k3, by simpa using k4.1, by simpa using k4.2⟩
          match i, hi with
          | 0, _ => exact hn
          | i + 1, hi => simpa using k2 i (by omega)
end
section
open Go.RowKit Go.Shelf
theorem wpList_mk {P : Program} {ops : Array Oper} {rest : List Oper} {o : Oper} {a : Act} {w : World} {Q : Exit → Act → World → Prop} (hgd : o.guard = none) (t : TypeId) (ho : o.op = .makeMap t none)
    (h : wpList P ops Q rest (a.put o.dst (.map (some w.heap.size))) (w.alloc (mapI .i64 []))) : wpList P ops Q (o :: rest) a w := by
  refine wpList_plain hgd fun _ hK => ?_
  unfold Oper.wp execOp
  simp only [ho]
  exact hK _ _ h
theorem wpList_lookI {P : Program} {ops : Array Oper} {rest : List Oper} {o : Oper} {a : Act} {w : World} {Q : Exit → Act → World → Prop} (hgd : o.guard = none) (t k e : TypeId) (q : IntKind) (x y : Operand) (c : Bool) (ho : o.op = .lookup t x y c)
    (ht : P.underlying t = some (.map k e)) (hk : P.underlying k = some (.int q)) {z : Value} (hz : ∀ w, (zeroValue e).run P w = .ok z w) (n : Int) (b : Nat) (l : List (Int × Value)) (hx : a.eval x = .map (some b)) (hy : a.eval y = .int q n) (hb : w.heap[b]? = some (mapI q l))
    (h : wpList P ops Q rest (a.put o.dst (if c then .tuple #[(findI n l).getD z, .bool (findI n l).isSome] else (findI n l).getD z)) w) : wpList P ops Q (o :: rest) a w := by
  refine wpList_plain hgd fun _ hK => ?_
  unfold Oper.wp execOp
  have := run_lookI ht hk hz n w b l c hb
  simp only [ho, hx, hy, Sem.run_bind, this, Result.andThen_ok, Sem.run_pure]
  exact hK _ _ h
end
section
open Go.RowKit
theorem putObj_same {w : World} {b : Nat} {o : Obj} (h : w.heap[b]? = some o) : w.putObj b o = w := by
  unfold World.putObj
  have : w.heap.setIfInBounds b o = w.heap := by
    apply Array.ext_getElem?
    intro i
    rw [Array.getElem?_setIfInBounds]
    split
    · rename_i e; subst e; rw [if_pos (Array.getElem?_eq_some_iff.1 h).1]; exact h.symm
    · rfl
  rw [this]
theorem entI_findIdx (q : IntKind) : ∀ (l : List (Int × Value)) (i d : Nat), d < l.length → (entI q i l).findIdx? (fun e => (e.born : Int) == ((i + d : Nat) : Int)) = some d
  | [], i, d, h => by simp at h
  | x :: l, i, 0, h => by simp [entI, List.findIdx?_cons]
  | x :: l, i, d + 1, h => by
    have ih := entI_findIdx q l (i + 1) d (by simpa using h)
    have e : ((i : Int) == ((i + (d + 1) : Nat) : Int)) = false := by rw [beq_eq_false_iff_ne]; omega
    rw [show i + (d + 1) = i + 1 + d by omega] at e ⊢
    simp only [entI, List.findIdx?_cons, e, ih]
    rfl
theorem run_storeEntry {P : Program} {t : TypeId} {q : IntKind} {b d : Nat} {l : List (Int × Value)} {w : World} (v : Value) (hb : w.heap[b]? = some (mapI q l)) (hd : d < l.length) :
    (Instr.entryStore t (.map (some b)) (.int .i64 d) v).run P w = .ok () (w.putObj b (.map ((entI q 0 l).modify d fun e => { e with val := v }).toArray l.length)) := by
  unfold mapI at hb
  have hf := entI_findIdx q l 0 d hd
  rw [Nat.zero_add] at hf
  have hi : (asInt (.int .i64 (d : Nat))).run P w = .ok (d : Int) w := by simp [asInt, asIntOf, Sem.run_bind]
  simp only [Instr.entryStore, Sem.run_bind, Result.andThen_ok, getObj, Sem.run, hb, hi, Sem.run_pure, List.findIdx?_toArray, hf, setObj]
  simp [List.modify_toArray]
  rfl
theorem run_entryI_old {P : Program} {t k e : TypeId} {q : IntKind} (ht : P.underlying t = some (.map k e)) (hk : P.underlying k = some (.int q)) (n : Int) (w : World) (b : Nat) (l : List (Int × Value)) (hb : w.heap[b]? = some (mapI q l)) (hn : n ∈ l.map (·.1)) :
    ∃ d u, ((l.map (·.1))[d]? = some n ∧ (Instr.mapEntry t (.map (some b)) (.int q n)).run P w = .ok (.tuple #[u, .int .i64 (d : Nat)]) w) ∧ ∀ v W, W.heap[b]? = some (mapI q l) → (Instr.entryStore t (.map (some b)) (.int .i64 (d : Nat)) v).run P W = .ok () (W.putObj b (mapI q (updI n v l))) := by
  have hw := hb
  unfold mapI at hb
  rcases findNow_put q n undef l 0 0 with ⟨h1, h2⟩ | ⟨d, u, h1, h2, h3, h4, h5⟩
  · exfalso
    have := congrArg (List.map (·.1)) h2
    have h6 := updI_key n undef l
    have h7 : (updI n undef l).length = l.length + 1 := by rw [h2]; simp
    have h8 : ∀ (l : List (Int × Value)), n ∈ l.map (·.1) → (updI n undef l).length = l.length := by
      intro l
      induction l with
      | nil => intro h; cases h
      | cons x l ih =>
        intro h
        unfold updI
        split
        · simp
        · rename_i hx
          rw [List.map_cons, List.mem_cons] at h
          simp [ih (h.resolve_left hx)]
    have := h8 l hn
    omega
  · rw [Nat.zero_add] at h1
    have hf : (Instr.findKey k (.int q n) (entI q 0 l)).run P w = .ok (some (d, u)) w := by
      simp [Instr.findKey, run_underlying hk, Sem.run_bind, h1]
    have hks : (Instr.keyThatStays (.int q n) (.int q n)).run P w = .ok (.int q n) w := by
      unfold Instr.keyThatStays
      rw [if_pos (by show Instr.sameBits (9999 + 1) _ _ = true; simp [Instr.sameBits])]
      simp
    have hget := entI_get q l 0 d h2
    rw [Nat.zero_add] at hget
    have hkey : l[d].1 = n := by
      rw [hget] at h3
      simpa using h3
    have h3' : (Option.map (fun x => x.key) (entI q 0 l).toArray[d]?).getD (.int q n) = .int q n := by
      rw [List.getElem?_toArray, h3]; rfl
    have h3b : (Option.map (fun x => x.born) (entI q 0 l).toArray[d]?).getD 0 = d := by
      rw [List.getElem?_toArray, hget]; rfl
    have hmod : (entI q 0 l).modify d (fun e => { e with key := .int q n }) = entI q 0 l := by
      apply List.ext_getElem?
      intro j
      rw [List.getElem?_modify]
      split
      · rename_i e
        subst e
        rw [hget, ← hkey]; rfl
      · simp
    refine ⟨d, u, ⟨by rw [List.getElem?_map, List.getElem?_eq_getElem h2]; simp [hkey], ?_⟩, fun v W hW => ?_⟩
    · simp only [Instr.mapEntry, run_underlying ht, Sem.run_bind, Result.andThen_ok, getObj, setObj, Sem.run, hb, checkKey_int hk, hf, h3', hks, h3b]
      simp [List.modify_toArray, hmod, goInt]
      exact ⟨by rw [hget]; rfl, putObj_same hw⟩
    · rw [run_storeEntry v hW h2]
      rcases findNow_put q n v l 0 0 with ⟨g1, -⟩ | ⟨d', u', g1, g2, g3, g4, g5⟩
      · rw [h1] at g1; cases g1
      · rw [Nat.zero_add, h1] at g1
        have hdd : d' = d := by simpa using (congrArg (fun x => match x with | some (some y) => y.1 | _ => 0) g1).symm
        subst hdd
        congr 2
        unfold mapI
        rw [g4]
        congr 1
        rw [← g5]
        congr 1
        apply List.ext_getElem?
        intro j
        rw [List.getElem?_modify, List.getElem?_modify]
        split
        · rename_i e
          subst e
          rw [hget, ← hkey]; rfl
        · rfl
theorem run_entryI_new {P : Program} {t k e : TypeId} {q : IntKind} (ht : P.underlying t = some (.map k e)) (hk : P.underlying k = some (.int q)) {z : Value} (hz : ∀ w, (zeroValue e).run P w = .ok z w) (n : Int) (w : World) (b : Nat) (l : List (Int × Value)) (hb : w.heap[b]? = some (mapI q l)) (hn : n ∉ l.map (·.1)) :
    (Instr.mapEntry t (.map (some b)) (.int q n)).run P w = .ok (.tuple #[z, .int .i64 (l.length : Nat)]) (w.putObj b (mapI q (l ++ [(n, z)]))) := by
  unfold mapI at hb
  rcases findNow_put q n undef l 0 0 with ⟨h1, h2⟩ | ⟨d, u, h1, h2, h3, h4, h5⟩
  · have hf : (Instr.findKey k (.int q n) (entI q 0 l)).run P w = .ok none w := by
      simp [Instr.findKey, run_underlying hk, Sem.run_bind, h1]
    simp only [Instr.mapEntry, run_underlying ht, Sem.run_bind, Result.andThen_ok, getObj, setObj, Sem.run, hb, checkKey_int hk, hf, hz]
    simp [goInt, mapI, entI_append, entI]
    rfl
  · exfalso
    have hget := entI_get q l 0 d h2
    rw [hget] at h3
    exact hn (List.mem_map.2 ⟨l[d], List.getElem_mem h2, by simpa using h3⟩)
end
section
open Go.RowKit Go.Shelf
theorem run_storeEntry_last {P : Program} {t : TypeId} {q : IntKind} {b : Nat} {l : List (Int × Value)} {n : Int} {z : Value} {w : World} (v : Value) (hb : w.heap[b]? = some (mapI q (l ++ [(n, z)]))) :
    (Instr.entryStore t (.map (some b)) (.int .i64 (l.length : Nat)) v).run P w = .ok () (w.putObj b (mapI q (l ++ [(n, v)]))) := by
  rw [run_storeEntry v hb (by simp)]
  congr 2
  unfold mapI
  simp only [List.length_append, List.length_singleton]
  congr 2
  apply List.ext_getElem?
  intro j
  rw [List.getElem?_modify]
  by_cases hj : j < l.length
  · have hc : ¬ l.length = j := by omega
    simp only [hc, if_false]
    rw [entI_get q _ 0 j (by simp; omega), entI_get q _ 0 j (by simp; omega)]
    simp [List.getElem_append_left hj]
  · by_cases e : j = l.length
    · subst e
      simp only [if_true]
      rw [entI_get q _ 0 l.length (by simp), entI_get q _ 0 l.length (by simp)]
      simp
    · have hc : ¬ l.length = j := fun h => e h.symm
      simp only [hc, if_false]
      rw [List.getElem?_eq_none (by rw [entI_len]; simp; omega), List.getElem?_eq_none (by rw [entI_len]; simp; omega)]
      rfl
structure KnL (σ : KnS) (l d : List (Int × Value)) : Prop where
  find : ∀ k : Nat, findI k l = (lookK σ k).map fun o => stV (o.getD zeroS)
  done : ∀ k : Nat, findI k d = match lookK σ k with | some (some _) => some (.bool true) | _ => none
  pos : ∀ x ∈ l.map (·.1), 0 ≤ x
  nd : (l.map (·.1)).Nodup
def KnAt (W : World) (kb db : Nat) (σ : KnS) : Prop := ∃ l d, W.heap[kb]? = some (mapI .i64 l) ∧ W.heap[db]? = some (mapI .i64 d) ∧ KnL σ l d
theorem KnL.nil : KnL [] [] [] := ⟨fun _ => rfl, fun _ => rfl, fun _ h => (by cases h), List.nodup_nil⟩
theorem KnL.open_ {σ : KnS} {l d : List (Int × Value)} (h : KnL σ l d) {k : Nat} (hk : lookK σ k = none) : KnL ((k, none) :: σ) (updI k (stV zeroS) l) d := by
  refine ⟨fun j => ?_, fun j => ?_, fun x hx => ?_, updI_nodup h.nd⟩
  · rw [updI_find, lookK_cons, h.find]
    by_cases e : j = k
    · rw [if_pos (by omega), if_pos e]; rfl
    · rw [if_neg (by omega), if_neg e]
  · rw [h.done, lookK_cons]
    by_cases e : j = k
    · rw [if_pos e, e, hk]
    · rw [if_neg e]
  · rcases (updI_key _ _ _ _).1 hx with e | e
    · omega
    · exact h.pos x e
theorem KnL.close {σ : KnS} {l d : List (Int × Value)} (h : KnL σ l d) {k : Nat} {s : StN} (hk : lookK σ k = some none) : KnL ((k, some s) :: σ) (updI k (stV s) l) (d ++ [((k : Int), .bool true)]) ∧ (k : Int) ∈ l.map (·.1) ∧ (k : Int) ∉ d.map (·.1) := by
  have hd : (k : Int) ∉ d.map (·.1) := fun hm => by
    have h1 := h.done k
    rw [hk] at h1
    obtain ⟨x, hx, e⟩ := List.mem_map.1 hm
    exact findI_none h1 x hx e
  have hl : (k : Int) ∈ l.map (·.1) := by
    have h1 := h.find k
    rw [hk] at h1
    by_cases hm : (k : Int) ∈ l.map (·.1)
    · exact hm
    · rw [findI_key hm] at h1; cases h1
  refine ⟨⟨fun j => ?_, fun j => ?_, fun x hx => ?_, updI_nodup h.nd⟩, hl, hd⟩
  · rw [updI_find, lookK_cons, h.find]
    by_cases e : j = k
    · rw [if_pos (by omega), if_pos e]; rfl
    · rw [if_neg (by omega), if_neg e]
  · have happ : ∀ d : List (Int × Value), (k : Int) ∉ d.map (·.1) → findI j (d ++ [((k : Int), .bool true)]) = if j = k then some (.bool true) else findI j d := by
      intro d
      induction d with
      | nil =>
        intro _
        show (if (j : Int) = (k : Int) then _ else _) = _
        by_cases e : j = k
        · rw [if_pos (by omega), if_pos e]
        · rw [if_neg (by omega), if_neg e]
      | cons x d ih =>
        intro hx
        rw [List.map_cons, List.mem_cons, not_or] at hx
        show (if (j : Int) = x.1 then some x.2 else findI j (d ++ _)) = _
        rw [ih hx.2]
        by_cases e : (j : Int) = x.1
        · rw [if_pos e, if_neg (fun e2 => hx.1 (by omega))]
          show _ = (if (j : Int) = x.1 then _ else _)
          rw [if_pos e]
        · rw [if_neg e]
          show _ = (if j = k then _ else (if (j : Int) = x.1 then _ else _))
          rw [if_neg e]
    rw [happ d hd, lookK_cons, h.done]
    by_cases e : j = k
    · rw [if_pos e, if_pos e]
    · rw [if_neg e, if_neg e]
  · rcases (updI_key _ _ _ _).1 hx with e | e
    · omega
    · exact h.pos x e
theorem KnAt.below {W W' : World} {kb db : Nat} {σ : KnS} (h : KnAt W kb db σ) (hb : Below W.heap.size W W') : KnAt W' kb db σ := by
  obtain ⟨l, d, h1, h2, h3⟩ := h
  exact ⟨l, d, (hb.block kb (Array.getElem?_eq_some_iff.1 h1).1).trans h1, (hb.block db (Array.getElem?_eq_some_iff.1 h2).1).trans h2, h3⟩
theorem KnAt.only {O : Nat → Prop} {W W' : World} {kb db : Nat} {σ : KnS} (h : KnAt W kb db σ) (ho : Only O W W') (h1 : ¬ O kb) (h2 : ¬ O db) : KnAt W' kb db σ := by
  obtain ⟨l, d, k1, k2, k3⟩ := h
  exact ⟨l, d, (ho.same kb (Array.getElem?_eq_some_iff.1 k1).1 h1).trans k1, (ho.same db (Array.getElem?_eq_some_iff.1 k2).1 h2).trans k2, k3⟩
def TwoK (kb db : Nat) (j : Nat) : Prop := j = kb ∨ j = db
theorem row_off {q : IntKind} {W W' : World} {kb db : Nat} {σ : KnS} {a : Option Addr} {zs : List Int} (h : RowAt q W a zs) (hk : KnAt W kb db σ) (ho : Only (TwoK kb db) W W') : RowAt q W' a zs := fun i hi => by
  obtain ⟨b, o, e, hc⟩ := h i hi
  refine ⟨b, o, e, ho.cell hc fun hb => ?_⟩
  obtain ⟨l, d, k1, k2, -⟩ := hk
  rcases hb with hb | hb
  · simp only at hb; subst hb; exact map_not_cell k1 hc
  · simp only at hb; subst hb; exact map_not_cell k2 hc
structure EnvR (cs : List Nat) (bs : List BlkN) (a : Option Addr) (c lb mb en kb db lo : Nat) (W : World) : Prop where
  code : CodeAt W a c cs
  look : BlkG W lb 146 (LookC a cs.length c mb en kb db)
  blks : MapB lo W mb bs
  n1 : ¬ TwoK kb db lb
  n2 : ¬ TwoK kb db mb
  n3 : kb ≠ db
section
variable {cs : List Nat} {bs : List BlkN} {a : Option Addr} {c lb mb en kb db lo : Nat}
theorem EnvR.below {W W' : World} (h : EnvR cs bs a c lb mb en kb db lo W) (hb : Below W.heap.size W W') : EnvR cs bs a c lb mb en kb db lo W' := ⟨h.code.below hb, h.look.below hb, h.blks.below hb, h.n1, h.n2, h.n3⟩
theorem EnvR.only {W W' : World} {σ : KnS} (h : EnvR cs bs a c lb mb en kb db lo W) (hk : KnAt W kb db σ) (ho : Only (TwoK kb db) W W') : EnvR cs bs a c lb mb en kb db lo W' := by
  refine ⟨⟨row_off h.code.row hk ho, h.code.nil, h.code.len, h.code.ok, h.code.cap⟩, h.look.only ho h.n1, ?_, h.n1, h.n2, h.n3⟩
  obtain ⟨l, h1, h2, h3⟩ := h.blks
  refine ⟨l, (ho.same mb (Array.getElem?_eq_some_iff.1 h1).1 h.n2).trans h1, h2, fun j hj => ?_⟩
  obtain ⟨p, q, e, hI, hx⟩ := h3 j hj
  exact ⟨p, q, e, ⟨row_off hI.row hk ho, hI.nil⟩, hx⟩
end
def FromR (kb db : Nat) (r : Option (StN × KnS)) (W : World) (e : Ending) (W' : World) : Prop := Only (TwoK kb db) W W' ∧ match r with
  | none => e = .panicked noneP
  | some (s, σ') => e = .returned (stV s) ∧ KnAt W' kb db σ'
def OwnT (w0 w : World) (v : Value) (l : List StN) : Prop := w.ownsRow w0.heap.size 142 5 v l.length (l.flatMap stC)
theorem ownT_nil (w0 w : World) : OwnT w0 w (.slice none 0 0) [] := ⟨rfl, .inl ⟨rfl, rfl⟩⟩
theorem own5_only {O : Nat → Prop} {w w' : World} {base size : Nat} {e : TypeId} {v : Value} {n : Nat} {xs : List Value} (h : w.ownsRow base e size v n xs) (ho : Only O w w') (hv : ∀ g, v.ownBlock = some g → ¬ O g) : w'.ownsRow base e size v n xs := by
  refine ⟨h.1, ?_⟩
  rcases h.2 with hn | ⟨g, cap, cur, rfl, hb, hg, r⟩
  · exact .inl hn
  · exact .inr ⟨g, cap, cur, rfl, hb, (ho.same g (Array.getElem?_eq_some_iff.1 hg).1 (hv g rfl)).trans hg, r⟩
theorem own5_lt {w : World} {base size : Nat} {e : TypeId} {v : Value} {n : Nat} {xs : List Value} (h : w.ownsRow base e size v n xs) {g : Nat} (hv : v.ownBlock = some g) : base ≤ g ∧ g < w.heap.size := by
  rcases h.2 with ⟨rfl, -⟩ | ⟨g', cap, cur, rfl, hb, hg, r⟩
  · cases hv
  · cases hv
    exact ⟨hb, (Array.getElem?_eq_some_iff.1 hg).1⟩
theorem stC_len (s : StN) : (stC s).length = 5 := rfl
theorem OwnT.at {w0 w : World} {v : Value} {l : List StN} (h : OwnT w0 w v l) : ∃ a c, v = .slice a l.length c ∧ StsAt w a c l := by
  have h1 := h
  unfold OwnT at h1
  obtain ⟨a, c, rfl, hr, hn, hx, hl, h0⟩ := rowV_own h1
  have hcap : l.length ≤ c := by
    rcases h1.2 with ⟨e1, e2⟩ | ⟨g, cap, cur, e1, hb, hg, r⟩
    · omega
    · injection e1 with e3 e4 e5
      have := r.1
      omega
  refine ⟨a, c, rfl, fun i hi => ?_, hcap⟩
  have hlen := flat_len 5 stC stC_len l
  have hi5 : ∀ j, j < 5 → i * 5 + j < (l.flatMap stC).length := fun j hj => by rw [hlen]; omega
  obtain ⟨b, o, rfl, -⟩ := hr (i * 5 + 0) (hi5 0 (by omega))
  refine ⟨b, o, rfl, fun j u hj => ?_⟩
  have hj5 : j < 5 := by have := (List.getElem?_eq_some_iff.1 hj).1; rwa [stC_len] at this
  obtain ⟨b', o', e', hc⟩ := hr (i * 5 + j) (hi5 j hj5)
  cases e'
  have hg := flat_get 5 stC stC_len l i j hi hj5
  rw [hj] at hg
  obtain ⟨hlt, he⟩ := List.getElem?_eq_some_iff.1 hg
  rw [Nat.add_assoc, hc, he]
theorem info_st : (Tryz.prog.info? 142).map (fun i => (i.zero, i.size, i.bytes)) = some (some (stV zeroS), 5, 40) := by kernel_rfl
end
section
open Go.RowKit Go.Shelf
theorem many_step {g : KnS → Nat → Option (StN × KnS)} {σ1 : KnS} {next : List Nat} {i : Nat} {M : Option (List StN × KnS)} {l1 : List StN} (hi : i < next.length) (h : M = (manyG g σ1 (next.drop i)).map fun x => (l1 ++ x.1, x.2)) :
    (g σ1 next[i] = none → M = none) ∧ ∀ s σ2, g σ1 next[i] = some (s, σ2) → M = (manyG g σ2 (next.drop (i + 1))).map fun x => ((l1 ++ [s]) ++ x.1, x.2) := by
  rw [List.drop_eq_getElem_cons hi, manyG] at h
  refine ⟨fun e => by rw [h, e]; rfl, fun s σ2 e => ?_⟩
  rw [h, e]
  dsimp only
  cases manyG g σ2 (next.drop (i + 1)) with
  | none => rfl
  | some x => simp
theorem many_end {g : KnS → Nat → Option (StN × KnS)} {σ1 : KnS} {next : List Nat} {M : Option (List StN × KnS)} {l1 : List StN} (h : M = (manyG g σ1 (next.drop next.length)).map fun x => (l1 ++ x.1, x.2)) : M = some (l1, σ1) := by
  rw [List.drop_length] at h
  rw [h]
  simp [manyG]
def restS (M : Option (List StN × KnS)) : Option (StN × KnS) := match M with
  | none => none
  | some (l, σ1) => match foldO l with
    | none => none
    | some s => some (s, σ1)
theorem sides_rest (g : KnS → Nat → Option (StN × KnS)) (σ : KnS) (next : List Nat) : sidesG g σ next = restS (manyG g σ next) := rfl
theorem only_newR {O O' : Nat → Prop} {W W1 W2 : World} (h : Only O W W1) (k : Only O' W1 W2) (hO : ∀ j, O' j → W.heap.size ≤ j) : Only O W W2 :=
  ⟨k.os.trans h.os, k.tape.trans h.tape, k.output.trans h.output, Nat.le_trans h.size k.size, fun j hj hn => (k.same j (Nat.lt_of_lt_of_le hj h.size) (fun e => by have := hO j e; omega)).trans (h.same j hj hn)⟩
section
variable {cs : List Nat} {bs : List BlkN} {a : Option Addr} {c lb mb en kb db lo : Nat}
set_option maxRecDepth 100000 in
set_option maxHeartbeats 4000000 in
theorem sides_any (f : Nat) (hS : SoundG cs bs en (fromF cs bs en f))
    (H : ∀ σ (k : Nat) W, InvK cs bs en σ → EnvR cs bs a c lb mb en kb db lo W → KnAt W kb db σ → k ∈ bs.map (·.first) → unK bs σ < f → Calls Tryz.prog 127 #[.pointer (some ⟨lb, 0, none⟩), .int .i64 k] W (FromR kb db (fromF cs bs en f σ k) W))
    (σ : KnS) (next : List Nat) (p : Option Addr) (q : Nat) (W : World) (hI : InvK cs bs en σ) (hE : EnvR cs bs a c lb mb en kb db lo W) (hK : KnAt W kb db σ) (hm : ∀ k ∈ next, k ∈ bs.map (·.first)) (hl : next.length ≤ 200) (hN : IntsAt W p q next) (hu : unK bs σ < f) :
    Calls Tryz.prog 101 #[.pointer (some ⟨lb, 0, none⟩), .slice p next.length q] W (FromR kb db (sidesG (fromF cs bs en f) σ next) W) := by
  have hkb : kb < W.heap.size := by obtain ⟨l, d, h1, -⟩ := hK; exact (Array.getElem?_eq_some_iff.1 h1).1
  have hdb : db < W.heap.size := by obtain ⟨l, d, -, h1, -⟩ := hK; exact (Array.getElem?_eq_some_iff.1 h1).1
  obtain ⟨i0, hi0, hz0, hz1, hz2⟩ := info_parts info_st
  have hst := Tryz.underlying142
  obtain ⟨M, hM⟩ : ∃ M, M = manyG (fromF cs bs en f) σ next := ⟨_, rfl⟩
  rw [sides_rest, ← hM]
  have hM0 : M = (manyG (fromF cs bs en f) σ (next.drop 0)).map fun x => (([] : List StN) ++ x.1, x.2) := by
    rw [hM, List.drop_zero]
    cases manyG (fromF cs bs en f) σ next <;> rfl
  have hR0 : Hid (BlkG (W.alloc (.cells #[.int .u64 0, .int .u64 0, .int .i64 0, .int .i64 0, .int .i64 0] 142)) W.heap.size 142 (stC zeroS)) := qh (BlkG.new W _ _)
  have hb0 : Below W.heap.size W (W.alloc (.cells #[.int .u64 0, .int .u64 0, .int .i64 0, .int .i64 0, .int .i64 0] 142)) := xalloc (xrefl W) _
  have ho0 := qh (Below.only (O := TwoK kb db) hb0)
  have hs0 : (W.alloc (.cells #[.int .u64 0, .int .u64 0, .int .i64 0, .int .i64 0, .int .i64 0] 142)).heap.size = W.heap.size + 1 := World.size_alloc _ _
  have hK0 := qh (hK.below hb0)
  replace hM0 := qh hM0
  replace hI := qh hI
  replace hE := qh hE
  replace hK := qh hK
  replace hm := qh hm
  replace hN := qh hN
  replace hu := qh hu
  replace hS := qh hS
  replace H := qh H
  clear hM hb0
  go_enter Tryz.func101, Tryz.ntmps101
  go_wp2
  obtain ⟨w0, hw0⟩ : ∃ w0, W.alloc (.cells #[.int .u64 0, .int .u64 0, .int .i64 0, .int .i64 0, .int .i64 0] 142) = w0 := ⟨_, rfl⟩
  rw [hw0] at hR0 ho0 hs0 hK0 ⊢
  clear hw0
  go_loopw [5, 10] (fun v iv wx => ∃ (i : Nat) (l1 : List StN) (σ1 : KnS), iv = .int .i64 i ∧ i ≤ next.length ∧ l1.length = i ∧ Hid (OwnT w0 wx v l1) ∧ Hid (Only (TwoK kb db) W wx) ∧ Hid (KnAt wx kb db σ1) ∧ Hid (InvK cs bs en σ1 ∧ unK bs σ1 < f) ∧ Hid (M = (manyG (fromF cs bs en f) σ1 (next.drop i)).map fun x => (l1 ++ x.1, x.2)) ∧ Hid (BlkG wx W.heap.size 142 (stC zeroS)) ∧ w0.heap.size ≤ wx.heap.size) (fun _ iv _ => next.length - (intOf iv).toNat)
  case atStart => exact ⟨0, [], σ, rfl, by omega, rfl, qh (ownT_nil _ _), ho0, hK0, qh ⟨hI.out, hu.out⟩, hM0, hR0, Nat.le_refl _⟩
  case round =>
    clear hM0 hK0 hI hu hR0 ho0
    obtain ⟨i, l1, σ1, rfl, hi, hl1, hO, ho, hKx, hIx, hMx, hR, hsw⟩ := hrel
    by_cases hlt : i < next.length
    · have hltI : (i : Int) < next.length := by omega
      obtain ⟨nb, no, rfl, hcn⟩ := (show IntsAt wr p q next from ⟨row_off hN.out.row hK.out ho.out, hN.out.nil⟩).get hlt
      have hcall := H.out σ1 next[i] wr hIx.out.1 (hE.out.only hK.out ho.out) hKx.out (hm.out _ (List.getElem_mem hlt)) hIx.out.2
      obtain ⟨hst1, hst2⟩ := many_step hlt hMx.out
      have hsnd := hS.out σ1 next[i] 
      have hmem := hm.out _ (List.getElem_mem hlt)
      have hwi : IntKind.i64.wrap ((i : Int) + 1) = (i : Int) + 1 := by simp [IntKind.wrap, IntKind.bits, IntKind.signed]; omega
      generalize next[i] = k at *
      replace hst1 := qh hst1
      replace hst2 := qh hst2
      replace hsnd := qh hsnd
      cases hr : fromF cs bs en f σ1 k with
      | none =>
        have hMn := hst1.out hr
        subst hMn
        rw [hr] at hcall
        replace hcall := qh hcall
        replace hr := qh hr
        clear hMx
        go_wp2_with (go_at_call 127; refine hcall.out.mono ?_; rintro e w2 ⟨ho2, rfl⟩; replace ho2 := qh (ho.out.trans ho2))
        exact ⟨rfl, ho2.out, rfl⟩
      | some x =>
        obtain ⟨s, σ2⟩ := x
        rw [hr] at hcall
        have hM2 := qh (hst2.out s σ2 hr)
        obtain ⟨g1, g2, g3⟩ := hsnd.out s σ2 hIx.out.1 hmem hr
        have hI2 : Hid (InvK cs bs en σ2 ∧ unK bs σ2 < f) := qh ⟨g1, Nat.lt_of_le_of_lt (unK_le g2) hIx.out.2⟩
        replace hcall := qh hcall
        replace hr := qh hr
        have hq1 : l1.length + 1 ≤ maxLen := by unfold maxLen; omega
        have hq2 : (l1.length + 1) * 40 ≤ 140737488355328 := by omega
        clear hMx g1 g2 g3 hsnd hst1 hst2
        go_wp2_with (first
          | (at_builtin; refine wpList_append_blkV (w2.alloc (.cells #[.int .u64 s.g0, .int .u64 s.g1, .int .i64 s.lo, .int .i64 s.hi, .int .i64 s.ht] 142)) rfl _ _ 175 rfl w0.heap.size 142 i0 (stV zeroS) 5 40 Tryz.underlying175 hi0 hz0 hz1 hz2 rfl (by decide) u5 l1.length (l1.flatMap stC) rfl hO2.out ⟨w2.heap.size, 0, none⟩ 1 1 (stC s) rfl rfl (blk_news w2 142 (stC s)) (by simp [Value.oneCell', stC]) hq1 hq2 (by rw [World.size_alloc]; omega) ?_; intro v8 w8 ho8 hg8 hv8; have hOn := qh (grown_only hg8); replace ho8 := qh ho8)
          | (go_at_call 127; refine hcall.out.mono ?_; rintro e w2 ⟨ho2, rfl, hK2⟩; unfold stV; have hsz2 := ho2.size; have hlow : Hid (∀ g, u5.ownBlock = some g → w0.heap.size ≤ g) := qh (fun g e => (own5_lt hO.out e).1); have hOw2 := own5_only hO.out ho2 (fun g e hg => by have := hlow.out g e; rcases hg with hg | hg <;> omega); have hO2 := qh (own_keep hOw2 (xalloc (xrefl w2) (.cells #[.int .u64 s.g0, .int .u64 s.g1, .int .i64 s.lo, .int .i64 s.hi, .int .i64 s.ht] 142))); have hR2 := qh (hR.out.only ho2 (fun hg => by rcases hg with hg | hg <;> omega)); have hK3 := qh (hK2.below (xalloc (xrefl w2) (.cells #[.int .u64 s.g0, .int .u64 s.g1, .int .i64 s.lo, .int .i64 s.hi, .int .i64 s.ht] 142))); have ho3 := qh ((ho.out.trans ho2).trans (Below.only (xalloc (xrefl w2) (.cells #[.int .u64 s.g0, .int .u64 s.g1, .int .i64 s.lo, .int .i64 s.hi, .int .i64 s.ht] 142)))); clear hOw2 hK2 ho2))
        have hs3 : (w2.alloc (.cells #[.int .u64 s.g0, .int .u64 s.g1, .int .i64 s.lo, .int .i64 s.hi, .int .i64 s.ht] 142)).heap.size = w2.heap.size + 1 := World.size_alloc _ _
        have hs8 := hOn.out.size
        have hon8 : Only (TwoK kb db) W w8 := only_newR ho3.out hOn.out (fun j e => by have := hlow.out j e; omega)
        refine ⟨⟨i + 1, l1 ++ [s], σ2, by go_num, by omega, by simp [hl1], qh ?_, qh hon8, qh ?_, hI2, hM2, qh ?_, by omega⟩, by simp [intOf]; omega⟩
        · unfold OwnT
          rw [List.length_append, List.flatMap_append]
          simpa using ho8.out
        · exact hK3.out.only hOn.out (fun e => by have := hlow.out _ e; omega) (fun e => by have := hlow.out _ e; omega)
        · exact (hR2.out.alloc _).only hOn.out (fun e => by have := hlow.out _ e; omega)
    · obtain rfl : i = next.length := by omega
      have hMe := many_end hMx.out
      subst hMe
      obtain ⟨pa, qa, rfl, hSt⟩ := hO.out.at
      have hfo := qh fun w9 (hb : Below wr.heap.size wr w9) => folded_any l1 pa qa w9 (hSt.below hb) (by omega)
      replace hl1 := qh hl1
      clear hMx hlt hi
      cases hfo1 : foldO l1 with
      | none =>
        have hrs : restS (some (l1, σ1)) = none := by simp [restS, hfo1]
        rw [hrs]
        rw [hfo1] at hfo
        unfold StR at hfo
        replace hfo1 := qh hfo1
        go_wp2_with (go_at_call 128; refine (hfo.out _ (xrefl _)).mono ?_; rintro e w3 ⟨rfl, hb3⟩; replace hb3 := qh hb3)
        exact ⟨rfl, ho.out.trans (Below.only hb3.out), rfl⟩
      | some s =>
        have hrs : Hid (restS (some (l1, σ1)) = some (s, σ1)) := qh (by simp [restS, hfo1])
        rw [hfo1] at hfo
        unfold StR stV at hfo
        replace hfo1 := qh hfo1
        go_wp2_with (first
          | (go_at_call 128; refine (hfo.out _ (xrefl _)).mono ?_; rintro e w3 ⟨rfl, hb3⟩; have hR3 := qh (hR.out.below hb3); have hK3 := qh (hKx.out.below hb3); have ho3 := qh (ho.out.trans (Below.only hb3)); clear hb3)
          | (refine wpList_store_blkG rfl 142 _ _ rfl W.heap.size rfl 142 (stC zeroS) (stC s) hR3.out rfl rfl (by kernel_rfl) rfl ?_; intro w4 hA4 ho4; have hK4 := qh (hK3.out.only ho4 (by omega) (by omega)); have ho5 := qh (only_newR ho3.out ho4 (fun j e => by omega)); replace hA4 := qh hA4; clear ho4))
        exact bodyPost_ret (results_blkG rfl _ _ W.heap.size 142 _ _ rfl hA4.out hst rfl (by kernel_rfl)) rfl (by rw [hrs.out]; exact ⟨ho5.out, rfl, hK4.out⟩)
end
end
end Go.Proofs.YtijkdabmegbcjaaGreatDoor
