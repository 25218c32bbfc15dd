/- Texts of this claim, merged; no condition. -/
import Derived.Test.YtijkdabmegbcjaaGreatDoorT18
import Derived.Test.YtijkdabmegbcjaaGreatDoorT21
import Derived.Test.YtijkdabmegbcjaaGreatDoorT15
import Derived.Test.YtijkdabmegbcjaaGreatDoorT06
import Derived.Test.YtijkdabmegbcjaaGreatDoorTA
set_option linter.all false
namespace Go.Proofs.YtijkdabmegbcjaaGreatDoor
section
open Go.RowKit
def updI (n : Int) (v : Value) : List (Int × Value) → List (Int × Value)
  | [] => [(n, v)]
  | x :: l => if n = x.1 then (n, v) :: l else x :: updI n v l
theorem updI_new {n : Int} {v : Value} {l : List (Int × Value)} (h : ∀ x ∈ l, x.1 ≠ n) : updI n v l = l ++ [(n, v)] := by
  induction l with
  | nil => rfl
  | cons x l ih =>
    rw [updI, if_neg (fun e => h x (by simp) e.symm), ih fun y hy => h y (by simp [hy])]
    rfl
theorem findI_none {n : Int} {l : List (Int × Value)} (h : findI n l = none) : ∀ x ∈ l, x.1 ≠ n := by
  induction l with
  | nil => simp
  | cons x l ih =>
    unfold findI at h
    split at h
    · cases h
    · rename_i hne
      intro y hy
      rcases List.mem_cons.1 hy with e | e
      · rw [e]; exact fun e => hne e.symm
      · exact ih h y e
theorem findI_key {n : Int} {l : List (Int × Value)} (h : n ∉ l.map (·.1)) : findI n l = none := by
  induction l with
  | nil => rfl
  | cons x l ih =>
    simp at h
    unfold findI
    rw [if_neg h.1]
    exact ih (by simpa using h.2)
theorem updI_key (n : Int) (v : Value) (l : List (Int × Value)) : ∀ m, m ∈ (updI n v l).map (·.1) ↔ m = n ∨ m ∈ l.map (·.1) := by
  intro m
  induction l with
  | nil => simp [updI]
  | cons x l ih =>
    unfold updI
    split
    · rename_i e; simp [e]
    · rw [List.map_cons, List.mem_cons, ih, List.map_cons, List.mem_cons]
      constructor
      · rintro (h | h | h)
        · exact .inr (.inl h)
        · exact .inl h
        · exact .inr (.inr h)
      · rintro (h | h | h)
        · exact .inr (.inl h)
        · exact .inl h
        · exact .inr (.inr h)
theorem updI_nodup {n : Int} {v : Value} {l : List (Int × Value)} (h : (l.map (·.1)).Nodup) : ((updI n v l).map (·.1)).Nodup := by
  induction l with
  | nil => simp [updI]
  | cons x l ih =>
    rw [List.map_cons, List.nodup_cons] at h
    unfold updI
    split
    · rename_i e; rw [List.map_cons, List.nodup_cons, e]; exact h
    · rename_i e
      rw [List.map_cons, List.nodup_cons]
      refine ⟨fun hm => ?_, ih h.2⟩
      rcases (updI_key n v l x.1).1 hm with e2 | e2
      · exact e e2.symm
      · exact h.1 e2
theorem updI_find (n : Int) (v : Value) (m : Int) (l : List (Int × Value)) : findI m (updI n v l) = if m = n then some v else findI m l := by
  induction l with
  | nil => simp [updI, findI]
  | cons x l ih =>
    unfold updI
    split
    · rename_i e
      subst e
      show (if m = x.1 then some v else findI m l) = if m = x.1 then some v else (if m = x.1 then some x.2 else findI m l)
      split <;> rfl
    · rename_i e
      show (if m = x.1 then some x.2 else findI m (updI n v l)) = if m = n then some v else (if m = x.1 then some x.2 else findI m l)
      rw [ih]
      by_cases h1 : m = x.1
      · rw [if_pos h1, if_pos h1, if_neg (fun e2 => e (e2.symm.trans h1))]
      · rw [if_neg h1, if_neg h1]
theorem findNow_put (q : IntKind) (n : Int) (v : Value) : ∀ (l : List (Int × Value)) (i j : Nat),
    (Instr.findNow (.int q) (.int q n) (entI q i l) j = some none ∧ updI n v l = l ++ [(n, v)]) ∨
    ∃ d u, Instr.findNow (.int q) (.int q n) (entI q i l) j = some (some (j + d, u)) ∧ d < l.length ∧ (entI q i l)[d]?.map (·.key) = some (.int q n) ∧ (updI n v l).length = l.length ∧ (entI q i l).modify d (fun e => { e with key := .int q n, val := v }) = entI q i (updI n v l)
  | [], i, j => .inl ⟨rfl, rfl⟩
  | (m, u) :: l, i, j => by
    by_cases h : n = m
    · subst h
      exact .inr ⟨0, u, by simp [entI, Instr.findNow, Instr.sameNow], by simp, by simp [entI], by simp [updI], by simp [entI, updI]⟩
    · have hb : (n == m) = false := by simpa using h
      rcases findNow_put q n v l (i + 1) (j + 1) with ⟨h1, h2⟩ | ⟨d, u', h1, h2, h3, h4, h5⟩
      · exact .inl ⟨by simp [entI, Instr.findNow, Instr.sameNow, hb, h1], by simp [updI, h, h2]⟩
      · refine .inr ⟨d + 1, u', ?_, by simpa using h2, ?_, by simp [updI, h, h4], ?_⟩
        · simp only [entI, Instr.findNow, Instr.sameNow, if_true, hb, h1]
          rw [show j + 1 + d = j + (d + 1) by omega]
        · simpa [entI] using h3
        · simp [entI, updI, h, h5]
theorem run_putI {P : Program} {t k e : TypeId} {q : IntKind} (ht : P.underlying t = some (.map k e)) (hk : P.underlying k = some (.int q)) (n : Int) (v : Value) (w : World) (b : Nat) (l : List (Int × Value)) (hb : w.heap[b]? = some (mapI q l)) :
    (Instr.mapUpdate t (.map (some b)) (.int q n) v).run P w = .ok () (w.putObj b (mapI q (updI n v l))) := by
  unfold mapI at hb
  rcases findNow_put q n v l 0 0 with ⟨h1, h2⟩ | ⟨d, u, h1, h2, h3, h4, h5⟩
  · have hf : (Instr.findKey k (.int q n) (entI q 0 l)).run P w = .ok none w := by
      simp [Instr.findKey, run_underlying hk, Sem.run_bind, h1]
    simp only [Instr.mapUpdate, run_underlying ht, Sem.run_bind, Result.andThen_ok, getObj, setObj, Sem.run, hb, checkKey_int hk, hf]
    show Result.ok () (w.putObj b _) = _
    rw [h2]
    congr 2
    simp [mapI, entI_append, entI]
  · rw [Nat.zero_add] at h1
    have hf : (Instr.findKey k (.int q n) (entI q 0 l)).run P w = .ok (some (d, u)) w := by
      simp [Instr.findKey, run_underlying hk, Sem.run_bind, h1]
    have hks : ∀ c : Value, (Instr.keyThatStays (.int q n) (.int q n)).run P w = .ok (.int q n) w := fun _ => by
      unfold Instr.keyThatStays
      rw [if_pos (by show Instr.sameBits (9999 + 1) _ _ = true; simp [Instr.sameBits])]
      simp
    have h3' : (Option.map (fun x => x.key) (entI q 0 l).toArray[d]?).getD (.int q n) = .int q n := by
      rw [List.getElem?_toArray, h3]; rfl
    simp only [Instr.mapUpdate, run_underlying ht, Sem.run_bind, Result.andThen_ok, getObj, setObj, Sem.run, hb, checkKey_int hk, hf, h3', hks undef]
    show Result.ok () (w.putObj b _) = _
    congr 2
    unfold mapI
    rw [h4]
    congr 1
    apply Array.ext'
    rw [Array.toList_modify, h5]
end
section
open Go.RowKit Go.Shelf
theorem wpList_insertI {P : Program} {ops : Array Oper} {rest : List Oper} {o : Oper} {a : Act} {w : World} {Q : Exit → Act → World → Prop} (hgd : o.guard = none) (t k e : TypeId) (q : IntKind) (x y z : Operand) (ho : o.op = .insert t x y z)
    (ht : P.underlying t = some (.map k e)) (hk : P.underlying k = some (.int q)) (b : Nat) (n : Int) (v : Value) (l : List (Int × Value)) (hx : a.eval x = .map (some b)) (hy : a.eval y = .int q n) (hz : a.eval z = v)
    (hb : w.heap[b]? = some (mapI q l))
    (h : ∀ w', w'.heap[b]? = some (mapI q (updI n v l)) → Only (· = b) w w' → wpList P ops Q rest (a.put o.dst undef) w') : wpList P ops Q (o :: rest) a w := by
  refine wpList_plain hgd fun _ hK => ?_
  unfold Oper.wp execOp
  simp only [ho, hx, hy, hz, Sem.run_bind, run_putI ht hk n v w b l hb, Result.andThen_ok, Sem.run_pure]
  have hlt : b < w.heap.size := (Array.getElem?_eq_some_iff.1 hb).1
  exact hK _ _ (h _ (World.putObj_heap_same hlt) ((Only.refl _ _).putObj b _ rfl))
def endsL : List (Int × Value) := [(0, .bool true), (243, .bool true), (253, .bool true), (254, .bool true), (255, .bool true)]
set_option maxRecDepth 100000 in
theorem ends_any (w : World) : Calls Tryz.prog 108 #[] w fun e w' => (∃ b, e = .returned (.map (some b)) ∧ w'.heap[b]? = some (mapI .u8 endsL) ∧ w.heap.size ≤ b) ∧ Below w.heap.size w w' := by
  have hM0 : Hid ((w.alloc (mapI .u8 [])).heap[w.heap.size]? = some (mapI .u8 [])) := qh (World.alloc_heap_new w _)
  have hb0 : Hid (Below w.heap.size w (w.alloc (mapI .u8 []))) := qh (xalloc (xrefl w) _)
  go_enter Tryz.func108, Tryz.ntmps108
  go_upto_region 1 with fail
  refine wp_region_lit ?_
  refine wpList_execW rfl (.map (some w.heap.size)) (w.alloc (mapI .u8 [])) rfl ?_
  generalize w.alloc (mapI .u8 []) = w0 at *
  simp only [Act.put, zA, zB, zC]
  refine wpList_insertI rfl 158 5 4 .u8 _ _ _ rfl Tryz.underlying158 Tryz.underlying5 w.heap.size 0 (.bool true) [] rfl rfl rfl hM0.out ?_
  intro w1 hM1 hq
  replace hM1 := qh hM1
  have hb1 := qh (hq.below hb0.out hb0.out.size (by rintro k rfl; exact Nat.le_refl _))
  clear hq
  simp only [Act.put, zA, zB, zC]
  refine wpList_insertI rfl 158 5 4 .u8 _ _ _ rfl Tryz.underlying158 Tryz.underlying5 w.heap.size 243 (.bool true) [(0, .bool true)] rfl rfl rfl hM1.out ?_
  intro w2 hM2 hq
  replace hM2 := qh hM2
  have hb2 := qh (hq.below hb1.out hb1.out.size (by rintro k rfl; exact Nat.le_refl _))
  clear hq
  simp only [Act.put, zA, zB, zC]
  refine wpList_insertI rfl 158 5 4 .u8 _ _ _ rfl Tryz.underlying158 Tryz.underlying5 w.heap.size 253 (.bool true) [(0, .bool true), (243, .bool true)] rfl rfl rfl hM2.out ?_
  intro w3 hM3 hq
  replace hM3 := qh hM3
  have hb3 := qh (hq.below hb2.out hb2.out.size (by rintro k rfl; exact Nat.le_refl _))
  clear hq
  simp only [Act.put, zA, zB, zC]
  refine wpList_insertI rfl 158 5 4 .u8 _ _ _ rfl Tryz.underlying158 Tryz.underlying5 w.heap.size 254 (.bool true) [(0, .bool true), (243, .bool true), (253, .bool true)] rfl rfl rfl hM3.out ?_
  intro w4 hM4 hq
  replace hM4 := qh hM4
  have hb4 := qh (hq.below hb3.out hb3.out.size (by rintro k rfl; exact Nat.le_refl _))
  clear hq
  simp only [Act.put, zA, zB, zC]
  refine wpList_insertI rfl 158 5 4 .u8 _ _ _ rfl Tryz.underlying158 Tryz.underlying5 w.heap.size 255 (.bool true) [(0, .bool true), (243, .bool true), (253, .bool true), (254, .bool true)] rfl rfl rfl hM4.out ?_
  intro w5 hM5 hq
  replace hM5 := qh hM5
  have hb5 := qh (hq.below hb4.out hb4.out.size (by rintro k rfl; exact Nat.le_refl _))
  clear hq
  simp only [Act.put, zA, zB, zC]
  refine wpList_execW rfl (.map (some w.heap.size)) w5 rfl ?_
  refine wpList_execW rfl (.map (some w.heap.size)) w5 rfl ?_
  refine wpList_nil ?_
  simp only [Act.put, zA, zB, zC]
  go_wp2
  go_ret
  exact ⟨⟨_, rfl, hM5.out, Nat.le_refl _⟩, hb5.out⟩
theorem ends_find {c : Nat} (h : namedN c = true) : ((findI (c : Int) endsL).getD (.bool false)) = .bool (endN c) := by
  unfold endN
  rw [h]
  unfold endsL findI findI findI findI findI findI
  by_cases h0 : c = 0
  · subst h0; rfl
  · by_cases h1 : c = 243
    · subst h1; rfl
    · by_cases h2 : c = 253
      · subst h2; rfl
      · by_cases h3 : c = 254
        · subst h3; rfl
        · by_cases h4 : c = 255
          · subst h4; rfl
          · rw [if_neg (by simp; omega), if_neg (by simp; omega), if_neg (by simp; omega), if_neg (by simp; omega), if_neg (by simp; omega)]
            simp [h0, h1, h2, h3, h4]
theorem run_lookB {P : Program} {o : Oper} {a : Act} {w : World} (t k e : TypeId) (q : IntKind) (x y : Operand) (ho : o.op = .lookup t x y false) (ht : P.underlying t = some (.map k e)) (hk : P.underlying k = some (.int q)) {z : Value} (hz : ∀ w, (zeroValue e).run P w = .ok z w)
    (n : Int) (b : Nat) (l : List (Int × Value)) (hx : a.eval x = .map (some b)) (hy : a.eval y = .int q n) (hb : w.heap[b]? = some (mapI q l)) :
    (execOp a.eval o).run P w = .ok (.value ((findI n l).getD z)) w := by
  unfold execOp
  have := run_lookI ht hk hz n w b l false hb
  simp only [ho, hx, hy, Sem.run_bind, this, Result.andThen_ok, Sem.run_pure]
  rfl
set_option maxRecDepth 100000 in
set_option maxHeartbeats 1000000 in
theorem ended_any (c : Nat) (w : World) (hc : c < 256) : Calls Tryz.prog 73 #[.int .u8 c] w fun e w' => e = .returned (.bool (endN c)) ∧ Below w.heap.size w w' := by
  have hinf := qh fun W => info_any c W hc
  have hends := qh fun W => ends_any W
  have hx : ∃ vs : List Value, infoV (infoN c) = .agg vs.toArray ∧ vs.length = 6 ∧ vs.all (·.oneCell') = true := ⟨infoC (infoN c), rfl, rfl, rfl⟩
  obtain ⟨vs, hvs, hvl, hvo⟩ := hx
  rw [hvs] at hinf
  have hzero : ∀ w, (zeroValue 4).run Tryz.prog w = .ok (.bool false) w := by intro w; kernel_rfl
  replace hzero := qh hzero
  replace hvl := qh hvl
  replace hvo := qh hvo
  clear hvs
  cases hn : namedN c with
  | false =>
    have he : endN c = true := by unfold endN; rw [hn]; simp
    rw [he]
    rw [hn] at hinf
    clear hn he
    go_enter Tryz.func73, Tryz.ntmps73
    go_wp2_with (first
      | (go_at_call 107; refine (hinf.out _).mono ?_; rintro e w1 ⟨rfl, hb1⟩; replace hb1 := qh hb1)
      | (refine wpList_store_blkG rfl 113 _ _ rfl w1.heap.size rfl 113 info0 vs (BlkG.new w1 _ _) rfl hvl.out (by rw [hvl.out]; kernel_rfl) hvo.out ?_; intro w2 hX2 ho2; have hb2 := qh (xtrans hb1.out (ho2.below (xalloc (xrefl w1) _) (by rw [World.size_alloc]; omega) (by rintro k rfl; exact Nat.le_refl _))); clear hX2 ho2))
    go_ret
    exact ⟨rfl, hb2.out⟩
  | true =>
    have hf := qh (ends_find hn)
    rw [hn] at hinf
    clear hn
    generalize endN c = r at *
    go_enter Tryz.func73, Tryz.ntmps73
    go_wp2_with (first
      | (go_at_call 107; refine (hinf.out _).mono ?_; rintro e w1 ⟨rfl, hb1⟩; replace hb1 := qh hb1)
      | (refine wpList_store_blkG rfl 113 _ _ rfl w1.heap.size rfl 113 info0 vs (BlkG.new w1 _ _) rfl hvl.out (by rw [hvl.out]; kernel_rfl) hvo.out ?_; intro w2 hX2 ho2; have hb2 := qh (xtrans hb1.out (ho2.below (xalloc (xrefl w1) _) (by rw [World.size_alloc]; omega) (by rintro k rfl; exact Nat.le_refl _))); clear hX2 ho2)
      | (go_at_call 108; refine (hends.out _).mono ?_; rintro e w3 ⟨⟨bm, rfl, hM, -⟩, hb3⟩; replace hM := qh hM; replace hb3 := qh (xtrans hb2.out hb3))
      | (refine wpList_wanted rfl (fun K hK => ?_); unfold Oper.wp; rw [run_lookB 158 5 4 .u8 _ _ rfl Tryz.underlying158 Tryz.underlying5 hzero.out c bm endsL rfl rfl hM.out, hf.out]; refine hK _ _ ?_))
    go_ret
    exact ⟨rfl, hb3.out⟩
end
section
open Go.RowKit Go.Shelf
theorem own_neG {w : World} {base bx : Nat} {v : Value} {vs : List Value} {e T : TypeId} {size n : Nat} {xs : List Value} (h : w.ownsRow base e size v n xs) (hb : BlkG w bx T vs) (hT : e ≠ T) : v.ownBlock ≠ some bx := by
  rcases h.2 with ⟨rfl, -⟩ | ⟨g, cap, cur, rfl, _, hg, _⟩
  · intro e; cases e
  · intro e2
    have : g = bx := Option.some.inj e2
    subst this
    unfold BlkG at hb
    rw [hg] at hb
    injection hb with hb
    injection hb with h1 h2
    exact hT h2
def FldR (B : Nat) (ET : TypeId) (sz : Nat) (T : TypeId) (r : Nat) (F : Value → List Value) (n : Nat) (xs : List Value) (S : Nat → Prop) (W : World) : Prop :=
  ∃ v, BlkG W r T (F v) ∧ W.ownsRow B ET sz v n xs ∧ S r ∧ (∀ g, v.ownBlock = some g → S g) ∧ ∀ j, S j → j < W.heap.size
section
variable {B : Nat} {ET : TypeId} {sz : Nat} {T : TypeId} {r n : Nat} {F : Value → List Value} {xs : List Value} {S : Nat → Prop} {W W' : World}
theorem fldR_fac : Fac S (FldR B ET sz T r F n xs S) :=
  ⟨fun W W' ⟨v, h1, h2, h3, h4, h5⟩ hz hs => ⟨v, (hs r h3 h1.lt).trans h1, own_same h2 fun g hg hl => hs g (h4 g hg) hl, h3, h4, fun j hj => Nat.lt_of_lt_of_le (h5 j hj) hz⟩, fun W ⟨_, _, _, _, _, h⟩ k hk => h k hk⟩
theorem fldR_next {v V5 : Value} {W2 W3 W5 : World} {m k : Nat} {ys : List Value} (hT : ET ≠ T) (hF : (F v).set k V5 = F V5) (h1 : BlkG W2 r T (F v)) (h2 : W2.ownsRow B ET sz v n xs) (h3 : S r) (h4 : ∀ g, v.ownBlock = some g → S g) (hb : Below W2.heap.size W2 W3) (hg5 : W3.grownBy W5 v.ownBlock)
    (o5 : W5.ownsRow B ET sz V5 m ys) (hvb : V5.ownBlock = v.ownBlock ∨ ∀ k, V5.ownBlock = some k → W3.heap.size ≤ k) :
    Only S W2 (W5.setCell ⟨r, k, none⟩ V5) ∧ ∃ S', (∀ j, S' j → S j ∨ W2.heap.size ≤ j) ∧ FldR B ET sz T r F m ys S' (W5.setCell ⟨r, k, none⟩ V5) := by
  have hon : Only (· = r) W5 (W5.setCell ⟨r, k, none⟩ V5) := (Only.refl _ _).setCell _ _ rfl
  have ho : Only S W2 (W5.setCell ⟨r, k, none⟩ V5) :=
    ((Below.only hb : Only S W2 W3).trans ((only_grown hg5).mono fun k _ h => h4 k h)).trans (hon.mono fun k _ h => by rw [h]; exact h3)
  have hne : v.ownBlock ≠ some r := own_neG h2 h1 hT
  have c5 : BlkG W5 r T (F v) := (h1.below hb).only (only_grown hg5) hne
  have hne5 := own_neG o5 c5 hT
  refine ⟨ho, fun j => j = r ∨ V5.ownBlock = some j, fun j hj => ?_, V5, by have := c5.set k V5; rwa [hF] at this, own_same o5 fun g hg hl => hon.same g hl fun e => hne5 (by rw [hg, e]), .inl rfl, fun g hg => .inr hg, fun j hj => ?_⟩
  · rcases hj with rfl | hj
    · exact .inl h3
    · rcases hvb with e | e
      · exact .inl (h4 j (by rw [← e]; exact hj))
      · exact .inr (Nat.le_trans hb.size (e j hj))
  · rcases hj with rfl | hj
    · exact Nat.lt_of_lt_of_le c5.lt hon.size
    · exact Nat.lt_of_lt_of_le (own_lt o5 hj).2 hon.size
end
end
section
open Go.RowKit Go.Shelf
attribute [local go_sem] Oper.semAt_some
def opC (cs : List Nat) (x : Nat) : List Value := [.int .i64 x, .int .u8 (byN cs x)]
structure OpsAt (w : World) (a : Option Addr) (c : Nat) (cs l : List Nat) : Prop where
  elt : ∀ i (h : i < l.length), ∃ b o, a = some ⟨b, o, none⟩ ∧ w.rangeAt b (o + i * 2) (opC cs l[i])
  nil : a = none → c = 0
theorem OpsAt.below {w w' : World} {a : Option Addr} {c : Nat} {cs l : List Nat} (h : OpsAt w a c cs l) (hb : Below w.heap.size w w') : OpsAt w' a c cs l := ⟨fun i hi => by
  obtain ⟨b, o, e, h1⟩ := h.elt i hi
  exact ⟨b, o, e, rangeAt_below h1 hb⟩, h.nil⟩
theorem OpsAt.only {O : Nat → Prop} {w w' : World} {a : Option Addr} {c : Nat} {cs l : List Nat} (h : OpsAt w a c cs l) (ho : Only O w w') (ha : ∀ x, a = some x → ¬ O x.block) : OpsAt w' a c cs l := ⟨fun i hi => by
  obtain ⟨b, o, e, h1⟩ := h.elt i hi
  refine ⟨b, o, e, fun j v hj => ?_⟩
  have := h1 j v hj
  exact (World.cell?_of_block (ho.same b (cell_lt this) (ha _ e))).trans this, h.nil⟩
theorem OpsAt.own {w : World} {B : Nat} {v : Value} {cs l : List Nat} (h : w.ownsRow B 81 2 v l.length (l.flatMap (opC cs))) : ∃ a c, v = .slice a l.length c ∧ OpsAt w a c cs l ∧ ∀ x, a = some x → B ≤ x.block := by
  obtain ⟨a, c, rfl, hr, hn, hx, hl, h0⟩ := rowV_own h
  refine ⟨a, c, rfl, ⟨fun i hi => ?_, hn⟩, hx⟩
  have hlen := flat_len 2 (opC cs) (fun _ => rfl) l
  have h00 : i * 2 < (l.flatMap (opC cs)).length := by rw [hlen]; omega
  obtain ⟨b, o, e, -⟩ := hr (i * 2) h00
  refine ⟨b, o, e, fun j u hj => ?_⟩
  have hj2 : j < 2 := (List.getElem?_eq_some_iff.1 hj).1
  have hlt : i * 2 + j < (l.flatMap (opC cs)).length := by rw [hlen]; omega
  obtain ⟨b', o', e', hc⟩ := hr (i * 2 + j) hlt
  rw [e] at e'; cases e'
  have := flat_get 2 (opC cs) (fun _ => rfl) l i j hi hj2
  rw [List.getElem?_eq_getElem hlt, hj] at this
  injection this with this
  rw [Nat.add_assoc, hc, this]
theorem info_op : (Tryz.prog.info? 81).map (fun i => (i.zero, i.size, i.bytes)) = some (some (.agg #[.int .i64 0, .int .u8 0]), 2, 16) := by kernel_rfl
def textF (a : Option Addr) (n c : Nat) (v : Value) : List Value := [.slice a n c, v]
def OfS (w : World) (cs : List Nat) (a : Option Addr) (c k : Nat) (S : Nat → Prop) (W : World) : Prop :=
  FldR w.heap.size 81 2 73 (w.heap.size + 1) (textF a cs.length c) ((opsL cs).take k).length (((opsL cs).take k).flatMap (opC cs)) S W
theorem take_flat (cs : List Nat) (k : Nat) (hk : k < (opsL cs).length) : ((opsL cs).take (k + 1)).flatMap (opC cs) = ((opsL cs).take k).flatMap (opC cs) ++ opC cs (opsL cs)[k] := by
  rw [List.take_succ_eq_append_getElem hk, List.flatMap_append]; simp
set_option maxRecDepth 100000 in
set_option maxHeartbeats 4000000 in
theorem of_any (cs : List Nat) (a : Option Addr) (c : Nat) (w : World) (h : CodeAt w a c cs) :
    Calls Tryz.prog 71 #[.slice a cs.length c] w fun e w' => (∃ p q, e = .returned (.agg #[.slice a cs.length c, .slice p (opsL cs).length q]) ∧ OpsAt w' p q cs (opsL cs) ∧ ∀ x, p = some x → w.heap.size ≤ x.block) ∧ Below w.heap.size w w' := by
  obtain ⟨i0, hi0, hz0, hz1, hz2⟩ := info_parts info_op
  have hlen := h.len
  have hol := opsL_len cs
  have hops := qh fun W => ops_any a cs.length c W
  have hstep := qh (take_flat cs)
  have hall : Hid (((opsL cs).take (opsL cs).length).length = (opsL cs).length ∧ ((opsL cs).take (opsL cs).length).flatMap (opC cs) = (opsL cs).flatMap (opC cs)) := qh (by rw [List.take_length]; exact ⟨rfl, rfl⟩)
  have hR0 : Hid (BlkG (w.alloc (.cells #[.slice none 0 0, .slice none 0 0] 73)) w.heap.size 73 [.slice none 0 0, .slice none 0 0]) := qh (BlkG.new w _ _)
  have hb0 : Hid (Below w.heap.size w (w.alloc (.cells #[.slice none 0 0, .slice none 0 0] 73))) := qh (xalloc (xrefl w) _)
  have hs0 : Hid ((w.alloc (.cells #[.slice none 0 0, .slice none 0 0] 73)).heap.size = w.heap.size + 1) := qh (by rw [World.size_alloc])
  refine (callsIn_wide (n := 0)).1 ?_
  refine callsIn_of_wp_marks Tryz.func71 rfl trivial ?_ rfl
  simp only [Tryz.ntmps71, List.size_toArray, List.length_cons, List.length_nil, Nat.reduceAdd, Nat.reduceSub, Array.replicate_succ, Array.replicate_zero, List.push_toArray, List.append_toArray, List.nil_append, List.cons_append]
  refine wpIn_wide.2 ?_
  go_wp2_with (first
    | (refine wpList_store_blkG rfl 73 _ _ rfl (w.heap.size + 1) rfl 73 [.slice none 0 0, .slice none 0 0] (textF a cs.length c (.slice none 0 0)) (by have := BlkG.new (w.alloc (.cells #[.slice none 0 0, .slice none 0 0] 73)) 73 [.slice none 0 0, .slice none 0 0]; rw [World.size_alloc] at this; exact this) rfl rfl (by kernel_rfl) rfl ?_; intro w3 hX3 ho3; have hR3 := qh ((hR0.out.alloc _).only ho3 (by omega)); have hb3 := qh (ho3.below (xalloc hb0.out _) (by rw [World.size_alloc]; exact Nat.le_succ_of_le hb0.out.size) (by rintro k rfl; omega)); have hs3 := hX3.lt; have hbR := qh (ho3.below (xalloc (xrefl (w.alloc (.cells #[.slice none 0 0, .slice none 0 0] 73))) _) (by simp only [World.size_alloc]; omega) (by rintro k rfl; exact Nat.le_of_eq hs0.out)); replace hX3 := qh hX3; clear ho3)
    | (go_at_call 106; refine (hops.out _).mono ?_; rintro e w' ⟨rfl, rfl⟩))
  refine (wpIn_wide (n := 0)).1 ?_
  have hx1 : Box (w3.alloc (Obj.cells #[.slice a cs.length c] 22)) w3.heap.size (.slice a cs.length c) 22 := Box.new _ _ _
  have hb1 : Below w.heap.size w (w3.alloc (Obj.cells #[.slice a cs.length c] 22)) := xalloc hb3.out _
  have hX4 := qh (hX3.out.alloc (Obj.cells #[.slice a cs.length c] 22))
  have hR4 := qh (hR3.out.alloc (Obj.cells #[.slice a cs.length c] 22))
  have hs1 : (w3.alloc (Obj.cells #[.slice a cs.length c] 22)).heap.size = w3.heap.size + 1 := by rw [World.size_alloc]
  have hbR2 : Below w3.heap.size w3 (w3.alloc (Obj.cells #[.slice a cs.length c] 22)) := xalloc (xrefl _) _
  generalize w3.alloc (Obj.cells #[.slice a cs.length c] 22) = w1 at *
  have hbR1 := xtrans hbR.out hbR2
  generalize w.alloc (.cells #[.slice none 0 0, .slice none 0 0] 73) = wR at *
  have hold := fun k (h0 : cs ≠ [] ∧ ∃ y, a = some y ∧ y.block = k) => codeRd_old (w' := w) (bx := 0) h h0.2 h0.1
  have hwR := hs0.out
  refine wp_rangeL (w0 := wR) (gf := 130) (lb := #[.pointer (some ⟨w3.heap.size, 0, none⟩)]) rfl (enters_of Tryz.func130 (by kernel_rfl) rfl) (encs := encOp cs) (Rd := codeRd w3.heap.size a cs) (opsL cs)
    (fun k hk => by
      rcases hk with rfl | hk
      · omega
      · have := hold k hk; omega) hbR1 (fun W hW => ops_seq cs _ a c W (hx1.below hW) ((h.below hb1).below hW)) (fun x => rfl) (OfS w cs a c) (fun _ _ _ _ => False) (fun k S => fldR_fac) (fun _ _ _ => ⟨fun _ _ h _ _ => h, fun _ h => h.elim⟩) (· = w.heap.size + 1)
    (fun j hj => ⟨by omega, fun hr => by
      rcases hr with rfl | hr
      · omega
      · have := hold j hr; omega⟩) ⟨_, hX4.out, ⟨by simp, .inl ⟨rfl, rfl⟩⟩, rfl, (by rintro g h; cases h), fun j hj => by omega⟩ ?round ?done ?stop
  case round =>
    intro l0 k hk W
    unfold encOp
    dsimp only
    have hst : Hid (((opsL cs).take (k + 1)).flatMap (opC cs) = ((opsL cs).take k).flatMap (opC cs) ++ [.int .i64 (opsL cs)[k], .int .u8 (byN cs (opsL cs)[k])]) := qh (hstep.out k hk)
    have hlk : Hid (((opsL cs).take (k + 1)).length = ((opsL cs).take k).length + 1) := qh (by rw [List.length_take, List.length_take]; omega)
    have hm1 : ((opsL cs).take k).length ≤ 200 := by rw [List.length_take]; omega
    have hOS : OfS w cs a c k = FldR w.heap.size 81 2 73 (w.heap.size + 1) (textF a cs.length c) ((opsL cs).take k).length (((opsL cs).take k).flatMap (opC cs)) := by funext S W; rfl
    have hOS2 : OfS w cs a c (k + 1) = FldR w.heap.size 81 2 73 (w.heap.size + 1) (textF a cs.length c) ((opsL cs).take (k + 1)).length (((opsL cs).take (k + 1)).flatMap (opC cs)) := by funext S W; rfl
    rw [hst.out, hlk.out] at hOS2
    replace hOS2 := qh hOS2
    generalize (((opsL cs).take k).flatMap (opC cs)) = C at *
    generalize ((opsL cs).take k).length = m at *
    generalize (opsL cs)[k] = x at *
    gi_wp2
    refine ⟨trivial, fun S W2 hb2 hzz _ hSo hS => ?_⟩
    have hsz2 := hb2.size
    rw [hOS] at hS
    obtain ⟨v, h1, h2, h3, h4, h5⟩ := hS
    have hcb := h1.cell 1 (by show 1 < 2; omega)
    have hb3' : Below W2.heap.size W2 (W2.alloc (.cells #[.int .i64 x, .int .u8 (byN cs x)] 81)) := xalloc (xrefl _) _
    have hmid := qh fun V5 W5 (hg5 : (W2.alloc (.cells #[.int .i64 x, .int .u8 (byN cs x)] 81)).grownBy W5 v.ownBlock) (o5 : W5.ownsRow w.heap.size 81 2 V5 (m + 1) (C ++ [.int .i64 x, .int .u8 (byN cs x)])) hvb => fldR_next (S := S) (T := 73) (k := 1) (by decide) (rfl : (textF a cs.length c v).set 1 V5 = _) h1 h2 h3 h4 hb3' hg5 o5 hvb
    have h2a := qh (h2.alloc (.cells #[.int .i64 x, .int .u8 (byN cs x)] 81))
    have hne := qh (own_neG h2 h1 (by decide))
    have h1a := qh (h1.below hb3')
    replace h5 := qh h5
    replace hSo := qh hSo
    have hq1 := qh (rowV_new W2 81 [.int .i64 x, .int .u8 (byN cs x)])
    clear h1 h2 h3 h4 hb3' hb2 hOS
    obtain ⟨a4, c4, rfl⟩ := own_sliceV h2a.out
    simp only [textF, List.getElem_cons_zero, List.getElem_cons_succ] at hcb
    generalize byN cs x = y at *
    gi_wp2_with (gi_at_builtin; refine wpListIn_append_blkV (W2.alloc (.cells #[.int .i64 x, .int .u8 y] 81)) rfl _ _ 71 rfl w.heap.size 81 i0 (.agg #[.int .i64 0, .int .u8 0]) 2 16 Tryz.underlying71 hi0 hz0 hz1 hz2 rfl (by decide) (.slice a4 m c4) m _ rfl h2a.out ⟨W2.heap.size, 0, none⟩ 1 1 [.int .i64 x, .int .u8 y] rfl rfl (by intro j u hj; obtain ⟨hl, rfl⟩ := List.getElem?_eq_some_iff.1 hj; obtain ⟨b', o', e', hc'⟩ := hq1.out j hl; cases e'; rw [Addr.add_lit]; exact hc') (by simp [Value.oneCell']) (by unfold maxLen; omega) (by omega) (by rw [World.size_alloc]; omega) ?_; intro V5 W5 o5 hg5 hvb; have hfin := qh (hmid.out V5 W5 hg5 o5 hvb); have c5 := (h1a.out.only (only_grown hg5) hne.out); have cc5 := c5.cell 1 (by show 1 < 2; omega); have cf5 := c5.free 1; simp only [textF, List.getElem_cons_zero, List.getElem_cons_succ] at cc5; obtain ⟨a5, e5, rfl⟩ := own_sliceV o5; clear hg5 o5 hvb c5 hmid)
    obtain ⟨ho, S', hS', hB⟩ := hfin.out
    exact ⟨ho, S', hS', by rw [hOS2.out]; exact hB⟩
  case done =>
    intro D S W hD hSD hb _ hSlo hS hK
    unfold OfS at hS
    rw [hall.out.1, hall.out.2] at hS
    obtain ⟨v, h1, h2, h3, h4, h5⟩ := hS
    have hRW := qh (hR0.out.below hb)
    obtain ⟨p, q, rfl, hO, hpn⟩ := OpsAt.own h2
    replace h1 := qh h1
    replace hO := qh hO
    replace hK := qh hK
    have hbD := qh (show w1.heap.size ≤ D from hD)
    have hpD : Hid (∀ x, p = some x → x.block ≠ w.heap.size ∧ x.block ≠ D) := qh fun x hx => ⟨fun e => by have h8 := h4 x.block (by rw [hx]; rfl); have := (own_lt h2 (g := x.block) (by rw [hx]; rfl)).1; have h9 := hSlo _ h8; omega, fun e => hSD (by rw [← e]; exact h4 _ (by rw [hx]; rfl))⟩
    go_wp2_with (first
      | (refine wpList_load_blkG rfl 73 _ rfl (w.heap.size + 1) rfl 73 _ _ h1.out Tryz.underlying73 rfl (by kernel_rfl) ?_)
      | (refine wpList_store_blkG rfl 73 _ _ rfl w.heap.size rfl 73 _ (textF a cs.length c (.slice p (opsL cs).length q)) hRW.out rfl rfl (by kernel_rfl) rfl ?_; intro w6 hX6 ho6; replace hX6 := qh hX6; replace ho6 := qh ho6))
    have hb6 := qh (ho6.out.below (hb0.out.trans (hb.mono (by omega))) (Nat.le_trans (by omega) hb.size) (by rintro k rfl; exact Nat.le_refl _))
    have hDD := hbD.out
    have hK6 := (ho6.out.same D (Array.getElem?_eq_some_iff.1 hK.out).1 (by omega)).trans hK.out
    have hput := (Only.refl (· = D) w6).putObj D (.deferred none) rfl
    refine ⟨by simp [Act.put], .inl ⟨_, _, rfl, run_takeDeferred hK6, ?_⟩⟩
    refine ⟨_, results_blkG (p := 2) rfl _ _ w.heap.size 73 _ _ rfl (hX6.out.only hput (by omega)) Tryz.underlying73 rfl (by kernel_rfl), ⟨p, q, rfl, (hO.out.only ho6.out (fun x hx => (hpD.out x hx).1)).only hput (fun x hx => (hpD.out x hx).2), hpn⟩, hput.below hb6.out hb6.out.size (by rintro i rfl; omega)⟩
  case stop => 
    intro D k c S W _ _ _ _ _ _ h
    exact h.elim
end
end Go.Proofs.YtijkdabmegbcjaaGreatDoor
