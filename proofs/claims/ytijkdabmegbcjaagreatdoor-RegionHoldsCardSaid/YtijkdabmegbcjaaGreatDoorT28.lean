/- Texts of this claim, merged; no condition. -/
import Derived.Test.YtijkdabmegbcjaaGreatDoorT27
import Derived.Test.YtijkdabmegbcjaaGreatDoorTA
set_option linter.all false
namespace Go.Proofs.YtijkdabmegbcjaaGreatDoor
open Go.RowKit Go.Shelf
def newT (B : Nat) (T : TypeId) (vs : List Value) : Told := ⟨fun v => ∃ b : Nat, v = .pointer (some ⟨b, 0, none⟩), fun v W => ∀ b : Nat, v = .pointer (some ⟨b, 0, none⟩) → BlkG W b T vs ∧ B ≤ b, ⟨_, 0, rfl⟩, fun v W W' h hb b e => ⟨(h b e).1.below hb, (h b e).2⟩⟩
theorem wpList_putI {P : Program} {ops : Array Oper} {rest : List Oper} {o : Oper} {a : Act} {w : World} {Q : Exit → Act → World → Prop} (hgd : o.guard = none) (t k e : TypeId) (q : IntKind) (x y z : Operand) (ho : o.op = .mapUpdate t x y z)
    (ht : P.underlying t = some (.map k e)) (hk : P.underlying k = some (.int q)) (b : Nat) (n : Int) (v : Value) (l : List (Int × Value)) (hx : a.eval x = .map (some b)) (hy : a.eval y = .int q n) (hz : a.eval z = v)
    (hb : w.heap[b]? = some (mapI q l))
    (h : ∀ w', w'.heap[b]? = some (mapI q (updI n v l)) → Only (· = b) w w' → wpList P ops Q rest (a.put o.dst undef) w') : wpList P ops Q (o :: rest) a w := by
  refine wpList_plain hgd fun _ hK => ?_
  unfold Oper.wp execOp
  simp only [ho, hx, hy, hz, Sem.run_bind, run_putI ht hk n v w b l hb, Result.andThen_ok, Sem.run_pure]
  have hlt : b < w.heap.size := (Array.getElem?_eq_some_iff.1 hb).1
  exact hK _ _ (h _ (World.putObj_heap_same hlt) ((Only.refl _ _).putObj b _ rfl))
def addK (K : List Nat) (n : Nat) : List Nat := if n ∈ K then K else K ++ [n]
def addAll (K D : List Nat) : List Nat := D.foldl addK K
theorem addAll_snoc (K D : List Nat) (n : Nat) : addAll K (D ++ [n]) = addK (addAll K D) n := by unfold addAll; rw [List.foldl_append]; rfl
theorem mem_addK (K : List Nat) (n x : Nat) : x ∈ addK K n ↔ x = n ∨ x ∈ K := by
  unfold addK
  split
  · rename_i h; exact ⟨.inr, fun e => e.elim (fun e => e ▸ h) id⟩
  · rw [List.mem_append, List.mem_singleton]; exact ⟨fun h => h.elim .inr .inl, fun h => h.elim .inr .inl⟩
theorem mem_addAll (D : List Nat) : ∀ (K : List Nat) (x : Nat), x ∈ addAll K D ↔ x ∈ K ∨ x ∈ D := by
  induction D with
  | nil => intro K x; simp [addAll]
  | cons n D ih =>
    intro K x
    show x ∈ addAll (addK K n) D ↔ _
    rw [ih, mem_addK, List.mem_cons]
    constructor
    · rintro ((h | h) | h)
      · exact .inr (.inl h)
      · exact .inl h
      · exact .inr (.inr h)
    · rintro (h | h | h)
      · exact .inl (.inr h)
      · exact .inl (.inl h)
      · exact .inr h
theorem nodup_addK {K : List Nat} (h : K.Nodup) (n : Nat) : (addK K n).Nodup := by
  unfold addK
  split
  · exact h
  · rename_i hn
    rw [List.nodup_append]
    exact ⟨h, by simp, fun a ha b hb e => hn (by simp at hb; subst hb; rw [← e]; exact ha)⟩
theorem nodup_addAll (D : List Nat) : ∀ {K : List Nat}, K.Nodup → (addAll K D).Nodup := by
  induction D with
  | nil => intro K h; exact h
  | cons n D ih => intro K h; exact ih (nodup_addK h n)
theorem updI_addK (n : Nat) (v : Value) : ∀ (l : List (Int × Value)) (K : List Nat), l.map (·.1) = natI K → (updI (n : Int) v l).map (·.1) = natI (addK K n)
  | [], [], _ => rfl
  | [], _ :: _, h => by simp [natI] at h
  | x :: l, [], h => by simp [natI] at h
  | x :: l, k :: K, h => by
    rw [List.map_cons, natI_cons] at h
    injection h with h1 h2
    unfold updI
    by_cases e : (n : Int) = x.1
    · rw [if_pos e]
      have e2 : n = k := by rw [h1] at e; omega
      subst e2
      unfold addK
      rw [if_pos (by simp), List.map_cons, natI_cons, h2]
    · rw [if_neg e]
      have e2 : n ≠ k := fun h => e (by rw [h, h1])
      rw [List.map_cons, updI_addK n v l K h2, h1]
      unfold addK
      by_cases hm : n ∈ K
      · rw [if_pos hm, if_pos (by simp [hm]), natI_cons]
      · rw [if_neg hm, if_neg (by simp [hm, e2]), List.cons_append, natI_cons]
theorem setL_addAll (D : List Nat) : setL (addAll [] D) = setL D := sl_ext (setL_sl _) (setL_sl _) fun x => by rw [mem_setL, mem_setL, mem_addAll]; simp
def KeysAt (W : World) (bm : Nat) (K : List Nat) : Prop := ∃ l, W.heap[bm]? = some (mapI .i64 l) ∧ l.map (·.1) = natI K
theorem KeysAt.below {W W' : World} {bm : Nat} {K : List Nat} (h : KeysAt W bm K) (hb : Below W.heap.size W W') : KeysAt W' bm K := by
  obtain ⟨l, h1, h2⟩ := h
  exact ⟨l, (hb.block bm (Array.getElem?_eq_some_iff.1 h1).1).trans h1, h2⟩
theorem KeysAt.only {O : Nat → Prop} {W W' : World} {bm : Nat} {K : List Nat} (h : KeysAt W bm K) (ho : Only O W W') (hb : ¬ O bm) : KeysAt W' bm K := by
  obtain ⟨l, h1, h2⟩ := h
  exact ⟨l, (ho.same bm (Array.getElem?_eq_some_iff.1 h1).1 hb).trans h1, h2⟩
theorem map_not_cell {w : World} {b : Nat} {q : IntKind} {l : List (Int × Value)} (h : w.heap[b]? = some (mapI q l)) {o : Nat} {v : Value} (hc : w.cell? ⟨b, o, none⟩ = some v) : False := by
  unfold World.cell? at hc
  simp [h, mapI] at hc
theorem tosJ_le (cs g : List Nat) : (tosJ cs g).1.length ≤ cs.length + 1 := by
  unfold tosJ
  split
  · simp
  · split
    · have := nodup_le (marksL_sl cs).nodup fun x hx => (marksL_lt hx).1
      exact Nat.le_succ_of_le this
    · split <;> simp
theorem tosF_le (cs g : List Nat) : (tosF cs g).1.length ≤ 1 := by
  unfold tosF
  split
  · simp
  · split <;> simp
def roundD (cs g : List Nat) : Nat → List Nat
  | 0 => []
  | 1 => (tosJ cs g).1
  | _ => (tosJ cs g).1 ++ (tosF cs g).1
def roundE (cs g : List Nat) : Nat → Bool
  | 0 => false
  | 1 => (tosJ cs g).2
  | _ => (tosJ cs g).2 || (tosF cs g).2
set_option maxRecDepth 100000 in
set_option maxHeartbeats 8000000 in
theorem block_any (cs g : List Nat) (a po p : Option Addr) (c qo q cb : Nat) (vb : Value) (w : World) (h : CodeAt w a c cs) (hC : BlkG w cb 76 [.slice a cs.length c, .slice po (opsL cs).length qo, vb]) (hO : OpsAt w po qo cs (opsL cs)) (hg : OpsAt w p q cs g) (hgs : g ∈ grps cs) :
    Calls Tryz.prog 42 #[.pointer (some ⟨cb, 0, none⟩), .slice p g.length q] w fun e w' => (∃ p' q', e = .returned (blkV p' q' (blkN cs g)) ∧ IntsAt w' p' q' (blkN cs g).next ∧ ∀ x, p' = some x → w.heap.size ≤ x.block) ∧ Below w.heap.size w w' := by
  have hlen := h.len
  have h0 := grps_ne hgs
  have hgc : ∀ x ∈ g, x < cs.length := fun x hx => opsL_lt (grps_mem hgs hx)
  have hgl : g.length ≤ 200 := by have := nodup_le (grps_sl hgs).nodup hgc; omega
  obtain ⟨n1, hn1⟩ : ∃ n1, g.length = n1 + 1 := ⟨g.length - 1, by have := List.length_pos_iff.2 h0; omega⟩
  have hn2 : n1 ≤ 199 := by omega
  have hR0 : Hid (BlkG ((w.alloc (.cells #[.int .i64 0, .int .i64 0, .slice none 0 0, .bool false] 51)).alloc (.map #[] 0)) w.heap.size 51 (blkC none 0 blk0)) := qh ((BlkG.new w _ (blkC none 0 blk0)).alloc _)
  have hM0 : Hid (KeysAt ((w.alloc (.cells #[.int .i64 0, .int .i64 0, .slice none 0 0, .bool false] 51)).alloc (.map #[] 0)) (w.heap.size + 1) []) := qh ⟨[], by have := World.alloc_heap_new (w.alloc (.cells #[.int .i64 0, .int .i64 0, .slice none 0 0, .bool false] 51)) (.map #[] 0); rwa [World.size_alloc] at this, rfl⟩
  have hb0 : Hid (Below w.heap.size w ((w.alloc (.cells #[.int .i64 0, .int .i64 0, .slice none 0 0, .bool false] 51)).alloc (.map #[] 0))) := qh (xalloc (xalloc (xrefl w) _) _)
  obtain ⟨w0, hw0⟩ : ∃ w0, ((w.alloc (.cells #[.int .i64 0, .int .i64 0, .slice none 0 0, .bool false] 51)).alloc (.map #[] 0)) = w0 := ⟨_, rfl⟩
  rw [hw0] at hR0 hM0 hb0
  have hw2 : w0.heap.size = w.heap.size + 2 := by rw [← hw0, World.size_alloc, World.size_alloc]
  replace hw0 := qh hw0
  have hjump := qh fun W (hW : Below w.heap.size w W) => jumps_any cs g a po p c qo q W (h.below hW) (hg.below hW) h0 hgl hgc
  have hfall := qh fun W (hW : Below w.heap.size w W) => falls_any cs g a po p c qo q W (h.below hW) (hO.below hW) (hg.below hW) hgs hgl
  rw [hn1] at hjump hfall ⊢
  obtain ⟨b, o, rfl, hr⟩ := hg.elt 0 (by omega)
  obtain ⟨b', o', e', hr'⟩ := hg.elt n1 (by omega)
  cases e'
  rw [← lst_at hn1] at hr'
  rw [← fst_get (by omega)] at hr
  have hf0 : w0.cell? ⟨b, o, none⟩ = some (.int .i64 (fstN g)) := by have := cbel hb0.out (hr 0 _ rfl); simpa using this
  have hl0 : w0.cell? ⟨b, o + n1 * 2, none⟩ = some (.int .i64 (lstN g)) := cbel hb0.out (hr' 0 _ rfl)
  have hCr : Hid (w.rangeAt cb 0 [.slice a cs.length c, .slice po (opsL cs).length qo]) := qh fun j v hj => by
    have hj2 : j < 2 := (List.getElem?_eq_some_iff.1 hj).1
    have := hC.range j v (by
      match j, hj2 with
      | 0, _ => exact hj
      | 1, _ => exact hj)
    exact this
  have hB : Hid (blkN cs g = ⟨fstN g, lstN g, setL (addAll [] (roundD cs g 2)), roundE cs g 2⟩) := qh (by rw [setL_addAll]; rfl)
  have hut := Tryz.underlying73
  have hub := Tryz.underlying51
  have hix : ∀ w, (Instr.index 119 (.agg #[.func (.func 74) #[] #[], .func (.func 75) #[] #[]]) (.int .i64 0)).run Tryz.prog w = .ok (.func (.func 74) #[] #[]) w := fun _ => by kernel_rfl
  have hix1 : ∀ w, (Instr.index 119 (.agg #[.func (.func 74) #[] #[], .func (.func 75) #[] #[]]) (.int .i64 1)).run Tryz.prog w = .ok (.func (.func 75) #[] #[]) w := fun _ => by kernel_rfl
  have hmm : ∀ w, (Instr.makeMap 95 none).run Tryz.prog w = .ok (.map (some w.heap.size)) (w.alloc (.map #[] 0)) := fun _ => rfl
  have hjl : ∀ x ∈ (tosJ cs g).1, x < cs.length := fun x hx => (marksL_lt (tosJ_lt cs g x hx)).1
  have hfl : ∀ x ∈ (tosF cs g).1, x < cs.length := fun x hx => (tosF_lt cs g x hx).2
  have hj5 : (tosJ cs g).1.length ≤ 1000 := by have := tosJ_le cs g; omega
  have hf5 : (tosF cs g).1.length ≤ 1000 := by have := tosF_le cs g; omega
  have hKl : Hid ((addAll [] (roundD cs g 2)).length ≤ 1000 ∧ (addAll [] (roundD cs g 2)).Nodup) := qh ⟨by
    have h1 := nodup_le (nodup_addAll (roundD cs g 2) (K := []) List.nodup_nil) (n := cs.length) fun x hx => by
      rw [mem_addAll] at hx
      rcases hx with hx | hx
      · simp at hx
      · rcases List.mem_append.1 (show x ∈ (tosJ cs g).1 ++ (tosF cs g).1 from hx) with hx | hx
        · exact hjl x hx
        · exact hfl x hx
    omega, nodup_addAll _ List.nodup_nil⟩
  have hD : Hid (addAll (addAll [] (roundD cs g 0)) (tosJ cs g).1 = addAll [] (roundD cs g 1) ∧ addAll (addAll [] (roundD cs g 1)) (tosF cs g).1 = addAll [] (roundD cs g 2)) := qh ⟨rfl, (List.foldl_append ..).symm⟩
  have hE : Hid ((roundE cs g 0 || (tosJ cs g).2) = roundE cs g 1 ∧ (roundE cs g 1 || (tosF cs g).2) = roundE cs g 2) := qh ⟨rfl, rfl⟩
  clear hr hr' hC hO hg h0 hgc hgl hn1 hjl hfl
  generalize blkN cs g = R at *
  generalize fstN g = f at *
  generalize lstN g = l at *
  go_enter Tryz.func42, Tryz.ntmps42
  go_upto_region 2 with fail
  refine wp_world (w' := w0) hw0.out ?_
  clear hw0
  have hwm : IntKind.i64.wrap (n1 : Int) = n1 := by simp [IntKind.wrap, IntKind.bits, IntKind.signed]; omega
  have hml : (n1 : Int) < (n1 : Int) + 1 := by omega
  refine' wp_region_growL 13 [fixd _, fixd _, fixd _, fixd _, fixd _, fixd _, fixd _, fixd _, fixd _, fixd _, fixd _, fixd _, newT (w.heap.size + 2) 51 (blkC none 0 blk0)] (by kernel_rfl) (by kernel_rfl) ?_
  rotate_left 12
  simp only [List.take_succ_cons, List.take_zero, List.drop_succ_cons, List.drop_zero]
  try simp only [Act.put, zA, zB, zC, zD, zE]
  refine' wpGrowV_fix _ rfl rfl (fun W hb _ => by go_simp; first | exact xrefl W | exact ⟨rfl, xrefl W⟩) ?_
  try simp only [Act.put, zA, zB, zC, zD, zE]
  refine' wpGrowV_fix _ rfl rfl (fun W hb _ => by go_simp; first | exact xrefl W | exact ⟨rfl, xrefl W⟩) ?_
  try simp only [Act.put, zA, zB, zC, zD, zE]
  refine' wpGrowV_fix _ rfl rfl (fun W hb _ => by go_simp; first | exact xrefl W | exact ⟨rfl, xrefl W⟩) ?_
  try simp only [Act.put, zA, zB, zC, zD, zE]
  refine' wpGrowV_fix _ rfl rfl (fun W hb _ => by have c := cbel hb hf0; go_simp; first | exact xrefl W | exact ⟨rfl, xrefl W⟩) ?_
  try simp only [Act.put, zA, zB, zC, zD, zE]
  refine' wpGrowV_fix _ rfl rfl (fun W hb _ => by go_simp; first | exact xrefl W | exact ⟨rfl, xrefl W⟩) ?_
  try simp only [Act.put, zA, zB, zC, zD, zE]
  refine' wpGrowV_fix _ rfl rfl (fun W hb _ => by go_simp; first | exact xrefl W | exact ⟨rfl, xrefl W⟩) ?_
  try simp only [Act.put, zA, zB, zC, zD, zE]
  refine' wpGrowV_fix _ rfl rfl (fun W hb _ => by go_simp; first | exact xrefl W | exact ⟨rfl, xrefl W⟩) ?_
  try simp only [Act.put, zA, zB, zC, zD, zE]
  refine' wpGrowV_fix _ rfl rfl (fun W hb _ => by go_simp; first | exact xrefl W | exact ⟨rfl, xrefl W⟩) ?_
  try simp only [Act.put, zA, zB, zC, zD, zE]
  refine' wpGrowV_fix _ rfl rfl (fun W hb _ => by go_simp; first | exact xrefl W | exact ⟨rfl, xrefl W⟩) ?_
  try simp only [Act.put, zA, zB, zC, zD, zE]
  refine' wpGrowV_fix _ rfl rfl (fun W hb _ => by go_simp; first | exact xrefl W | exact ⟨rfl, xrefl W⟩) ?_
  try simp only [Act.put, zA, zB, zC, zD, zE]
  refine' wpGrowV_fix _ rfl rfl (fun W hb _ => by have c := cbel hb hl0; go_simp; first | exact xrefl W | exact ⟨rfl, xrefl W⟩) ?_
  try simp only [Act.put, zA, zB, zC, zD, zE]
  refine' wpGrowV_fix _ rfl rfl (fun W hb _ => by go_simp; first | exact xrefl W | exact ⟨rfl, xrefl W⟩) ?_
  try simp only [Act.put, zA, zB, zC, zD, zE]
  refine wpGrowV_any (newT (w.heap.size + 2) 51 (blkC none 0 blk0)) rfl rfl (fun W hb _ => ?_) (fun v hv => ?_)
  · go_simp
    exact ⟨⟨⟨_, rfl⟩, fun b e => by cases e; exact ⟨BlkG.new W _ (blkC none 0 blk0), by have := hb.size; omega⟩⟩, xalloc (xrefl W) _⟩
  obtain ⟨xb, rfl⟩ := hv
  try simp only [Act.put, zA, zB, zC, zD, zE]
  refine wpGrowV_nil fun W5 hb5 hmem => ?_
  obtain ⟨hxB, hxw⟩ := hmem 12 (by decide) xb rfl
  replace hxB := qh hxB
  have hR5 := qh (hR0.out.below hb5)
  have hM5 := qh (hM0.out.below hb5)
  have hrx : Hid (w.heap.size ≠ xb ∧ w.heap.size + 1 ≠ xb ∧ w.heap.size + 1 < W5.heap.size) := qh ⟨by omega, by omega, by have := hb5.size; omega⟩
  replace hb5 := qh (xtrans hb0.out hb5)
  clear hwm hml hmem hf0 hl0
  go_wp2_with (refine wpList_store_blkG rfl 51 _ _ rfl xb rfl 51 _ (blkC none 0 ⟨f, l, [], false⟩) hxB.out rfl rfl (by kernel_rfl) rfl ?_; intro w6 hX6 ho6; have hM6 := qh (hM5.out.only ho6 hrx.out.2.1); have hR6 := qh (hR5.out.only ho6 hrx.out.1); have hb6 := qh (ho6.below hb5.out hb5.out.size (by rintro k rfl; omega)); replace hX6 := qh hX6; clear ho6)
  go_loopw [27] (fun iv wx => ∃ i : Nat, i ≤ 2 ∧ iv = .int .i64 i ∧ Hid (BlkG wx xb 51 (blkC none 0 ⟨f, l, [], roundE cs g i⟩)) ∧ Hid (KeysAt wx (w.heap.size + 1) (addAll [] (roundD cs g i))) ∧ Hid (BlkG wx w.heap.size 51 (blkC none 0 blk0)) ∧ Hid (Below w.heap.size w wx)) (fun iv _ => 2 - (intOf iv).toNat)
  case atStart => exact ⟨0, by omega, rfl, hX6, hM6, hR6, hb6⟩
  case round =>
    obtain ⟨i, hi, rfl, hX, hM, hR, hb⟩ := hrel
    have hi3 : i = 0 ∨ i = 1 ∨ i = 2 := by omega
    clear hX6 hM6 hR6 hb6 hxB hR5 hM5 hb5
    rcases hi3 with rfl | rfl | rfl
    · have hC5 := qh (rangeAt_below hCr.out hb.out)
      have hcall := qh (hjump.out _ hb.out)
      have hl5 : (tosJ cs g).1.length ≤ 1000 := hj5
      have hD5 := qh hD.out.1
      have hE5 := qh hE.out.1
      obtain ⟨K0, hK0⟩ : ∃ K0, addAll [] (roundD cs g 0) = K0 := ⟨_, rfl⟩
      obtain ⟨E0, hE0⟩ : ∃ E0, roundE cs g 0 = E0 := ⟨_, rfl⟩
      rw [hK0] at hM hD5
      rw [hE0] at hX hE5
      obtain ⟨L, hL⟩ : ∃ L, (tosJ cs g).1 = L := ⟨_, rfl⟩
      obtain ⟨E1, hE1⟩ : ∃ E1, (tosJ cs g).2 = E1 := ⟨_, rfl⟩
      unfold IntsB at hcall
      rw [hL] at hl5 hD5 hcall
      rw [hE1] at hE5 hcall
      clear hK0 hE0 hL hE1
      go_wp2_with (first
        | (refine wpList_load_mid rfl 73 _ rfl cb 0 rfl [.slice a cs.length c, .slice po (opsL cs).length qo] _ hC5.out hut rfl (by kernel_rfl) ?_)
        | (go_at_call 74; refine hcall.out.mono ?_; rintro e w6 ⟨⟨y, qy, rfl, hI6⟩, hb6⟩; replace hI6 := qh hI6; have hX6 := qh (hX.out.below hb6); have hM6 := qh (hM.out.below hb6); have hR6 := qh (hR.out.below hb6); replace hb6 := qh (xtrans hb.out hb6)))
      go_loopw [42] (fun jv wy => ∃ j : Nat, j ≤ L.length ∧ jv = .int .i64 j ∧ Hid (BlkG wy xb 51 (blkC none 0 ⟨f, l, [], E0⟩)) ∧ Hid (KeysAt wy (w.heap.size + 1) (addAll K0 (L.take j))) ∧ Hid (BlkG wy w.heap.size 51 (blkC none 0 blk0)) ∧ Hid (IntsAt wy y qy L) ∧ Hid (Below w.heap.size w wy)) (fun jv _ => L.length - (intOf jv).toNat)
      case atStart => exact ⟨0, by omega, rfl, hX6, qh (by rw [List.take_zero]; exact hM6.out), hR6, hI6, hb6⟩
      case round =>
        clear hX6 hM6 hR6 hb6 hI6 hX hM hR hb hC5 hcall
        obtain ⟨j, hj, rfl, hX, hM, hR, hI, hb⟩ := hrel
        by_cases hlt : j < L.length
        · have hltI : (j : Int) < L.length := by omega
          obtain ⟨yb, yo, rfl, hcy⟩ := hI.out.get hlt
          have htk : Hid (L.take (j + 1) = L.take j ++ [L[j]]) := qh (by rw [List.take_add_one, List.getElem?_eq_getElem hlt]; rfl)
          generalize L[j] = z at *
          obtain ⟨ll, hm1, hm2⟩ := hM.out
          have hyb : Hid (yb ≠ w.heap.size + 1) := qh (by rintro rfl; exact map_not_cell hm1 hcy)
          replace hm1 := qh hm1
          replace hm2 := qh hm2
          have hwj : IntKind.i64.wrap ((j : Int) + 1) = (j : Int) + 1 := by simp [IntKind.wrap, IntKind.bits, IntKind.signed]; omega
          go_wp2_with (refine wpList_putI rfl _ 3 4 .i64 _ _ _ rfl (by kernel_rfl) (by kernel_rfl) (w.heap.size + 1) (z : Int) (.bool true) ll rfl rfl rfl hm1.out ?_; intro w7 hm7 ho7; have hX7 := qh (hX.out.only ho7 (fun e => hrx.out.2.1 e.symm)); have hR7 := qh (hR.out.only ho7 (by omega)); have hI7 := qh (hI.out.only ho7 (by rintro x ⟨⟩; exact hyb.out)); have hb7 := qh (ho7.below hb.out hb.out.size (by rintro k rfl; omega)); replace hm7 := qh hm7; clear ho7)
          exact ⟨⟨j + 1, by omega, by go_num, hX7, qh ⟨_, hm7.out, by rw [htk.out, addAll_snoc]; exact updI_addK z _ ll _ hm2.out⟩, hR7, hI7, hb7⟩, by simp [intOf]; omega⟩
        · obtain rfl : j = L.length := by omega
          rw [List.take_length, hD5.out] at hM
          clear hlt
          have hx5 : wr.cell? ⟨xb, 3, none⟩ = some (.bool E0) := by simpa using hX.out.range 3 _ rfl
          have hwi : IntKind.i64.wrap ((0 : Int) + 1) = (1 : Int) := by decide
          cases E0
          · go_wp2_with (refine wpList_store_at rfl 4 _ _ rfl xb 3 rfl 51 _ (.bool E1) hX.out (by show 3 < 4; omega) rfl (by kernel_rfl) rfl ?_; intro w7 hX7 ho7; have hM7 := qh (hM.out.only ho7 hrx.out.2.1); have hR7 := qh (hR.out.only ho7 hrx.out.1); have hb7 := qh (ho7.below hb.out hb.out.size (by rintro k rfl; omega)); replace hX7 := qh hX7; clear ho7)
            exact ⟨⟨1, by omega, by go_num, by rw [← hE5.out]; exact hX7, hM7, hR7, hb7⟩, by simp [intOf]⟩
          · go_wp2_with (refine wpList_store_at rfl 4 _ _ rfl xb 3 rfl 51 _ (.bool true) hX.out (by show 3 < 4; omega) rfl (by kernel_rfl) rfl ?_; intro w7 hX7 ho7; have hM7 := qh (hM.out.only ho7 hrx.out.2.1); have hR7 := qh (hR.out.only ho7 hrx.out.1); have hb7 := qh (ho7.below hb.out hb.out.size (by rintro k rfl; omega)); replace hX7 := qh hX7; clear ho7)
            exact ⟨⟨1, by omega, by go_num, by rw [← hE5.out]; exact hX7, hM7, hR7, hb7⟩, by simp [intOf]⟩
    · have hC5 := qh (rangeAt_below hCr.out hb.out)
      have hcall := qh (hfall.out _ hb.out)
      have hl5 : (tosF cs g).1.length ≤ 1000 := hf5
      have hD5 := qh hD.out.2
      have hE5 := qh hE.out.2
      obtain ⟨K0, hK0⟩ : ∃ K0, addAll [] (roundD cs g 1) = K0 := ⟨_, rfl⟩
      obtain ⟨E0, hE0⟩ : ∃ E0, roundE cs g 1 = E0 := ⟨_, rfl⟩
      rw [hK0] at hM hD5
      rw [hE0] at hX hE5
      obtain ⟨L, hL⟩ : ∃ L, (tosF cs g).1 = L := ⟨_, rfl⟩
      obtain ⟨E1, hE1⟩ : ∃ E1, (tosF cs g).2 = E1 := ⟨_, rfl⟩
      unfold IntsB at hcall
      rw [hL] at hl5 hD5 hcall
      rw [hE1] at hE5 hcall
      clear hK0 hE0 hL hE1
      go_wp2_with (first
        | (refine wpList_load_mid rfl 73 _ rfl cb 0 rfl [.slice a cs.length c, .slice po (opsL cs).length qo] _ hC5.out hut rfl (by kernel_rfl) ?_)
        | (go_at_call 75; refine hcall.out.mono ?_; rintro e w6 ⟨⟨y, qy, rfl, hI6⟩, hb6⟩; replace hI6 := qh hI6; have hX6 := qh (hX.out.below hb6); have hM6 := qh (hM.out.below hb6); have hR6 := qh (hR.out.below hb6); replace hb6 := qh (xtrans hb.out hb6)))
      go_loopw [42] (fun jv wy => ∃ j : Nat, j ≤ L.length ∧ jv = .int .i64 j ∧ Hid (BlkG wy xb 51 (blkC none 0 ⟨f, l, [], E0⟩)) ∧ Hid (KeysAt wy (w.heap.size + 1) (addAll K0 (L.take j))) ∧ Hid (BlkG wy w.heap.size 51 (blkC none 0 blk0)) ∧ Hid (IntsAt wy y qy L) ∧ Hid (Below w.heap.size w wy)) (fun jv _ => L.length - (intOf jv).toNat)
      case atStart => exact ⟨0, by omega, rfl, hX6, qh (by rw [List.take_zero]; exact hM6.out), hR6, hI6, hb6⟩
      case round =>
        clear hX6 hM6 hR6 hb6 hI6 hX hM hR hb hC5 hcall
        obtain ⟨j, hj, rfl, hX, hM, hR, hI, hb⟩ := hrel
        by_cases hlt : j < L.length
        · have hltI : (j : Int) < L.length := by omega
          obtain ⟨yb, yo, rfl, hcy⟩ := hI.out.get hlt
          have htk : Hid (L.take (j + 1) = L.take j ++ [L[j]]) := qh (by rw [List.take_add_one, List.getElem?_eq_getElem hlt]; rfl)
          generalize L[j] = z at *
          obtain ⟨ll, hm1, hm2⟩ := hM.out
          have hyb : Hid (yb ≠ w.heap.size + 1) := qh (by rintro rfl; exact map_not_cell hm1 hcy)
          replace hm1 := qh hm1
          replace hm2 := qh hm2
          have hwj : IntKind.i64.wrap ((j : Int) + 1) = (j : Int) + 1 := by simp [IntKind.wrap, IntKind.bits, IntKind.signed]; omega
          go_wp2_with (refine wpList_putI rfl _ 3 4 .i64 _ _ _ rfl (by kernel_rfl) (by kernel_rfl) (w.heap.size + 1) (z : Int) (.bool true) ll rfl rfl rfl hm1.out ?_; intro w7 hm7 ho7; have hX7 := qh (hX.out.only ho7 (fun e => hrx.out.2.1 e.symm)); have hR7 := qh (hR.out.only ho7 (by omega)); have hI7 := qh (hI.out.only ho7 (by rintro x ⟨⟩; exact hyb.out)); have hb7 := qh (ho7.below hb.out hb.out.size (by rintro k rfl; omega)); replace hm7 := qh hm7; clear ho7)
          exact ⟨⟨j + 1, by omega, by go_num, hX7, qh ⟨_, hm7.out, by rw [htk.out, addAll_snoc]; exact updI_addK z _ ll _ hm2.out⟩, hR7, hI7, hb7⟩, by simp [intOf]; omega⟩
        · obtain rfl : j = L.length := by omega
          rw [List.take_length, hD5.out] at hM
          clear hlt
          have hx5 : wr.cell? ⟨xb, 3, none⟩ = some (.bool E0) := by simpa using hX.out.range 3 _ rfl
          have hwi : IntKind.i64.wrap ((1 : Int) + 1) = (2 : Int) := by decide
          cases E0
          · go_wp2_with (refine wpList_store_at rfl 4 _ _ rfl xb 3 rfl 51 _ (.bool E1) hX.out (by show 3 < 4; omega) rfl (by kernel_rfl) rfl ?_; intro w7 hX7 ho7; have hM7 := qh (hM.out.only ho7 hrx.out.2.1); have hR7 := qh (hR.out.only ho7 hrx.out.1); have hb7 := qh (ho7.below hb.out hb.out.size (by rintro k rfl; omega)); replace hX7 := qh hX7; clear ho7)
            exact ⟨⟨2, by omega, by go_num, by rw [← hE5.out]; exact hX7, hM7, hR7, hb7⟩, by simp [intOf]⟩
          · go_wp2_with (refine wpList_store_at rfl 4 _ _ rfl xb 3 rfl 51 _ (.bool true) hX.out (by show 3 < 4; omega) rfl (by kernel_rfl) rfl ?_; intro w7 hX7 ho7; have hM7 := qh (hM.out.only ho7 hrx.out.2.1); have hR7 := qh (hR.out.only ho7 hrx.out.1); have hb7 := qh (ho7.below hb.out hb.out.size (by rintro k rfl; omega)); replace hX7 := qh hX7; clear ho7)
            exact ⟨⟨2, by omega, by go_num, by rw [← hE5.out]; exact hX7, hM7, hR7, hb7⟩, by simp [intOf]⟩
    · clear hjump hfall
      have hM5 := hM.out
      have hKl5 := hKl.out
      obtain ⟨K, hK⟩ : ∃ K, addAll [] (roundD cs g 2) = K := ⟨_, rfl⟩
      rw [hK] at hM5 hKl5
      obtain ⟨ll, hm1, hm2⟩ := hM5
      have hs := qh fun W (hW : W.heap[w.heap.size + 1]? = some (mapI .i64 ll)) => sortedB_any ll K (w.heap.size + 1) W hW hm2 hKl5.2 hKl5.1
      replace hm1 := qh hm1
      replace hK := qh hK
      clear hm2 hKl5
      have hwx := hX.out.lt
      go_wp2_with (first
        | (go_at_call 76; refine (hs.out _ hm1.out).mono ?_; rintro e w6 ⟨⟨v6, rfl, hv6⟩, hb6⟩; replace hv6 := qh hv6; have hX6 := qh (hX.out.below hb6); have hR6 := qh (hR.out.below hb6); have hz6 := qh (Nat.le_trans hb.out.size (Nat.le_refl _)); replace hb6 := qh (xtrans hb.out hb6); obtain ⟨y, qy, rfl, hI6, hz6⟩ := hv6.out.at; have hys := qh (fun x (e : y = some x) => show ¬ x.block = xb from by have := hz6 x e; omega); have hz8 := qh (fun x (e : y = some x) => Nat.lt_of_lt_of_le hR.out.lt (hz6 x e)); clear hz6; replace hI6 := qh hI6; have hwy := hX6.out.lt)
        | (refine wpList_store_at rfl 42 _ _ rfl xb 2 rfl 51 _ (.slice y (setL K).length qy) hX6.out (by show 2 < 4; omega) rfl (by kernel_rfl) rfl ?_; intro w7 hX7 ho7; have hR7 := qh (hR6.out.only ho7 hrx.out.1); have hb7 := qh (ho7.below hb6.out hb6.out.size (by rintro k rfl; omega)); have hI7 := qh (hI6.out.only ho7 hys.out); replace hX7 := qh (show BlkG w7 xb 51 (blkC y qy ⟨f, l, setL K, roundE cs g 2⟩) from hX7); clear ho7)
        | (refine wpList_load_blkG rfl 51 _ rfl xb rfl 51 _ _ hX7.out hub rfl (by kernel_rfl) ?_)
        | (refine wpList_store_blkG rfl 51 _ _ rfl w.heap.size rfl 51 _ (blkC y qy ⟨f, l, setL K, roundE cs g 2⟩) hR7.out rfl rfl (by kernel_rfl) rfl ?_; intro w8 hR8 ho8; have hb8 := qh (ho8.below hb7.out hb7.out.size (by rintro k rfl; omega)); have hI8 := qh (hI7.out.only ho8 (fun x e => show ¬ x.block = w.heap.size from by have := hz8.out x e; omega)); replace hR8 := qh hR8; clear ho8))
      rw [hB.out, hK.out]
      exact bodyPost_ret (results_blkG (p := 4) rfl _ _ w.heap.size 51 _ _ rfl hR8.out hub rfl (by kernel_rfl)) rfl ⟨⟨y, qy, rfl, hI8.out, fun x e => Nat.le_of_lt (hz8.out x e)⟩, hb8.out⟩
end Go.Proofs.YtijkdabmegbcjaaGreatDoor
