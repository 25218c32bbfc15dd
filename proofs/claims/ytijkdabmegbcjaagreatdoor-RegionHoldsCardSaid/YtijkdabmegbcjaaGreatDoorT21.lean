/- Texts of this claim, merged; no condition. -/
import Derived.Test.YtijkdabmegbcjaaGreatDoorT20
import Derived.Test.YtijkdabmegbcjaaGreatDoorTA
set_option linter.all false
namespace Go.Proofs.YtijkdabmegbcjaaGreatDoor
section
open Go.RowKit Go.Shelf
def famL : List (Value × Value) := [(.string ⟨#[80, 85, 83, 72]⟩, .agg #[.int .i64 96, .int .i64 32, .func (.func 153) #[] #[]]), (.string ⟨#[68, 85, 80]⟩, .agg #[.int .i64 128, .int .i64 16, .func (.func 154) #[] #[]]), (.string ⟨#[83, 87, 65, 80]⟩, .agg #[.int .i64 144, .int .i64 16, .func (.func 155) #[] #[]]), (.string ⟨#[76, 79, 71]⟩, .agg #[.int .i64 160, .int .i64 5, .func (.func 156) #[] #[]])]
set_option maxRecDepth 100000 in
set_option maxHeartbeats 2000000 in
theorem families_any (w : World) : Calls Tryz.prog 133 #[] w fun e w' => (∃ b, e = .returned (.map (some b)) ∧ w'.heap[b]? = some (mapG famL) ∧ w.heap.size ≤ b) ∧ Below w.heap.size w w' := by
  have hM0 : Hid ((w.alloc (mapG [])).heap[w.heap.size]? = some (mapG [])) := qh (World.alloc_heap_new w _)
  have hb0 : Hid (Below w.heap.size w (w.alloc (mapG []))) := qh (xalloc (xrefl w) _)
  go_enter Tryz.func133, Tryz.ntmps133
  go_upto_region 1 with fail
  refine wp_region_lit ?_
  refine wpList_execW rfl (.map (some w.heap.size)) (w.alloc (mapG [])) rfl ?_
  generalize w.alloc (mapG []) = w0 at *
  simp only [Act.put, zA, zB, zC]
  refine wpList_execW rfl (.agg #[.int .i64 96, .int .i64 32, .func (.func 153) #[] #[]]) w0 (by kernel_rfl) ?_
  simp only [Act.put, zA, zB, zC]
  refine wpList_insertS rfl 186 9 190 _ _ _ rfl Tryz.underlying186 Tryz.underlying9 w.heap.size ⟨#[80, 85, 83, 72]⟩ (.agg #[.int .i64 96, .int .i64 32, .func (.func 153) #[] #[]]) [] rfl rfl rfl hM0.out (by kernel_rfl) ?_
  intro w1 hM1 hq
  replace hM1 := qh hM1
  have hb1 := qh (hq.below hb0.out hb0.out.size (by rintro k rfl; exact Nat.le_refl _))
  clear hq
  simp only [Act.put, zA, zB, zC]
  refine wpList_execW rfl (.agg #[.int .i64 128, .int .i64 16, .func (.func 154) #[] #[]]) w1 (by kernel_rfl) ?_
  simp only [Act.put, zA, zB, zC]
  refine wpList_insertS rfl 186 9 190 _ _ _ rfl Tryz.underlying186 Tryz.underlying9 w.heap.size ⟨#[68, 85, 80]⟩ (.agg #[.int .i64 128, .int .i64 16, .func (.func 154) #[] #[]]) [(.string ⟨#[80, 85, 83, 72]⟩, .agg #[.int .i64 96, .int .i64 32, .func (.func 153) #[] #[]])] rfl rfl rfl hM1.out (by kernel_rfl) ?_
  intro w2 hM2 hq
  replace hM2 := qh hM2
  have hb2 := qh (hq.below hb1.out hb1.out.size (by rintro k rfl; exact Nat.le_refl _))
  clear hq
  simp only [Act.put, zA, zB, zC]
  refine wpList_execW rfl (.agg #[.int .i64 144, .int .i64 16, .func (.func 155) #[] #[]]) w2 (by kernel_rfl) ?_
  simp only [Act.put, zA, zB, zC]
  refine wpList_insertS rfl 186 9 190 _ _ _ rfl Tryz.underlying186 Tryz.underlying9 w.heap.size ⟨#[83, 87, 65, 80]⟩ (.agg #[.int .i64 144, .int .i64 16, .func (.func 155) #[] #[]]) [(.string ⟨#[80, 85, 83, 72]⟩, .agg #[.int .i64 96, .int .i64 32, .func (.func 153) #[] #[]]), (.string ⟨#[68, 85, 80]⟩, .agg #[.int .i64 128, .int .i64 16, .func (.func 154) #[] #[]])] rfl rfl rfl hM2.out (by kernel_rfl) ?_
  intro w3 hM3 hq
  replace hM3 := qh hM3
  have hb3 := qh (hq.below hb2.out hb2.out.size (by rintro k rfl; exact Nat.le_refl _))
  clear hq
  simp only [Act.put, zA, zB, zC]
  refine wpList_execW rfl (.agg #[.int .i64 160, .int .i64 5, .func (.func 156) #[] #[]]) w3 (by kernel_rfl) ?_
  simp only [Act.put, zA, zB, zC]
  refine wpList_insertS rfl 186 9 190 _ _ _ rfl Tryz.underlying186 Tryz.underlying9 w.heap.size ⟨#[76, 79, 71]⟩ (.agg #[.int .i64 160, .int .i64 5, .func (.func 156) #[] #[]]) [(.string ⟨#[80, 85, 83, 72]⟩, .agg #[.int .i64 96, .int .i64 32, .func (.func 153) #[] #[]]), (.string ⟨#[68, 85, 80]⟩, .agg #[.int .i64 128, .int .i64 16, .func (.func 154) #[] #[]]), (.string ⟨#[83, 87, 65, 80]⟩, .agg #[.int .i64 144, .int .i64 16, .func (.func 155) #[] #[]])] rfl rfl rfl hM3.out (by kernel_rfl) ?_
  intro w4 hM4 hq
  replace hM4 := qh hM4
  have hb4 := qh (hq.below hb3.out hb3.out.size (by rintro k rfl; exact Nat.le_refl _))
  clear hq
  simp only [Act.put, zA, zB, zC]
  refine wpList_execW rfl (.map (some w.heap.size)) w4 rfl ?_
  refine wpList_execW rfl (.map (some w.heap.size)) w4 rfl ?_
  refine wpList_nil ?_
  simp only [Act.put, zA, zB, zC]
  go_wp2
  go_ret
  exact ⟨⟨_, rfl, hM4.out, Nat.le_refl _⟩, hb4.out⟩
end
section
open Go.RowKit Go.Shelf
theorem alone_len : aloneRows.length = 75 := by decide +kernel
theorem alone_at : ∀ i : Fin 75, infoN (aloneRows.getD i.1 (0, noInfo)).1 = (aloneRows.getD i.1 (0, noInfo)).2 ∧ namedN (aloneRows.getD i.1 (0, noInfo)).1 = true ∧ (aloneRows.getD i.1 (0, noInfo)).1 < 256 := by decide +kernel
theorem rowGet_none (c : Nat) : ∀ l : List (Nat × InfoN), (∀ x ∈ l, x.1 ≠ c) → rowGet c l = noInfo
  | [], _ => rfl
  | x :: l, h => by rw [rowGet, if_neg (fun e => h x (by simp) e.symm)]; exact rowGet_none c l fun y hy => h y (by simp [hy])
theorem info_out {c : Nat} (hc : c < 256) (ha : ∀ j, j < 75 → (aloneRows.getD j (0, noInfo)).1 ≠ c) (hf : famN c = none) : infoN c = noInfo ∧ namedN c = false := by
  have e : infoN c = noInfo := by
    unfold infoN
    rw [hf]
    refine rowGet_none c _ fun x hx => ?_
    obtain ⟨j, hj, rfl⟩ := List.getElem_of_mem (show x ∈ aloneRows from hx)
    have := ha j (by rw [← alone_len]; exact hj)
    rwa [getD_lt _ hj] at this
  refine ⟨e, ?_⟩
  have := info_named c hc
  rw [e] at this
  simpa [noInfo] using this
theorem fam_in {c : Nat} (hc : c < 256) (h : famN c ≠ none) : namedN c = true := by
  have : ∀ c : Fin 256, famN c.1 ≠ none → namedN c.1 = true := by decide +kernel
  exact this ⟨c, hc⟩ h
theorem aloneC_len (r : Nat × InfoN) : (aloneC r).length = 7 := rfl
theorem run_index_alone (i : Nat) (hi : i < 75) (W : World) : (Instr.index 184 (.agg aloneV.toArray) (.int .i64 i)).run Tryz.prog W = .ok (.agg (aloneC (aloneRows.getD i (0, noInfo))).toArray) W := by
  have hu := run_underlying Tryz.underlying184 W
  have hu2 := run_underlying Tryz.underlying183 W
  obtain ⟨k, hk, hs⟩ : ∃ k, Tryz.prog.info? 183 = some k ∧ k.size = 7 := by
    have : (Tryz.prog.info? 183).map (·.size) = some 7 := by kernel_rfl
    cases hq : Tryz.prog.info? 183 with
    | none => rw [hq] at this; cases this
    | some k => rw [hq] at this; exact ⟨k, rfl, by simpa using this⟩
  have hx : List.take 7 (List.drop (i * 7) aloneV) = aloneC (aloneRows[i]?.getD (0, noInfo)) := by
    have hal := alone_len
    have hil : i < aloneRows.length := by omega
    apply List.ext_getElem?
    intro j
    rw [List.getElem?_take]
    split
    · rename_i hj
      rw [List.getElem?_drop]
      have := flat_get 7 aloneC aloneC_len aloneRows i j hil (by omega)
      rw [List.getElem?_eq_getElem hil]
      exact this
    · rename_i hj
      rw [List.getElem?_eq_none]
      rw [aloneC_len]
      omega
  have hlt : ((i : Nat) : Int) < 75 := by omega
  unfold Instr.index part isAgg sizeOf typeInfo
  simp [asIntOf, hu, hu2, Sem.run_bind, hk, hs, hlt, Result.andThen, Sem.run]
  rw [if_pos hi, hx]
def famOff (op : Nat) (j : Nat) : Prop := match j with | 0 => ¬ (96 ≤ op ∧ op ≤ 127) | 1 => ¬ (128 ≤ op ∧ op ≤ 143) | 2 => ¬ (144 ≤ op ∧ op ≤ 159) | _ => ¬ (160 ≤ op ∧ op ≤ 164)
theorem fam_off {op : Nat} (h : ∀ j, j < 4 → famOff op j) : famN op = none := by
  have h0 := h 0 (by omega)
  have h1 := h 1 (by omega)
  have h2 := h 2 (by omega)
  have h3 := h 3 (by omega)
  unfold famN
  rw [if_neg h0, if_neg h1, if_neg h2, if_neg h3]
theorem fam_on {op : Nat} (hop : op < 256) {j : Nat} (hj : j < 4) (h : ¬ famOff op j) : namedN op = true := by
  refine fam_in hop fun e => h ?_
  unfold famN at e
  match j, hj with
  | 0, _ => intro hh; rw [if_pos hh] at e; cases e
  | 1, _ => intro hh; rw [if_neg (by omega), if_pos hh] at e; cases e
  | 2, _ => intro hh; rw [if_neg (by omega), if_neg (by omega), if_pos hh] at e; cases e
  | 3, _ => intro hh; rw [if_neg (by omega), if_neg (by omega), if_neg (by omega), if_pos hh] at e; cases e
theorem rangeAt_tail {w : World} {b : Nat} {T : TypeId} {v : Value} {vs : List Value} (h : BlkG w b T (v :: vs)) : w.rangeAt b 1 vs := fun j u hj => by
  obtain ⟨hlt, rfl⟩ := List.getElem?_eq_some_iff.1 hj
  have := h.cell (1 + j) (by rw [List.length_cons]; omega)
  rw [this]
  congr 1
  rw [List.getElem_cons]
  split
  · omega
  · congr 1; omega
def row0 : List Value := .int .u8 0 :: info0
set_option maxRecDepth 100000 in
set_option maxHeartbeats 8000000 in
theorem info_any (op : Nat) (w : World) (hop : op < 256) : Calls Tryz.prog 107 #[.int .u8 op] w fun e w' => e = .returned (.tuple #[infoV (infoN op), .bool (namedN op)]) ∧ Below w.heap.size w w' := by
  have hB0 : Hid (BlkG (w.alloc (.cells info0.toArray 113)) w.heap.size 113 info0) := qh (BlkG.new w _ _)
  have hb0 : Hid (Below w.heap.size w (w.alloc (.cells info0.toArray 113))) := qh (xalloc (xrefl w) _)
  have hal := qh fun W => alone_any W
  have hfa := qh fun W => families_any W
  have hu := Tryz.underlying113
  have hu2 := Tryz.underlying190
  have hidx := qh fun i hi W => run_index_alone i hi W
  have hat := qh alone_at
  have hio := qh fun ha hf => info_out (c := op) hop ha hf
  have hfo := qh fun h => fam_off (op := op) h
  have hfon := qh fun j hj h => fam_on (op := op) hop (j := j) hj h
  generalize hIN : infoN op = R at *
  generalize hNM : namedN op = nm at *
  replace hIN := qh hIN
  replace hNM := qh hNM
  go_enter Tryz.func107, Tryz.ntmps107
  go_wp2_with (go_at_call 132; refine (hal.out _).mono ?_; rintro e w1 ⟨rfl, hb1⟩; have hB1 := qh (hB0.out.below hb1); replace hb1 := qh (xtrans hb0.out hb1); clear hal hB0 hb0)
  generalize hAV : aloneV.toArray = AV at *
  replace hAV := qh hAV
  go_loopw [10] (fun iv wx => ∃ i : Nat, i ≤ 75 ∧ iv = .int .i64 i ∧ Hid (∀ j, j < i → (aloneRows.getD j (0, noInfo)).1 ≠ op) ∧ Hid (BlkG wx w.heap.size 113 info0) ∧ Hid (Below w.heap.size w wx)) (fun iv _ => 75 - (intOf iv).toNat)
  case atStart => exact ⟨0, by omega, rfl, qh fun j h => by omega, hB1, hb1⟩
  case round =>
    clear hB1 hb1
    obtain ⟨i, hi, rfl, hne, hB, hb⟩ := hrel
    by_cases hlt : i < 75
    · have hltI : (i : Int) < 75 := by omega
      have hix := hidx.out i hlt wr
      obtain ⟨ha1, ha2, ha3⟩ := hat.out ⟨i, hlt⟩
      simp only at ha1 ha2 ha3
      have hst : Hid ((aloneRows.getD i (0, noInfo)).1 ≠ op → ∀ j, j < i + 1 → (aloneRows.getD j (0, noInfo)).1 ≠ op) := qh fun h j hj => by
        by_cases e : j = i
        · subst e; exact h
        · exact hne.out j (by omega)
      generalize aloneRows.getD i (0, noInfo) = r at *
      obtain ⟨c, X⟩ := r
      simp only at ha1 ha2 ha3 hst
      have hb5s := hb.out.size
      by_cases hc : c = op
      · subst hc
        have hRX : R = X := hIN.out.symm.trans ha1
        have hnm : nm = true := hNM.out.symm.trans ha2
        subst hRX
        subst hnm
        clear ha1 ha2 ha3 hst hne
        go_wp2_with (first
          | (refine wpList_store_blkG rfl 183 _ _ rfl wr.heap.size rfl 183 row0 (aloneC (c, R)) (BlkG.new wr _ _) rfl rfl (by kernel_rfl) rfl ?_; intro w5 hX5 ho5; have hb5 := ho5.below (xalloc (xrefl wr) _) (by rw [World.size_alloc]; omega) (by rintro k rfl; exact Nat.le_refl _); have hB5 := qh (hB.out.below hb5); replace hb5 := qh (xtrans hb.out hb5); have hx0 : w5.cell? ⟨wr.heap.size, 0, none⟩ = some (.int .u8 c) := hX5.cell 0 (by show 0 < 7; omega); have hr5 := qh (rangeAt_tail hX5); clear hX5 ho5)
          | (refine wpList_load_mid rfl 113 _ rfl wr.heap.size 1 rfl (infoC R) _ hr5.out hu rfl (by kernel_rfl) ?_)
          | (refine wpList_store_blkG rfl 113 _ _ rfl w.heap.size rfl 113 info0 (infoC R) hB5.out rfl rfl (by kernel_rfl) rfl ?_; intro w6 hX6 ho6; have hR6 := qh hX6; have hb6 := qh (ho6.below hb5.out hb5.out.size (by rintro k rfl; exact Nat.le_refl _)); clear hX6 ho6))
        exact bodyPost_ret (results_blkG2 (p := 2) rfl _ _ w.heap.size 113 _ _ rfl hR6.out hu rfl (by kernel_rfl)) rfl ⟨rfl, hb6.out⟩
      · have hne2 := qh (hst hc)
        have hcI : ((c : Int) == (op : Int)) = false := by simp; omega
        have hcI2 : ¬ (c : Int) = (op : Int) := by omega
        clear ha1 ha2 ha3 hst hne hc
        go_wp2_with (refine wpList_store_blkG rfl 183 _ _ rfl wr.heap.size rfl 183 row0 (aloneC (c, X)) (BlkG.new wr _ _) rfl rfl (by kernel_rfl) rfl ?_; intro w5 hX5 ho5; have hb5 := ho5.below (xalloc (xrefl wr) _) (by rw [World.size_alloc]; omega) (by rintro k rfl; exact Nat.le_refl _); have hB5 := qh (hB.out.below hb5); replace hb5 := qh (xtrans hb.out hb5); have hx0 : w5.cell? ⟨wr.heap.size, 0, none⟩ = some (.int .u8 c) := hX5.cell 0 (by show 0 < 7; omega); clear hX5 ho5)
        exact ⟨⟨i + 1, by omega, by go_num, hne2, hB5, hb5⟩, by simp [intOf]; omega⟩
    · obtain rfl : i = 75 := by omega
      clear hlt hidx hat
      go_wp2_with (go_at_call 133; refine (hfa.out _).mono ?_; rintro e w2 ⟨⟨bm, rfl, hM, hbm⟩, hb2⟩; have hB2 := qh (hB.out.below hb2); replace hb2 := qh (xtrans hb.out hb2); have hrg := range_mapG (P := Tryz.prog) (t := 186) Tryz.underlying186 hM; have hM2 := qh hM; clear hM hfa)
      obtain ⟨it, hit⟩ : ∃ it, it = w2.heap.size := ⟨_, rfl⟩
      have hb3 : Below w2.heap.size w2 (w2.alloc (itO bm famL.length [])) := xalloc (xrefl _) _
      have hi3 : (w2.alloc (itO bm famL.length [])).heap[it]? = some (itO bm famL.length []) := by rw [hit]; exact World.alloc_heap_new w2 _
      have hml : bm < w2.heap.size := (Array.getElem?_eq_some_iff.1 hM2.out).1
      have hM3 : (w2.alloc (itO bm famL.length [])).heap[bm]? = some (mapG famL) := (hb3.block bm hml).trans hM2.out
      have hB3 := qh (hB2.out.below hb3)
      have hb3w := qh (xtrans hb2.out hb3)
      have hwl := hb2.out.size
      have hBl := hB2.out.lt
      rw [← hit]
      generalize w2.alloc (itO bm famL.length []) = w3 at hi3 hM3 hB3 hb3w ⊢
      have hbi : ¬ bm = it := by omega
      have hri : ¬ w.heap.size = it := by omega
      have hri2 : w.heap.size ≤ it := by omega
      replace hi3 := qh hi3
      replace hM3 := qh hM3
      clear hB hb hB2 hb2 hM2 hb3 hrg hit
      go_loopw [22] (fun _ wx => ∃ seen : List Nat, Hid (seen.Nodup ∧ ∀ j ∈ seen, j < famL.length) ∧ Hid (wx.heap[it]? = some (itO bm famL.length seen)) ∧ Hid (wx.heap[bm]? = some (mapG famL)) ∧ Hid (∀ j ∈ seen, famOff op j) ∧ Hid (BlkG wx w.heap.size 113 info0) ∧ Hid (Below w.heap.size w wx)) (fun _ wx => famL.length - seenAt wx it)
      case atStart => exact ⟨[], qh ⟨List.nodup_nil, fun j h => by cases h⟩, hi3, hM3, qh (fun j h => by cases h), hB3, hb3w⟩
      case round =>
        clear hi3 hM3 hB3 hb3w
        obtain ⟨seen, hs, hi, hm, hoff, hB, hb⟩ := hrel
        rcases next_mapG (P := Tryz.prog) 0 hi.out hm.out with ⟨hall, hrun⟩ | ⟨j, hj, hns, W2, hrun, hon, hi2⟩
        · have hrun' : ∀ ty, (Instr.next (.pointer (some ⟨it, 0, none⟩)) false ty).run Tryz.prog wr = _ := fun ty => hrun
          obtain ⟨hR, hn⟩ := hio.out hne.out (hfo.out fun j hj => hoff.out j (hall j hj))
          subst hR
          subst hn
          clear hrun hall
          go_wp2_with (refine wpList_store_blkG rfl 113 _ _ rfl w.heap.size rfl 113 info0 info0 hB.out rfl rfl (by kernel_rfl) rfl ?_; intro w6 hX6 ho6; have hR6 := qh hX6; have hb6 := qh (ho6.below hb.out hb.out.size (by rintro k rfl; exact Nat.le_refl _)); clear hX6 ho6)
          exact bodyPost_ret (results_blkG2 (p := 2) rfl _ _ w.heap.size 113 _ _ rfl hR6.out hu rfl (by kernel_rfl)) rfl ⟨rfl, hb6.out⟩
        · have hrun' : ∀ ty, (Instr.next (.pointer (some ⟨it, 0, none⟩)) false ty).run Tryz.prog wr = _ := fun ty => hrun
          have hm2 : W2.heap[bm]? = some (mapG famL) := (hon.same bm (Array.getElem?_eq_some_iff.1 hm.out).1 hbi).trans hm.out
          have hen := entry_mapG (P := Tryz.prog) hj hi2 hm2
          have hB2 := qh (hB.out.only hon hri)
          have hb2 := qh (hon.below hb.out hb.out.size (by rintro k rfl; exact hri2))
          have hsn : Hid ((seen ++ [j]).Nodup ∧ ∀ i ∈ seen ++ [j], i < famL.length) := qh ⟨by rw [List.nodup_append]; exact ⟨hs.out.1, by simp, fun a ha b hb e => hns (by simp at hb; subst hb; rw [← e]; exact ha)⟩, fun i hi => by
            rcases List.mem_append.1 hi with h | h
            · exact hs.out.2 i h
            · simp at h; omega⟩
          have hoff2 : Hid (famOff op j → ∀ k ∈ seen ++ [j], famOff op k) := qh fun h k hk => by
            rcases List.mem_append.1 hk with h2 | h2
            · exact hoff.out k h2
            · rw [List.mem_singleton] at h2; rw [h2]; exact h
          have hmeas : Hid (∀ W5, Below W2.heap.size W2 W5 → famL.length - seenAt W5 it < famL.length - seenAt wr it) := qh fun W5 hb5 => by
            have hi5 : W5.heap[it]? = some (itO bm famL.length (seen ++ [j])) := (hb5.block it (Array.getElem?_eq_some_iff.1 hi2).1).trans hi2
            have hlt := seen_lt hs.out.1 hs.out.2 hj hns
            rw [seenAt_eq hi5, seenAt_eq hi.out, List.length_append]
            simp; omega
          have hfj : ¬ famOff op j → nm = true := fun h => hfon.out j hj h
          have hi2' := qh hi2
          have hm2' := qh hm2
          have hwz := hb2.out.size
          clear hi2 hm2 hs hi hm hoff hB hb hrun hon hns
          have hj4 : j = 0 ∨ j = 1 ∨ j = 2 ∨ j = 3 := by have : famL.length = 4 := rfl; omega
          rcases hj4 with rfl | rfl | rfl | rfl
          · simp only [famL, List.getElem_cons_zero, List.getElem_cons_succ] at hrun' hen
            by_cases hin : 96 ≤ op ∧ op ≤ 127
            · obtain ⟨i, hii⟩ : ∃ i, i = op - 96 := ⟨_, rfl⟩
              have hz : (op : Int) - 96 = (i : Int) := by omega
              have hz1 : (0 : Int) ≤ (i : Int) := by omega
              have hz2 : (i : Int) < 32 := by omega
              have hnm := hfj (fun h => h hin)
              have hinf := qh fun W => faminfo1_any i W (by omega)
              rw [show 96 + i = op by omega, hIN.out] at hinf
              subst hnm
              clear hfj hin hii hoff2 hsn hmeas
              go_wp2_with (first
                | (refine wpList_store_blkG rfl 190 _ _ rfl W2.heap.size rfl 190 [.int .i64 0, .int .i64 0, .nilFunc] [.int .i64 96, .int .i64 32, .func (.func 153) #[] #[]] (BlkG.new W2 _ _) rfl rfl (by kernel_rfl) rfl ?_; intro W5 hX5 ho5; have hb5 := ho5.below (xalloc (xrefl W2) _) (by rw [World.size_alloc]; omega) (by rintro k rfl; exact Nat.le_refl _); have hB5 := qh (hB2.out.below hb5); have hq := hX5.cell 0 (by show 0 < 3; omega); have hq1 := hX5.cell 1 (by show 1 < 3; omega); simp only [List.getElem_cons_zero, List.getElem_cons_succ] at hq hq1; replace hX5 := qh hX5; replace hb5 := qh hb5; clear ho5)
                | (refine wpList_load_blkG rfl 190 _ rfl W2.heap.size rfl 190 _ _ hX5.out hu2 rfl (by kernel_rfl) ?_)
                | (go_at_call 134; refine (hinf.out _).mono ?_; rintro e W6 ⟨rfl, hb6⟩; have hB6 := qh (hB5.out.below hb6); replace hb6 := qh (xtrans hb2.out (xtrans hb5.out hb6)))
                | (refine wpList_store_blkG rfl 113 _ _ rfl w.heap.size rfl 113 info0 (infoC R) hB6.out rfl rfl (by kernel_rfl) rfl ?_; intro w7 hX7 ho7; have hR7 := qh hX7; have hb7 := qh (ho7.below hb6.out hb6.out.size (by rintro k rfl; exact Nat.le_refl _)); clear hX7 ho7))
              exact bodyPost_ret (results_blkG2 (p := 2) rfl _ _ w.heap.size 113 _ _ rfl hR7.out hu rfl (by kernel_rfl)) rfl ⟨rfl, hb7.out⟩
            · have hoff3 := qh (hoff2.out hin)
              obtain ⟨z, hz, hzc⟩ : ∃ z : Int, (op : Int) - 96 = z ∧ (z < 0 ∨ (0 ≤ z ∧ 32 ≤ z)) := ⟨_, rfl, by omega⟩
              clear hin hoff2 hfj
              rcases hzc with hz1 | ⟨hz1, hz2⟩
              all_goals
                go_wp2_with (refine wpList_store_blkG rfl 190 _ _ rfl W2.heap.size rfl 190 [.int .i64 0, .int .i64 0, .nilFunc] [.int .i64 96, .int .i64 32, .func (.func 153) #[] #[]] (BlkG.new W2 _ _) rfl rfl (by kernel_rfl) rfl ?_; intro W5 hX5 ho5; have hb5 := ho5.below (xalloc (xrefl W2) _) (by rw [World.size_alloc]; omega) (by rintro k rfl; exact Nat.le_refl _); have hB5 := qh (hB2.out.below hb5); have hq := hX5.cell 0 (by show 0 < 3; omega); have hq1 := hX5.cell 1 (by show 1 < 3; omega); simp only [List.getElem_cons_zero, List.getElem_cons_succ] at hq hq1; replace hX5 := qh hX5; replace hb5 := qh hb5; clear ho5)
                exact ⟨⟨seen ++ [0], hsn, qh ((hb5.out.block it (Array.getElem?_eq_some_iff.1 hi2'.out).1).trans hi2'.out), qh ((hb5.out.block bm (Array.getElem?_eq_some_iff.1 hm2'.out).1).trans hm2'.out), hoff3, hB5, qh (xtrans hb2.out hb5.out)⟩, hmeas.out _ hb5.out⟩
          · simp only [famL, List.getElem_cons_zero, List.getElem_cons_succ] at hrun' hen
            by_cases hin : 128 ≤ op ∧ op ≤ 143
            · obtain ⟨i, hii⟩ : ∃ i, i = op - 128 := ⟨_, rfl⟩
              have hz : (op : Int) - 128 = (i : Int) := by omega
              have hz1 : (0 : Int) ≤ (i : Int) := by omega
              have hz2 : (i : Int) < 16 := by omega
              have hnm := hfj (fun h => h hin)
              have hinf := qh fun W => faminfo2_any i W (by omega)
              rw [show 128 + i = op by omega, hIN.out] at hinf
              subst hnm
              clear hfj hin hii hoff2 hsn hmeas
              go_wp2_with (first
                | (refine wpList_store_blkG rfl 190 _ _ rfl W2.heap.size rfl 190 [.int .i64 0, .int .i64 0, .nilFunc] [.int .i64 128, .int .i64 16, .func (.func 154) #[] #[]] (BlkG.new W2 _ _) rfl rfl (by kernel_rfl) rfl ?_; intro W5 hX5 ho5; have hb5 := ho5.below (xalloc (xrefl W2) _) (by rw [World.size_alloc]; omega) (by rintro k rfl; exact Nat.le_refl _); have hB5 := qh (hB2.out.below hb5); have hq := hX5.cell 0 (by show 0 < 3; omega); have hq1 := hX5.cell 1 (by show 1 < 3; omega); simp only [List.getElem_cons_zero, List.getElem_cons_succ] at hq hq1; replace hX5 := qh hX5; replace hb5 := qh hb5; clear ho5)
                | (refine wpList_load_blkG rfl 190 _ rfl W2.heap.size rfl 190 _ _ hX5.out hu2 rfl (by kernel_rfl) ?_)
                | (go_at_call 134; refine (hinf.out _).mono ?_; rintro e W6 ⟨rfl, hb6⟩; have hB6 := qh (hB5.out.below hb6); replace hb6 := qh (xtrans hb2.out (xtrans hb5.out hb6)))
                | (refine wpList_store_blkG rfl 113 _ _ rfl w.heap.size rfl 113 info0 (infoC R) hB6.out rfl rfl (by kernel_rfl) rfl ?_; intro w7 hX7 ho7; have hR7 := qh hX7; have hb7 := qh (ho7.below hb6.out hb6.out.size (by rintro k rfl; exact Nat.le_refl _)); clear hX7 ho7))
              exact bodyPost_ret (results_blkG2 (p := 2) rfl _ _ w.heap.size 113 _ _ rfl hR7.out hu rfl (by kernel_rfl)) rfl ⟨rfl, hb7.out⟩
            · have hoff3 := qh (hoff2.out hin)
              obtain ⟨z, hz, hzc⟩ : ∃ z : Int, (op : Int) - 128 = z ∧ (z < 0 ∨ (0 ≤ z ∧ 16 ≤ z)) := ⟨_, rfl, by omega⟩
              clear hin hoff2 hfj
              rcases hzc with hz1 | ⟨hz1, hz2⟩
              all_goals
                go_wp2_with (refine wpList_store_blkG rfl 190 _ _ rfl W2.heap.size rfl 190 [.int .i64 0, .int .i64 0, .nilFunc] [.int .i64 128, .int .i64 16, .func (.func 154) #[] #[]] (BlkG.new W2 _ _) rfl rfl (by kernel_rfl) rfl ?_; intro W5 hX5 ho5; have hb5 := ho5.below (xalloc (xrefl W2) _) (by rw [World.size_alloc]; omega) (by rintro k rfl; exact Nat.le_refl _); have hB5 := qh (hB2.out.below hb5); have hq := hX5.cell 0 (by show 0 < 3; omega); have hq1 := hX5.cell 1 (by show 1 < 3; omega); simp only [List.getElem_cons_zero, List.getElem_cons_succ] at hq hq1; replace hX5 := qh hX5; replace hb5 := qh hb5; clear ho5)
                exact ⟨⟨seen ++ [1], hsn, qh ((hb5.out.block it (Array.getElem?_eq_some_iff.1 hi2'.out).1).trans hi2'.out), qh ((hb5.out.block bm (Array.getElem?_eq_some_iff.1 hm2'.out).1).trans hm2'.out), hoff3, hB5, qh (xtrans hb2.out hb5.out)⟩, hmeas.out _ hb5.out⟩
          · simp only [famL, List.getElem_cons_zero, List.getElem_cons_succ] at hrun' hen
            by_cases hin : 144 ≤ op ∧ op ≤ 159
            · obtain ⟨i, hii⟩ : ∃ i, i = op - 144 := ⟨_, rfl⟩
              have hz : (op : Int) - 144 = (i : Int) := by omega
              have hz1 : (0 : Int) ≤ (i : Int) := by omega
              have hz2 : (i : Int) < 16 := by omega
              have hnm := hfj (fun h => h hin)
              have hinf := qh fun W => faminfo3_any i W (by omega)
              rw [show 144 + i = op by omega, hIN.out] at hinf
              subst hnm
              clear hfj hin hii hoff2 hsn hmeas
              go_wp2_with (first
                | (refine wpList_store_blkG rfl 190 _ _ rfl W2.heap.size rfl 190 [.int .i64 0, .int .i64 0, .nilFunc] [.int .i64 144, .int .i64 16, .func (.func 155) #[] #[]] (BlkG.new W2 _ _) rfl rfl (by kernel_rfl) rfl ?_; intro W5 hX5 ho5; have hb5 := ho5.below (xalloc (xrefl W2) _) (by rw [World.size_alloc]; omega) (by rintro k rfl; exact Nat.le_refl _); have hB5 := qh (hB2.out.below hb5); have hq := hX5.cell 0 (by show 0 < 3; omega); have hq1 := hX5.cell 1 (by show 1 < 3; omega); simp only [List.getElem_cons_zero, List.getElem_cons_succ] at hq hq1; replace hX5 := qh hX5; replace hb5 := qh hb5; clear ho5)
                | (refine wpList_load_blkG rfl 190 _ rfl W2.heap.size rfl 190 _ _ hX5.out hu2 rfl (by kernel_rfl) ?_)
                | (go_at_call 134; refine (hinf.out _).mono ?_; rintro e W6 ⟨rfl, hb6⟩; have hB6 := qh (hB5.out.below hb6); replace hb6 := qh (xtrans hb2.out (xtrans hb5.out hb6)))
                | (refine wpList_store_blkG rfl 113 _ _ rfl w.heap.size rfl 113 info0 (infoC R) hB6.out rfl rfl (by kernel_rfl) rfl ?_; intro w7 hX7 ho7; have hR7 := qh hX7; have hb7 := qh (ho7.below hb6.out hb6.out.size (by rintro k rfl; exact Nat.le_refl _)); clear hX7 ho7))
              exact bodyPost_ret (results_blkG2 (p := 2) rfl _ _ w.heap.size 113 _ _ rfl hR7.out hu rfl (by kernel_rfl)) rfl ⟨rfl, hb7.out⟩
            · have hoff3 := qh (hoff2.out hin)
              obtain ⟨z, hz, hzc⟩ : ∃ z : Int, (op : Int) - 144 = z ∧ (z < 0 ∨ (0 ≤ z ∧ 16 ≤ z)) := ⟨_, rfl, by omega⟩
              clear hin hoff2 hfj
              rcases hzc with hz1 | ⟨hz1, hz2⟩
              all_goals
                go_wp2_with (refine wpList_store_blkG rfl 190 _ _ rfl W2.heap.size rfl 190 [.int .i64 0, .int .i64 0, .nilFunc] [.int .i64 144, .int .i64 16, .func (.func 155) #[] #[]] (BlkG.new W2 _ _) rfl rfl (by kernel_rfl) rfl ?_; intro W5 hX5 ho5; have hb5 := ho5.below (xalloc (xrefl W2) _) (by rw [World.size_alloc]; omega) (by rintro k rfl; exact Nat.le_refl _); have hB5 := qh (hB2.out.below hb5); have hq := hX5.cell 0 (by show 0 < 3; omega); have hq1 := hX5.cell 1 (by show 1 < 3; omega); simp only [List.getElem_cons_zero, List.getElem_cons_succ] at hq hq1; replace hX5 := qh hX5; replace hb5 := qh hb5; clear ho5)
                exact ⟨⟨seen ++ [2], hsn, qh ((hb5.out.block it (Array.getElem?_eq_some_iff.1 hi2'.out).1).trans hi2'.out), qh ((hb5.out.block bm (Array.getElem?_eq_some_iff.1 hm2'.out).1).trans hm2'.out), hoff3, hB5, qh (xtrans hb2.out hb5.out)⟩, hmeas.out _ hb5.out⟩
          · simp only [famL, List.getElem_cons_zero, List.getElem_cons_succ] at hrun' hen
            by_cases hin : 160 ≤ op ∧ op ≤ 164
            · obtain ⟨i, hii⟩ : ∃ i, i = op - 160 := ⟨_, rfl⟩
              have hz : (op : Int) - 160 = (i : Int) := by omega
              have hz1 : (0 : Int) ≤ (i : Int) := by omega
              have hz2 : (i : Int) < 5 := by omega
              have hnm := hfj (fun h => h hin)
              have hinf := qh fun W => faminfo4_any i W (by omega)
              rw [show 160 + i = op by omega, hIN.out] at hinf
              subst hnm
              clear hfj hin hii hoff2 hsn hmeas
              go_wp2_with (first
                | (refine wpList_store_blkG rfl 190 _ _ rfl W2.heap.size rfl 190 [.int .i64 0, .int .i64 0, .nilFunc] [.int .i64 160, .int .i64 5, .func (.func 156) #[] #[]] (BlkG.new W2 _ _) rfl rfl (by kernel_rfl) rfl ?_; intro W5 hX5 ho5; have hb5 := ho5.below (xalloc (xrefl W2) _) (by rw [World.size_alloc]; omega) (by rintro k rfl; exact Nat.le_refl _); have hB5 := qh (hB2.out.below hb5); have hq := hX5.cell 0 (by show 0 < 3; omega); have hq1 := hX5.cell 1 (by show 1 < 3; omega); simp only [List.getElem_cons_zero, List.getElem_cons_succ] at hq hq1; replace hX5 := qh hX5; replace hb5 := qh hb5; clear ho5)
                | (refine wpList_load_blkG rfl 190 _ rfl W2.heap.size rfl 190 _ _ hX5.out hu2 rfl (by kernel_rfl) ?_)
                | (go_at_call 134; refine (hinf.out _).mono ?_; rintro e W6 ⟨rfl, hb6⟩; have hB6 := qh (hB5.out.below hb6); replace hb6 := qh (xtrans hb2.out (xtrans hb5.out hb6)))
                | (refine wpList_store_blkG rfl 113 _ _ rfl w.heap.size rfl 113 info0 (infoC R) hB6.out rfl rfl (by kernel_rfl) rfl ?_; intro w7 hX7 ho7; have hR7 := qh hX7; have hb7 := qh (ho7.below hb6.out hb6.out.size (by rintro k rfl; exact Nat.le_refl _)); clear hX7 ho7))
              exact bodyPost_ret (results_blkG2 (p := 2) rfl _ _ w.heap.size 113 _ _ rfl hR7.out hu rfl (by kernel_rfl)) rfl ⟨rfl, hb7.out⟩
            · have hoff3 := qh (hoff2.out hin)
              obtain ⟨z, hz, hzc⟩ : ∃ z : Int, (op : Int) - 160 = z ∧ (z < 0 ∨ (0 ≤ z ∧ 5 ≤ z)) := ⟨_, rfl, by omega⟩
              clear hin hoff2 hfj
              rcases hzc with hz1 | ⟨hz1, hz2⟩
              all_goals
                go_wp2_with (refine wpList_store_blkG rfl 190 _ _ rfl W2.heap.size rfl 190 [.int .i64 0, .int .i64 0, .nilFunc] [.int .i64 160, .int .i64 5, .func (.func 156) #[] #[]] (BlkG.new W2 _ _) rfl rfl (by kernel_rfl) rfl ?_; intro W5 hX5 ho5; have hb5 := ho5.below (xalloc (xrefl W2) _) (by rw [World.size_alloc]; omega) (by rintro k rfl; exact Nat.le_refl _); have hB5 := qh (hB2.out.below hb5); have hq := hX5.cell 0 (by show 0 < 3; omega); have hq1 := hX5.cell 1 (by show 1 < 3; omega); simp only [List.getElem_cons_zero, List.getElem_cons_succ] at hq hq1; replace hX5 := qh hX5; replace hb5 := qh hb5; clear ho5)
                exact ⟨⟨seen ++ [3], hsn, qh ((hb5.out.block it (Array.getElem?_eq_some_iff.1 hi2'.out).1).trans hi2'.out), qh ((hb5.out.block bm (Array.getElem?_eq_some_iff.1 hm2'.out).1).trans hm2'.out), hoff3, hB5, qh (xtrans hb2.out hb5.out)⟩, hmeas.out _ hb5.out⟩
end
end Go.Proofs.YtijkdabmegbcjaaGreatDoor
