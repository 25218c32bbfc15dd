/- Texts of this claim, merged; no condition. -/
import Derived.Test.YtbicfaiabpcgfaaGreatDoorD12
import Derived.Test.YtbicfaiabpcgfaaGreatDoorD11
set_option linter.all false
namespace Go.Proofs.YtbicfaiabpcgfaaGreatDoor
open Go.RowKit Go.Shelf

theorem alone_len : aloneRows.length = 75 := by decide +kernel
theorem alone_at : ∀ i : Fin 75, infoN (aloneRows.getD i.1 (0, noInfo)).1 = (aloneRows.getD i.1 (0, noInfo)).2 ∧ namedN (aloneRows.getD i.1 (0, noInfo)).1 = true ∧ (aloneRows.getD i.1 (0, noInfo)).1 < 256 := by decide +kernel
theorem rowGet_none (c : Nat) : ∀ l : List (Nat × InfoN), (∀ x ∈ l, x.1 ≠ c) → rowGet c l = noInfo
  | [], _ => rfl
  | x :: l, h => by rw [rowGet, if_neg (fun e => h x (by simp) e.symm)]; exact rowGet_none c l fun y hy => h y (by simp [hy])
theorem info_out {c : Nat} (hc : c < 256) (ha : ∀ j, j < 75 → (aloneRows.getD j (0, noInfo)).1 ≠ c) (hf : famN c = none) : infoN c = noInfo ∧ namedN c = false := by
  have e : infoN c = noInfo := by
    unfold infoN
    rw [hf]
    refine rowGet_none c _ fun x hx => ?_
    obtain ⟨j, hj, rfl⟩ := List.getElem_of_mem (show x ∈ aloneRows from hx)
    have := ha j (by rw [← alone_len]; exact hj)
    rwa [getD_lt _ hj] at this
  refine ⟨e, ?_⟩
  have := info_named c hc
  rw [e] at this
  simpa [noInfo] using this
theorem fam_in {c : Nat} (hc : c < 256) (h : famN c ≠ none) : namedN c = true := by
  have : ∀ c : Fin 256, famN c.1 ≠ none → namedN c.1 = true := by decide +kernel
  exact this ⟨c, hc⟩ h
theorem aloneC_len (r : Nat × InfoN) : (aloneC r).length = 7 := rfl
theorem run_index_alone (i : Nat) (hi : i < 75) (W : World) : (Instr.index 56 (.agg aloneV.toArray) (.int .i64 i)).run Tryz.prog W = .ok (.agg (aloneC (aloneRows.getD i (0, noInfo))).toArray) W := by
  have hu := run_underlying Tryz.underlying56 W
  have hu2 := run_underlying Tryz.underlying55 W
  obtain ⟨k, hk, hs⟩ : ∃ k, Tryz.prog.info? 55 = some k ∧ k.size = 7 := by
    have : (Tryz.prog.info? 55).map (·.size) = some 7 := by kernel_rfl
    cases hq : Tryz.prog.info? 55 with
    | none => rw [hq] at this; cases this
    | some k => rw [hq] at this; exact ⟨k, rfl, by simpa using this⟩
  have hx : List.take 7 (List.drop (i * 7) aloneV) = aloneC (aloneRows[i]?.getD (0, noInfo)) := by
    have hal := alone_len
    have hil : i < aloneRows.length := by omega
    apply List.ext_getElem?
    intro j
    rw [List.getElem?_take]
    split
    · rename_i hj
      rw [List.getElem?_drop]
      have := flat_get 7 aloneC aloneC_len aloneRows i j hil (by omega)
      rw [List.getElem?_eq_getElem hil]
      exact this
    · rename_i hj
      rw [List.getElem?_eq_none]
      rw [aloneC_len]
      omega
  have hlt : ((i : Nat) : Int) < 75 := by omega
  unfold Instr.index part isAgg sizeOf typeInfo
  simp [asIntOf, hu, hu2, Sem.run_bind, hk, hs, hlt, Result.andThen, Sem.run]
  rw [if_pos hi, hx]
/-- No family of these places has the op. -/
def famOff (op : Nat) (j : Nat) : Prop := match j with | 0 => ¬ (96 ≤ op ∧ op ≤ 127) | 1 => ¬ (128 ≤ op ∧ op ≤ 143) | 2 => ¬ (144 ≤ op ∧ op ≤ 159) | _ => ¬ (160 ≤ op ∧ op ≤ 164)
theorem fam_off {op : Nat} (h : ∀ j, j < 4 → famOff op j) : famN op = none := by
  have h0 := h 0 (by omega)
  have h1 := h 1 (by omega)
  have h2 := h 2 (by omega)
  have h3 := h 3 (by omega)
  unfold famN
  rw [if_neg h0, if_neg h1, if_neg h2, if_neg h3]
theorem fam_on {op : Nat} (hop : op < 256) {j : Nat} (hj : j < 4) (h : ¬ famOff op j) : namedN op = true := by
  refine fam_in hop fun e => h ?_
  unfold famN at e
  match j, hj with
  | 0, _ => intro hh; rw [if_pos hh] at e; cases e
  | 1, _ => intro hh; rw [if_neg (by omega), if_pos hh] at e; cases e
  | 2, _ => intro hh; rw [if_neg (by omega), if_neg (by omega), if_pos hh] at e; cases e
  | 3, _ => intro hh; rw [if_neg (by omega), if_neg (by omega), if_neg (by omega), if_pos hh] at e; cases e
theorem rangeAt_tail {w : World} {b : Nat} {T : TypeId} {v : Value} {vs : List Value} (h : BlkG w b T (v :: vs)) : w.rangeAt b 1 vs := fun j u hj => by
  obtain ⟨hlt, rfl⟩ := List.getElem?_eq_some_iff.1 hj
  have := h.cell (1 + j) (by rw [List.length_cons]; omega)
  rw [this]
  congr 1
  rw [List.getElem_cons]
  split
  · omega
  · congr 1; omega
def row0 : List Value := .int .u8 0 :: info0
set_option maxRecDepth 100000 in
set_option maxHeartbeats 8000000 in
theorem info_any (op : Nat) (w : World) (hop : op < 256) : Calls Tryz.prog 9 #[.int .u8 op] w fun e w' => e = .returned (.tuple #[infoV (infoN op), .bool (namedN op)]) ∧ Below w.heap.size w w' := by
  have hB0 : Hid (BlkG (w.alloc (.cells info0.toArray 25)) w.heap.size 25 info0) := Lib.hid (BlkG.new w _ _)
  have hb0 : Hid (Below w.heap.size w (w.alloc (.cells info0.toArray 25))) := Lib.hid (xalloc (xrefl w) _)
  have hal := Lib.hid fun W => alone_any W
  have hfa := Lib.hid fun W => families_any W
  have hu := Tryz.underlying25
  have hu2 := Tryz.underlying62
  have hidx := Lib.hid fun i hi W => run_index_alone i hi W
  have hat := Lib.hid alone_at
  have hio := Lib.hid fun ha hf => info_out (c := op) hop ha hf
  have hfo := Lib.hid fun h => fam_off (op := op) h
  have hfon := Lib.hid fun j hj h => fam_on (op := op) hop (j := j) hj h
  generalize hIN : infoN op = R at *
  generalize hNM : namedN op = nm at *
  replace hIN := Lib.hid hIN
  replace hNM := Lib.hid hNM
  go_enter Tryz.func9, Tryz.ntmps9
  go_wp2_with (go_at_call 23; refine (hal.out _).mono ?_; rintro e w1 ⟨rfl, hb1⟩; have hB1 := Lib.hid (hB0.out.below hb1); replace hb1 := Lib.hid (xtrans hb0.out hb1); clear hal hB0 hb0)
  generalize hAV : aloneV.toArray = AV at *
  replace hAV := Lib.hid hAV
  go_loopw [10] (fun iv wx => ∃ i : Nat, i ≤ 75 ∧ iv = .int .i64 i ∧ Hid (∀ j, j < i → (aloneRows.getD j (0, noInfo)).1 ≠ op) ∧ Hid (BlkG wx w.heap.size 25 info0) ∧ Hid (Below w.heap.size w wx)) (fun iv _ => 75 - (intOf iv).toNat)
  case atStart => exact ⟨0, by omega, rfl, Lib.hid fun j h => by omega, hB1, hb1⟩
  case round =>
    clear hB1 hb1
    obtain ⟨i, hi, rfl, hne, hB, hb⟩ := hrel
    by_cases hlt : i < 75
    · have hltI : (i : Int) < 75 := by omega
      have hix := hidx.out i hlt wr
      obtain ⟨ha1, ha2, ha3⟩ := hat.out ⟨i, hlt⟩
      simp only at ha1 ha2 ha3
      have hst : Hid ((aloneRows.getD i (0, noInfo)).1 ≠ op → ∀ j, j < i + 1 → (aloneRows.getD j (0, noInfo)).1 ≠ op) := Lib.hid fun h j hj => by
        by_cases e : j = i
        · subst e; exact h
        · exact hne.out j (by omega)
      generalize aloneRows.getD i (0, noInfo) = r at *
      obtain ⟨c, X⟩ := r
      simp only at ha1 ha2 ha3 hst
      have hb5s := hb.out.size
      by_cases hc : c = op
      · subst hc
        have hRX : R = X := hIN.out.symm.trans ha1
        have hnm : nm = true := hNM.out.symm.trans ha2
        subst hRX
        subst hnm
        clear ha1 ha2 ha3 hst hne
        go_wp2_with (first
          | (refine wpList_store_blkG rfl 55 _ _ rfl wr.heap.size rfl 55 row0 (aloneC (c, R)) (BlkG.new wr _ _) rfl rfl (by kernel_rfl) rfl ?_; intro w5 hX5 ho5; have hb5 := ho5.below (xalloc (xrefl wr) _) (by rw [World.size_alloc]; omega) (by rintro k rfl; exact Nat.le_refl _); have hB5 := Lib.hid (hB.out.below hb5); replace hb5 := Lib.hid (xtrans hb.out hb5); have hx0 : w5.cell? ⟨wr.heap.size, 0, none⟩ = some (.int .u8 c) := hX5.cell 0 (by show 0 < 7; omega); have hr5 := Lib.hid (rangeAt_tail hX5); clear hX5 ho5)
          | (refine wpList_load_mid rfl 25 _ rfl wr.heap.size 1 rfl (infoC R) _ hr5.out hu rfl (by kernel_rfl) ?_)
          | (refine wpList_store_blkG rfl 25 _ _ rfl w.heap.size rfl 25 info0 (infoC R) hB5.out rfl rfl (by kernel_rfl) rfl ?_; intro w6 hX6 ho6; have hR6 := Lib.hid hX6; have hb6 := Lib.hid (ho6.below hb5.out hb5.out.size (by rintro k rfl; exact Nat.le_refl _)); clear hX6 ho6))
        exact bodyPost_ret (results_blkG2 (p := 2) rfl _ _ w.heap.size 25 _ _ rfl hR6.out hu rfl (by kernel_rfl)) rfl ⟨rfl, hb6.out⟩
      · have hne2 := Lib.hid (hst hc)
        have hcI : ((c : Int) == (op : Int)) = false := by simp; omega
        have hcI2 : ¬ (c : Int) = (op : Int) := by omega
        clear ha1 ha2 ha3 hst hne hc
        go_wp2_with (refine wpList_store_blkG rfl 55 _ _ rfl wr.heap.size rfl 55 row0 (aloneC (c, X)) (BlkG.new wr _ _) rfl rfl (by kernel_rfl) rfl ?_; intro w5 hX5 ho5; have hb5 := ho5.below (xalloc (xrefl wr) _) (by rw [World.size_alloc]; omega) (by rintro k rfl; exact Nat.le_refl _); have hB5 := Lib.hid (hB.out.below hb5); replace hb5 := Lib.hid (xtrans hb.out hb5); have hx0 : w5.cell? ⟨wr.heap.size, 0, none⟩ = some (.int .u8 c) := hX5.cell 0 (by show 0 < 7; omega); clear hX5 ho5)
        exact ⟨⟨i + 1, by omega, by go_num, hne2, hB5, hb5⟩, by simp [intOf]; omega⟩
    · obtain rfl : i = 75 := by omega
      clear hlt hidx hat
      go_wp2_with (go_at_call 24; refine (hfa.out _).mono ?_; rintro e w2 ⟨⟨bm, rfl, hM, hbm⟩, hb2⟩; have hB2 := Lib.hid (hB.out.below hb2); replace hb2 := Lib.hid (xtrans hb.out hb2); have hrg := range_mapG (P := Tryz.prog) (t := 58) Tryz.underlying58 hM; have hM2 := Lib.hid hM; clear hM hfa)
      obtain ⟨it, hit⟩ : ∃ it, it = w2.heap.size := ⟨_, rfl⟩
      have hb3 : Below w2.heap.size w2 (w2.alloc (itO bm famL.length [])) := xalloc (xrefl _) _
      have hi3 : (w2.alloc (itO bm famL.length [])).heap[it]? = some (itO bm famL.length []) := by rw [hit]; exact World.alloc_heap_new w2 _
      have hml : bm < w2.heap.size := (Array.getElem?_eq_some_iff.1 hM2.out).1
      have hM3 : (w2.alloc (itO bm famL.length [])).heap[bm]? = some (mapG famL) := (hb3.block bm hml).trans hM2.out
      have hB3 := Lib.hid (hB2.out.below hb3)
      have hb3w := Lib.hid (xtrans hb2.out hb3)
      have hwl := hb2.out.size
      have hBl := hB2.out.lt
      rw [← hit]
      generalize w2.alloc (itO bm famL.length []) = w3 at hi3 hM3 hB3 hb3w ⊢
      have hbi : ¬ bm = it := by omega
      have hri : ¬ w.heap.size = it := by omega
      have hri2 : w.heap.size ≤ it := by omega
      replace hi3 := Lib.hid hi3
      replace hM3 := Lib.hid hM3
      clear hB hb hB2 hb2 hM2 hb3 hrg hit
      go_loopw [22] (fun _ wx => ∃ seen : List Nat, Hid (seen.Nodup ∧ ∀ j ∈ seen, j < famL.length) ∧ Hid (wx.heap[it]? = some (itO bm famL.length seen)) ∧ Hid (wx.heap[bm]? = some (mapG famL)) ∧ Hid (∀ j ∈ seen, famOff op j) ∧ Hid (BlkG wx w.heap.size 25 info0) ∧ Hid (Below w.heap.size w wx)) (fun _ wx => famL.length - seenAt wx it)
      case atStart => exact ⟨[], Lib.hid ⟨List.nodup_nil, fun j h => by cases h⟩, hi3, hM3, Lib.hid (fun j h => by cases h), hB3, hb3w⟩
      case round =>
        clear hi3 hM3 hB3 hb3w
        obtain ⟨seen, hs, hi, hm, hoff, hB, hb⟩ := hrel
        rcases next_mapG (P := Tryz.prog) 0 hi.out hm.out with ⟨hall, hrun⟩ | ⟨j, hj, hns, W2, hrun, hon, hi2⟩
        · have hrun' : ∀ ty, (Instr.next (.pointer (some ⟨it, 0, none⟩)) false ty).run Tryz.prog wr = _ := fun ty => hrun
          obtain ⟨hR, hn⟩ := hio.out hne.out (hfo.out fun j hj => hoff.out j (hall j hj))
          subst hR
          subst hn
          clear hrun hall
          go_wp2_with (refine wpList_store_blkG rfl 25 _ _ rfl w.heap.size rfl 25 info0 info0 hB.out rfl rfl (by kernel_rfl) rfl ?_; intro w6 hX6 ho6; have hR6 := Lib.hid hX6; have hb6 := Lib.hid (ho6.below hb.out hb.out.size (by rintro k rfl; exact Nat.le_refl _)); clear hX6 ho6)
          exact bodyPost_ret (results_blkG2 (p := 2) rfl _ _ w.heap.size 25 _ _ rfl hR6.out hu rfl (by kernel_rfl)) rfl ⟨rfl, hb6.out⟩
        · have hrun' : ∀ ty, (Instr.next (.pointer (some ⟨it, 0, none⟩)) false ty).run Tryz.prog wr = _ := fun ty => hrun
          have hm2 : W2.heap[bm]? = some (mapG famL) := (hon.same bm (Array.getElem?_eq_some_iff.1 hm.out).1 hbi).trans hm.out
          have hen := entry_mapG (P := Tryz.prog) hj hi2 hm2
          have hB2 := Lib.hid (hB.out.only hon hri)
          have hb2 := Lib.hid (hon.below hb.out hb.out.size (by rintro k rfl; exact hri2))
          have hsn : Hid ((seen ++ [j]).Nodup ∧ ∀ i ∈ seen ++ [j], i < famL.length) := Lib.hid ⟨by rw [List.nodup_append]; exact ⟨hs.out.1, by simp, fun a ha b hb e => hns (by simp at hb; subst hb; rw [← e]; exact ha)⟩, fun i hi => by
            rcases List.mem_append.1 hi with h | h
            · exact hs.out.2 i h
            · simp at h; omega⟩
          have hoff2 : Hid (famOff op j → ∀ k ∈ seen ++ [j], famOff op k) := Lib.hid fun h k hk => by
            rcases List.mem_append.1 hk with h2 | h2
            · exact hoff.out k h2
            · rw [List.mem_singleton] at h2; rw [h2]; exact h
          have hmeas : Hid (∀ W5, Below W2.heap.size W2 W5 → famL.length - seenAt W5 it < famL.length - seenAt wr it) := Lib.hid fun W5 hb5 => by
            have hi5 : W5.heap[it]? = some (itO bm famL.length (seen ++ [j])) := (hb5.block it (Array.getElem?_eq_some_iff.1 hi2).1).trans hi2
            have hlt := seen_lt hs.out.1 hs.out.2 hj hns
            rw [seenAt_eq hi5, seenAt_eq hi.out, List.length_append]
            simp; omega
          have hfj : ¬ famOff op j → nm = true := fun h => hfon.out j hj h
          have hi2' := Lib.hid hi2
          have hm2' := Lib.hid hm2
          have hwz := hb2.out.size
          clear hi2 hm2 hs hi hm hoff hB hb hrun hon hns
          have hj4 : j = 0 ∨ j = 1 ∨ j = 2 ∨ j = 3 := by have : famL.length = 4 := rfl; omega
          rcases hj4 with rfl | rfl | rfl | rfl
          · simp only [famL, List.getElem_cons_zero, List.getElem_cons_succ] at hrun' hen
            by_cases hin : 96 ≤ op ∧ op ≤ 127
            · obtain ⟨i, hii⟩ : ∃ i, i = op - 96 := ⟨_, rfl⟩
              have hz : (op : Int) - 96 = (i : Int) := by omega
              have hz1 : (0 : Int) ≤ (i : Int) := by omega
              have hz2 : (i : Int) < 32 := by omega
              have hnm := hfj (fun h => h hin)
              have hinf := Lib.hid fun W => faminfo1_any i W (by omega)
              rw [show 96 + i = op by omega, hIN.out] at hinf
              subst hnm
              clear hfj hin hii hoff2 hsn hmeas
              go_wp2_with (first
                | (refine wpList_store_blkG rfl 62 _ _ rfl W2.heap.size rfl 62 [.int .i64 0, .int .i64 0, .nilFunc] [.int .i64 96, .int .i64 32, .func (.func 49) #[] #[]] (BlkG.new W2 _ _) rfl rfl (by kernel_rfl) rfl ?_; intro W5 hX5 ho5; have hb5 := ho5.below (xalloc (xrefl W2) _) (by rw [World.size_alloc]; omega) (by rintro k rfl; exact Nat.le_refl _); have hB5 := Lib.hid (hB2.out.below hb5); have hq := hX5.cell 0 (by show 0 < 3; omega); have hq1 := hX5.cell 1 (by show 1 < 3; omega); simp only [List.getElem_cons_zero, List.getElem_cons_succ] at hq hq1; replace hX5 := Lib.hid hX5; replace hb5 := Lib.hid hb5; clear ho5)
                | (refine wpList_load_blkG rfl 62 _ rfl W2.heap.size rfl 62 _ _ hX5.out hu2 rfl (by kernel_rfl) ?_)
                | (go_at_call 25; refine (hinf.out _).mono ?_; rintro e W6 ⟨rfl, hb6⟩; have hB6 := Lib.hid (hB5.out.below hb6); replace hb6 := Lib.hid (xtrans hb2.out (xtrans hb5.out hb6)))
                | (refine wpList_store_blkG rfl 25 _ _ rfl w.heap.size rfl 25 info0 (infoC R) hB6.out rfl rfl (by kernel_rfl) rfl ?_; intro w7 hX7 ho7; have hR7 := Lib.hid hX7; have hb7 := Lib.hid (ho7.below hb6.out hb6.out.size (by rintro k rfl; exact Nat.le_refl _)); clear hX7 ho7))
              exact bodyPost_ret (results_blkG2 (p := 2) rfl _ _ w.heap.size 25 _ _ rfl hR7.out hu rfl (by kernel_rfl)) rfl ⟨rfl, hb7.out⟩
            · have hoff3 := Lib.hid (hoff2.out hin)
              obtain ⟨z, hz, hzc⟩ : ∃ z : Int, (op : Int) - 96 = z ∧ (z < 0 ∨ (0 ≤ z ∧ 32 ≤ z)) := ⟨_, rfl, by omega⟩
              clear hin hoff2 hfj
              rcases hzc with hz1 | ⟨hz1, hz2⟩
              all_goals
                go_wp2_with (refine wpList_store_blkG rfl 62 _ _ rfl W2.heap.size rfl 62 [.int .i64 0, .int .i64 0, .nilFunc] [.int .i64 96, .int .i64 32, .func (.func 49) #[] #[]] (BlkG.new W2 _ _) rfl rfl (by kernel_rfl) rfl ?_; intro W5 hX5 ho5; have hb5 := ho5.below (xalloc (xrefl W2) _) (by rw [World.size_alloc]; omega) (by rintro k rfl; exact Nat.le_refl _); have hB5 := Lib.hid (hB2.out.below hb5); have hq := hX5.cell 0 (by show 0 < 3; omega); have hq1 := hX5.cell 1 (by show 1 < 3; omega); simp only [List.getElem_cons_zero, List.getElem_cons_succ] at hq hq1; replace hX5 := Lib.hid hX5; replace hb5 := Lib.hid hb5; clear ho5)
                exact ⟨⟨seen ++ [0], hsn, Lib.hid ((hb5.out.block it (Array.getElem?_eq_some_iff.1 hi2'.out).1).trans hi2'.out), Lib.hid ((hb5.out.block bm (Array.getElem?_eq_some_iff.1 hm2'.out).1).trans hm2'.out), hoff3, hB5, Lib.hid (xtrans hb2.out hb5.out)⟩, hmeas.out _ hb5.out⟩
          · simp only [famL, List.getElem_cons_zero, List.getElem_cons_succ] at hrun' hen
            by_cases hin : 128 ≤ op ∧ op ≤ 143
            · obtain ⟨i, hii⟩ : ∃ i, i = op - 128 := ⟨_, rfl⟩
              have hz : (op : Int) - 128 = (i : Int) := by omega
              have hz1 : (0 : Int) ≤ (i : Int) := by omega
              have hz2 : (i : Int) < 16 := by omega
              have hnm := hfj (fun h => h hin)
              have hinf := Lib.hid fun W => faminfo2_any i W (by omega)
              rw [show 128 + i = op by omega, hIN.out] at hinf
              subst hnm
              clear hfj hin hii hoff2 hsn hmeas
              go_wp2_with (first
                | (refine wpList_store_blkG rfl 62 _ _ rfl W2.heap.size rfl 62 [.int .i64 0, .int .i64 0, .nilFunc] [.int .i64 128, .int .i64 16, .func (.func 50) #[] #[]] (BlkG.new W2 _ _) rfl rfl (by kernel_rfl) rfl ?_; intro W5 hX5 ho5; have hb5 := ho5.below (xalloc (xrefl W2) _) (by rw [World.size_alloc]; omega) (by rintro k rfl; exact Nat.le_refl _); have hB5 := Lib.hid (hB2.out.below hb5); have hq := hX5.cell 0 (by show 0 < 3; omega); have hq1 := hX5.cell 1 (by show 1 < 3; omega); simp only [List.getElem_cons_zero, List.getElem_cons_succ] at hq hq1; replace hX5 := Lib.hid hX5; replace hb5 := Lib.hid hb5; clear ho5)
                | (refine wpList_load_blkG rfl 62 _ rfl W2.heap.size rfl 62 _ _ hX5.out hu2 rfl (by kernel_rfl) ?_)
                | (go_at_call 25; refine (hinf.out _).mono ?_; rintro e W6 ⟨rfl, hb6⟩; have hB6 := Lib.hid (hB5.out.below hb6); replace hb6 := Lib.hid (xtrans hb2.out (xtrans hb5.out hb6)))
                | (refine wpList_store_blkG rfl 25 _ _ rfl w.heap.size rfl 25 info0 (infoC R) hB6.out rfl rfl (by kernel_rfl) rfl ?_; intro w7 hX7 ho7; have hR7 := Lib.hid hX7; have hb7 := Lib.hid (ho7.below hb6.out hb6.out.size (by rintro k rfl; exact Nat.le_refl _)); clear hX7 ho7))
              exact bodyPost_ret (results_blkG2 (p := 2) rfl _ _ w.heap.size 25 _ _ rfl hR7.out hu rfl (by kernel_rfl)) rfl ⟨rfl, hb7.out⟩
            · have hoff3 := Lib.hid (hoff2.out hin)
              obtain ⟨z, hz, hzc⟩ : ∃ z : Int, (op : Int) - 128 = z ∧ (z < 0 ∨ (0 ≤ z ∧ 16 ≤ z)) := ⟨_, rfl, by omega⟩
              clear hin hoff2 hfj
              rcases hzc with hz1 | ⟨hz1, hz2⟩
              all_goals
                go_wp2_with (refine wpList_store_blkG rfl 62 _ _ rfl W2.heap.size rfl 62 [.int .i64 0, .int .i64 0, .nilFunc] [.int .i64 128, .int .i64 16, .func (.func 50) #[] #[]] (BlkG.new W2 _ _) rfl rfl (by kernel_rfl) rfl ?_; intro W5 hX5 ho5; have hb5 := ho5.below (xalloc (xrefl W2) _) (by rw [World.size_alloc]; omega) (by rintro k rfl; exact Nat.le_refl _); have hB5 := Lib.hid (hB2.out.below hb5); have hq := hX5.cell 0 (by show 0 < 3; omega); have hq1 := hX5.cell 1 (by show 1 < 3; omega); simp only [List.getElem_cons_zero, List.getElem_cons_succ] at hq hq1; replace hX5 := Lib.hid hX5; replace hb5 := Lib.hid hb5; clear ho5)
                exact ⟨⟨seen ++ [1], hsn, Lib.hid ((hb5.out.block it (Array.getElem?_eq_some_iff.1 hi2'.out).1).trans hi2'.out), Lib.hid ((hb5.out.block bm (Array.getElem?_eq_some_iff.1 hm2'.out).1).trans hm2'.out), hoff3, hB5, Lib.hid (xtrans hb2.out hb5.out)⟩, hmeas.out _ hb5.out⟩
          · simp only [famL, List.getElem_cons_zero, List.getElem_cons_succ] at hrun' hen
            by_cases hin : 144 ≤ op ∧ op ≤ 159
            · obtain ⟨i, hii⟩ : ∃ i, i = op - 144 := ⟨_, rfl⟩
              have hz : (op : Int) - 144 = (i : Int) := by omega
              have hz1 : (0 : Int) ≤ (i : Int) := by omega
              have hz2 : (i : Int) < 16 := by omega
              have hnm := hfj (fun h => h hin)
              have hinf := Lib.hid fun W => faminfo3_any i W (by omega)
              rw [show 144 + i = op by omega, hIN.out] at hinf
              subst hnm
              clear hfj hin hii hoff2 hsn hmeas
              go_wp2_with (first
                | (refine wpList_store_blkG rfl 62 _ _ rfl W2.heap.size rfl 62 [.int .i64 0, .int .i64 0, .nilFunc] [.int .i64 144, .int .i64 16, .func (.func 51) #[] #[]] (BlkG.new W2 _ _) rfl rfl (by kernel_rfl) rfl ?_; intro W5 hX5 ho5; have hb5 := ho5.below (xalloc (xrefl W2) _) (by rw [World.size_alloc]; omega) (by rintro k rfl; exact Nat.le_refl _); have hB5 := Lib.hid (hB2.out.below hb5); have hq := hX5.cell 0 (by show 0 < 3; omega); have hq1 := hX5.cell 1 (by show 1 < 3; omega); simp only [List.getElem_cons_zero, List.getElem_cons_succ] at hq hq1; replace hX5 := Lib.hid hX5; replace hb5 := Lib.hid hb5; clear ho5)
                | (refine wpList_load_blkG rfl 62 _ rfl W2.heap.size rfl 62 _ _ hX5.out hu2 rfl (by kernel_rfl) ?_)
                | (go_at_call 25; refine (hinf.out _).mono ?_; rintro e W6 ⟨rfl, hb6⟩; have hB6 := Lib.hid (hB5.out.below hb6); replace hb6 := Lib.hid (xtrans hb2.out (xtrans hb5.out hb6)))
                | (refine wpList_store_blkG rfl 25 _ _ rfl w.heap.size rfl 25 info0 (infoC R) hB6.out rfl rfl (by kernel_rfl) rfl ?_; intro w7 hX7 ho7; have hR7 := Lib.hid hX7; have hb7 := Lib.hid (ho7.below hb6.out hb6.out.size (by rintro k rfl; exact Nat.le_refl _)); clear hX7 ho7))
              exact bodyPost_ret (results_blkG2 (p := 2) rfl _ _ w.heap.size 25 _ _ rfl hR7.out hu rfl (by kernel_rfl)) rfl ⟨rfl, hb7.out⟩
            · have hoff3 := Lib.hid (hoff2.out hin)
              obtain ⟨z, hz, hzc⟩ : ∃ z : Int, (op : Int) - 144 = z ∧ (z < 0 ∨ (0 ≤ z ∧ 16 ≤ z)) := ⟨_, rfl, by omega⟩
              clear hin hoff2 hfj
              rcases hzc with hz1 | ⟨hz1, hz2⟩
              all_goals
                go_wp2_with (refine wpList_store_blkG rfl 62 _ _ rfl W2.heap.size rfl 62 [.int .i64 0, .int .i64 0, .nilFunc] [.int .i64 144, .int .i64 16, .func (.func 51) #[] #[]] (BlkG.new W2 _ _) rfl rfl (by kernel_rfl) rfl ?_; intro W5 hX5 ho5; have hb5 := ho5.below (xalloc (xrefl W2) _) (by rw [World.size_alloc]; omega) (by rintro k rfl; exact Nat.le_refl _); have hB5 := Lib.hid (hB2.out.below hb5); have hq := hX5.cell 0 (by show 0 < 3; omega); have hq1 := hX5.cell 1 (by show 1 < 3; omega); simp only [List.getElem_cons_zero, List.getElem_cons_succ] at hq hq1; replace hX5 := Lib.hid hX5; replace hb5 := Lib.hid hb5; clear ho5)
                exact ⟨⟨seen ++ [2], hsn, Lib.hid ((hb5.out.block it (Array.getElem?_eq_some_iff.1 hi2'.out).1).trans hi2'.out), Lib.hid ((hb5.out.block bm (Array.getElem?_eq_some_iff.1 hm2'.out).1).trans hm2'.out), hoff3, hB5, Lib.hid (xtrans hb2.out hb5.out)⟩, hmeas.out _ hb5.out⟩
          · simp only [famL, List.getElem_cons_zero, List.getElem_cons_succ] at hrun' hen
            by_cases hin : 160 ≤ op ∧ op ≤ 164
            · obtain ⟨i, hii⟩ : ∃ i, i = op - 160 := ⟨_, rfl⟩
              have hz : (op : Int) - 160 = (i : Int) := by omega
              have hz1 : (0 : Int) ≤ (i : Int) := by omega
              have hz2 : (i : Int) < 5 := by omega
              have hnm := hfj (fun h => h hin)
              have hinf := Lib.hid fun W => faminfo4_any i W (by omega)
              rw [show 160 + i = op by omega, hIN.out] at hinf
              subst hnm
              clear hfj hin hii hoff2 hsn hmeas
              go_wp2_with (first
                | (refine wpList_store_blkG rfl 62 _ _ rfl W2.heap.size rfl 62 [.int .i64 0, .int .i64 0, .nilFunc] [.int .i64 160, .int .i64 5, .func (.func 52) #[] #[]] (BlkG.new W2 _ _) rfl rfl (by kernel_rfl) rfl ?_; intro W5 hX5 ho5; have hb5 := ho5.below (xalloc (xrefl W2) _) (by rw [World.size_alloc]; omega) (by rintro k rfl; exact Nat.le_refl _); have hB5 := Lib.hid (hB2.out.below hb5); have hq := hX5.cell 0 (by show 0 < 3; omega); have hq1 := hX5.cell 1 (by show 1 < 3; omega); simp only [List.getElem_cons_zero, List.getElem_cons_succ] at hq hq1; replace hX5 := Lib.hid hX5; replace hb5 := Lib.hid hb5; clear ho5)
                | (refine wpList_load_blkG rfl 62 _ rfl W2.heap.size rfl 62 _ _ hX5.out hu2 rfl (by kernel_rfl) ?_)
                | (go_at_call 25; refine (hinf.out _).mono ?_; rintro e W6 ⟨rfl, hb6⟩; have hB6 := Lib.hid (hB5.out.below hb6); replace hb6 := Lib.hid (xtrans hb2.out (xtrans hb5.out hb6)))
                | (refine wpList_store_blkG rfl 25 _ _ rfl w.heap.size rfl 25 info0 (infoC R) hB6.out rfl rfl (by kernel_rfl) rfl ?_; intro w7 hX7 ho7; have hR7 := Lib.hid hX7; have hb7 := Lib.hid (ho7.below hb6.out hb6.out.size (by rintro k rfl; exact Nat.le_refl _)); clear hX7 ho7))
              exact bodyPost_ret (results_blkG2 (p := 2) rfl _ _ w.heap.size 25 _ _ rfl hR7.out hu rfl (by kernel_rfl)) rfl ⟨rfl, hb7.out⟩
            · have hoff3 := Lib.hid (hoff2.out hin)
              obtain ⟨z, hz, hzc⟩ : ∃ z : Int, (op : Int) - 160 = z ∧ (z < 0 ∨ (0 ≤ z ∧ 5 ≤ z)) := ⟨_, rfl, by omega⟩
              clear hin hoff2 hfj
              rcases hzc with hz1 | ⟨hz1, hz2⟩
              all_goals
                go_wp2_with (refine wpList_store_blkG rfl 62 _ _ rfl W2.heap.size rfl 62 [.int .i64 0, .int .i64 0, .nilFunc] [.int .i64 160, .int .i64 5, .func (.func 52) #[] #[]] (BlkG.new W2 _ _) rfl rfl (by kernel_rfl) rfl ?_; intro W5 hX5 ho5; have hb5 := ho5.below (xalloc (xrefl W2) _) (by rw [World.size_alloc]; omega) (by rintro k rfl; exact Nat.le_refl _); have hB5 := Lib.hid (hB2.out.below hb5); have hq := hX5.cell 0 (by show 0 < 3; omega); have hq1 := hX5.cell 1 (by show 1 < 3; omega); simp only [List.getElem_cons_zero, List.getElem_cons_succ] at hq hq1; replace hX5 := Lib.hid hX5; replace hb5 := Lib.hid hb5; clear ho5)
                exact ⟨⟨seen ++ [3], hsn, Lib.hid ((hb5.out.block it (Array.getElem?_eq_some_iff.1 hi2'.out).1).trans hi2'.out), Lib.hid ((hb5.out.block bm (Array.getElem?_eq_some_iff.1 hm2'.out).1).trans hm2'.out), hoff3, hB5, Lib.hid (xtrans hb2.out hb5.out)⟩, hmeas.out _ hb5.out⟩
end Go.Proofs.YtbicfaiabpcgfaaGreatDoor
namespace Go.Proofs.YtbicfaiabpcgfaaGreatDoor
open Go.RowKit

/-- What a map has when a key has been given a value. -/
def updI (n : Int) (v : Value) : List (Int × Value) → List (Int × Value)
  | [] => [(n, v)]
  | x :: l => if n = x.1 then (n, v) :: l else x :: updI n v l
theorem updI_new {n : Int} {v : Value} {l : List (Int × Value)} (h : ∀ x ∈ l, x.1 ≠ n) : updI n v l = l ++ [(n, v)] := by
  induction l with
  | nil => rfl
  | cons x l ih =>
    rw [updI, if_neg (fun e => h x (by simp) e.symm), ih fun y hy => h y (by simp [hy])]
    rfl
theorem findNow_put (q : IntKind) (n : Int) (v : Value) : ∀ (l : List (Int × Value)) (i j : Nat),
    (Instr.findNow (.int q) (.int q n) (entI q i l) j = some none ∧ updI n v l = l ++ [(n, v)]) ∨
    ∃ d u, Instr.findNow (.int q) (.int q n) (entI q i l) j = some (some (j + d, u)) ∧ d < l.length ∧ (entI q i l)[d]?.map (·.key) = some (.int q n) ∧ (updI n v l).length = l.length ∧ (entI q i l).modify d (fun e => { e with key := .int q n, val := v }) = entI q i (updI n v l)
  | [], i, j => .inl ⟨rfl, rfl⟩
  | (m, u) :: l, i, j => by
    by_cases h : n = m
    · subst h
      exact .inr ⟨0, u, by simp [entI, Instr.findNow, Instr.sameNow], by simp, by simp [entI], by simp [updI], by simp [entI, updI]⟩
    · have hb : (n == m) = false := by simpa using h
      rcases findNow_put q n v l (i + 1) (j + 1) with ⟨h1, h2⟩ | ⟨d, u', h1, h2, h3, h4, h5⟩
      · exact .inl ⟨by simp [entI, Instr.findNow, Instr.sameNow, hb, h1], by simp [updI, h, h2]⟩
      · refine .inr ⟨d + 1, u', ?_, by simpa using h2, ?_, by simp [updI, h, h4], ?_⟩
        · simp only [entI, Instr.findNow, Instr.sameNow, if_true, hb, h1]
          rw [show j + 1 + d = j + (d + 1) by omega]
        · simpa [entI] using h3
        · simp [entI, updI, h, h5]
theorem run_putI {P : Program} {t k e : TypeId} {q : IntKind} (ht : P.underlying t = some (.map k e)) (hk : P.underlying k = some (.int q)) (n : Int) (v : Value) (w : World) (b : Nat) (l : List (Int × Value)) (hb : w.heap[b]? = some (mapI q l)) :
    (Instr.mapUpdate t (.map (some b)) (.int q n) v).run P w = .ok () (w.putObj b (mapI q (updI n v l))) := by
  unfold mapI at hb
  rcases findNow_put q n v l 0 0 with ⟨h1, h2⟩ | ⟨d, u, h1, h2, h3, h4, h5⟩
  · have hf : (Instr.findKey k (.int q n) (entI q 0 l)).run P w = .ok none w := by
      simp [Instr.findKey, run_underlying hk, Sem.run_bind, h1]
    simp only [Instr.mapUpdate, run_underlying ht, Sem.run_bind, Result.andThen_ok, getObj, setObj, Sem.run, hb, checkKey_int hk, hf]
    show Result.ok () (w.putObj b _) = _
    rw [h2]
    congr 2
    simp [mapI, entI_append, entI]
  · rw [Nat.zero_add] at h1
    have hf : (Instr.findKey k (.int q n) (entI q 0 l)).run P w = .ok (some (d, u)) w := by
      simp [Instr.findKey, run_underlying hk, Sem.run_bind, h1]
    have hks : ∀ c : Value, (Instr.keyThatStays (.int q n) (.int q n)).run P w = .ok (.int q n) w := fun _ => by
      unfold Instr.keyThatStays
      rw [if_pos (by show Instr.sameBits (9999 + 1) _ _ = true; simp [Instr.sameBits])]
      simp
    have h3' : (Option.map (fun x => x.key) (entI q 0 l).toArray[d]?).getD (.int q n) = .int q n := by
      rw [List.getElem?_toArray, h3]; rfl
    simp only [Instr.mapUpdate, run_underlying ht, Sem.run_bind, Result.andThen_ok, getObj, setObj, Sem.run, hb, checkKey_int hk, hf, h3', hks undef]
    show Result.ok () (w.putObj b _) = _
    congr 2
    unfold mapI
    rw [h4]
    congr 1
    apply Array.ext'
    rw [Array.toList_modify, h5]
end Go.Proofs.YtbicfaiabpcgfaaGreatDoor
