/- Texts of this claim, merged; no condition. -/
import Derived.Test.YtbicfaiabpcgfaaGreatDoorD13
import Derived.Test.YtbicfaiabpcgfaaGreatDoorD02
set_option linter.all false
namespace Go.Proofs.YtbicfaiabpcgfaaGreatDoor
open Go.RowKit Go.Shelf

theorem wpList_putU {P : Program} {ops : Array Oper} {rest : List Oper} {o : Oper} {a : Act} {w : World} {Q : Exit → Act → World → Prop} (hgd : o.guard = none) (t k e : TypeId) (q : IntKind) (x y z : Operand) (ho : o.op = .mapUpdate t x y z)
    (ht : P.underlying t = some (.map k e)) (hk : P.underlying k = some (.int q)) (b : Nat) (n : Int) (v : Value) (l : List (Int × Value)) (hx : a.eval x = .map (some b)) (hy : a.eval y = .int q n) (hz : a.eval z = v)
    (hb : w.heap[b]? = some (mapI q l))
    (h : ∀ w', w'.heap[b]? = some (mapI q (updI n v l)) → Only (· = b) w w' → wpList P ops Q rest (a.put o.dst undef) w') : wpList P ops Q (o :: rest) a w := by
  refine wpList_plain hgd fun _ hK => ?_
  unfold Oper.wp execOp
  simp only [ho, hx, hy, hz, Sem.run_bind, run_putI ht hk n v w b l hb, Result.andThen_ok, Sem.run_pure]
  have hlt : b < w.heap.size := (Array.getElem?_eq_some_iff.1 hb).1
  exact hK _ _ (h _ (World.putObj_heap_same hlt) ((Only.refl _ _).putObj b _ rfl))
/-- A load of a whole block of any kind. -/
theorem wpGrowV_load_blkG {P : Program} {ops : Array Oper} {w : World} {L : Nat → Told} {K : List Value → Act → Prop} {o : Oper} {rest : List Oper} {s : List Value} {a : Act} (hgd : o.guard = none) (ty : TypeId) (x : Operand) (ho : o.op = .load ty x)
    (b : Nat) (hx : a.eval x = .pointer (some ⟨b, 0, none⟩)) (T : TypeId) (vs : List Value) (d : TypeDesc) (hB : BlkG w b T vs) (hu : P.underlying ty = some d) (hd : d.isRow = true) (hi : (P.info? ty).map (·.size) = some vs.length)
    (hL : L s.length = fixd (.agg vs.toArray))
    (h : wpGrowV P ops w L K rest (s ++ [.agg vs.toArray]) (a.put o.dst (.agg vs.toArray))) : wpGrowV P ops w L K (o :: rest) s a := by
  refine wpGrowV_fix _ hL (by simp [Region.wanted, hgd]) (fun W hb _ => ?_) h
  have hW := hB.below hb
  have hc : W.rangeAt b 0 vs := fun j v hj => by
    rw [Nat.zero_add]
    obtain ⟨hlt, rfl⟩ := List.getElem?_eq_some_iff.1 hj
    exact hW.cell j hlt
  have hr : (execOp a.eval o).run P W = .ok (.value (.agg vs.toArray)) W := by
    unfold execOp
    simp only [ho, hx, Instr.loadAt, Instr.sureAddr, Sem.run_bind, Sem.run_pure, Result.andThen_ok, run_loadVar_mid W b 0 ty _ _ hc hu hd (by simpa using hi)]
  rw [hr]
  exact ⟨rfl, xrefl W⟩
def tabK : List Nat := aloneRows.map (·.1)
def famK (j : Nat) : List Nat := match j with | 0 => List.range' 96 32 | 1 => List.range' 128 16 | 2 => List.range' 144 16 | _ => List.range' 160 5
def seenK (seen : List Nat) : List Nat := tabK ++ seen.flatMap famK
def tabL (K : List Nat) : List (Int × Value) := K.map fun (c : Nat) => ((c : Int), infoV (infoN c))
theorem tabL_keys (K : List Nat) : (tabL K).map (·.1) = natI K := by unfold tabL natI; rw [List.map_map]; rfl
theorem tabL_len (K : List Nat) : (tabL K).length = K.length := by unfold tabL; simp
theorem tabL_put {K : List Nat} {c : Nat} (h : c ∉ K) : updI (c : Int) (infoV (infoN c)) (tabL K) = tabL (K ++ [c]) := by
  rw [updI_new]
  · unfold tabL; simp
  · intro x hx
    unfold tabL at hx
    obtain ⟨d, hd, rfl⟩ := List.mem_map.1 hx
    intro e
    have e2 : (d : Int) = (c : Int) := e
    have : d = c := by omega
    exact h (this ▸ hd)
theorem tabK_nd : tabK.Nodup := by decide +kernel
theorem tabK_len : tabK.length = 75 := by decide +kernel
theorem fam_tab : ∀ j : Fin 4, ∀ c ∈ famK j.1, c ∉ tabK := by decide +kernel
theorem fam_fam : ∀ i j : Fin 4, i ≠ j → ∀ c ∈ famK i.1, c ∉ famK j.1 := by decide +kernel
theorem fam_nd (j : Nat) : (famK j).Nodup := by unfold famK; split <;> exact List.nodup_range'
theorem fam_lt : ∀ j : Fin 4, ∀ c ∈ famK j.1, c < 256 := by decide +kernel
theorem tab_lt : ∀ c ∈ tabK, c < 256 := by decide +kernel
theorem tab_all : ∀ c : Fin 256, namedN c.1 = (tabK.contains c.1 || (famK 0).contains c.1 || (famK 1).contains c.1 || (famK 2).contains c.1 || (famK 3).contains c.1) := by decide +kernel
theorem seen_fresh {seen : List Nat} {j : Nat} (hs : ∀ i ∈ seen, i < 4) (hj : j < 4) (hn : j ∉ seen) : ∀ c ∈ famK j, c ∉ seenK seen := by
  intro c hc h
  rcases List.mem_append.1 h with h | h
  · exact fam_tab ⟨j, hj⟩ c hc h
  · obtain ⟨i, hi, hci⟩ := List.mem_flatMap.1 h
    exact fam_fam ⟨j, hj⟩ ⟨i, hs i hi⟩ (fun e => hn (by have := congrArg Fin.val e; simp at this; rw [this]; exact hi)) c hc hci
theorem seenK_snoc (seen : List Nat) (j : Nat) : seenK (seen ++ [j]) = seenK seen ++ famK j := by unfold seenK; simp
theorem fams_nd : ∀ {seen : List Nat}, (∀ i ∈ seen, i < 4) → seen.Nodup → (seen.flatMap famK).Nodup
  | [], _, _ => by simp
  | j :: l, hs, hn => by
    rw [List.flatMap_cons]
    have hn2 := List.nodup_cons.1 hn
    refine List.nodup_append.2 ⟨fam_nd j, fams_nd (fun i hi => hs i (by simp [hi])) hn2.2, fun a ha b hb e => ?_⟩
    obtain ⟨i, hi, hbi⟩ := List.mem_flatMap.1 hb
    exact fam_fam ⟨j, hs j (by simp)⟩ ⟨i, hs i (by simp [hi])⟩ (fun e2 => hn2.1 (by have := congrArg Fin.val e2; simp at this; rw [this]; exact hi)) a ha (e ▸ hbi)
theorem seenK_nd {seen : List Nat} (hs : ∀ i ∈ seen, i < 4) (hn : seen.Nodup) : (seenK seen).Nodup := by
  refine List.nodup_append.2 ⟨tabK_nd, fams_nd hs hn, fun a ha b hb e => ?_⟩
  obtain ⟨i, hi, hbi⟩ := List.mem_flatMap.1 hb
  exact fam_tab ⟨i, hs i hi⟩ b hbi (e ▸ ha)
theorem seenK_mem {seen : List Nat} (hs : ∀ i ∈ seen, i < 4) (ha : ∀ i, i < 4 → i ∈ seen) (c : Nat) : c ∈ seenK seen ↔ c < 256 ∧ namedN c = true := by
  unfold seenK
  constructor
  · intro h
    have hlt : c < 256 := by
      rcases List.mem_append.1 h with h | h
      · exact tab_lt c h
      · obtain ⟨i, hi, hci⟩ := List.mem_flatMap.1 h
        exact fam_lt ⟨i, hs i hi⟩ c hci
    refine ⟨hlt, ?_⟩
    rw [tab_all ⟨c, hlt⟩]
    simp only [Bool.or_eq_true, List.contains_iff_mem]
    rcases List.mem_append.1 h with h | h
    · exact .inl (.inl (.inl (.inl h)))
    · obtain ⟨i, hi, hci⟩ := List.mem_flatMap.1 h
      match i, hs i hi, hci with
      | 0, _, h => exact .inl (.inl (.inl (.inr h)))
      | 1, _, h => exact .inl (.inl (.inr h))
      | 2, _, h => exact .inl (.inr h)
      | 3, _, h => exact .inr h
  · rintro ⟨hlt, h⟩
    rw [tab_all ⟨c, hlt⟩] at h
    simp only [Bool.or_eq_true, List.contains_iff_mem] at h
    rw [List.mem_append, List.mem_flatMap]
    rcases h with (((h | h) | h) | h) | h
    · exact .inl h
    · exact .inr ⟨0, ha 0 (by omega), h⟩
    · exact .inr ⟨1, ha 1 (by omega), h⟩
    · exact .inr ⟨2, ha 2 (by omega), h⟩
    · exact .inr ⟨3, ha 3 (by omega), h⟩
theorem range_take (a n i : Nat) (h : i < n) : (List.range' a n).take (i + 1) = (List.range' a n).take i ++ [a + i] ∧ a + i ∉ (List.range' a n).take i ∧ a + i ∈ List.range' a n := by
  have hl : i < (List.range' a n).length := by simpa using h
  have hg : (List.range' a n)[i] = a + i := by simp
  refine ⟨by rw [List.take_succ_eq_append_getElem hl, hg], fun hm => ?_, by rw [List.mem_range'_1]; omega⟩
  obtain ⟨k, hk, e⟩ := List.getElem_of_mem hm
  rw [List.getElem_take] at e
  simp at e hk
  omega
/-- The table in memory: its keys, in the order in which they came. -/
def TabAt' (w : World) (b : Nat) (K : List Nat) : Prop := w.heap[b]? = some (mapI .u8 (tabL K))
def TabG (K : List Nat) : Prop := K.Nodup ∧ ∀ c, c ∈ K ↔ c < 256 ∧ namedN c = true
theorem TabG.len {K : List Nat} (h : TabG K) : K.length ≤ 256 := by
  have := h.1.length_le_of_subset (l₂ := List.range 256) fun x hx => List.mem_range.2 ((h.2 x).1 hx).1
  simpa using this
theorem own_mapU (w : World) : (Instr.makeMap 66 none).run Tryz.prog w = .ok (.map (some w.heap.size)) (w.alloc (mapI .u8 [])) := rfl
set_option maxRecDepth 100000 in
set_option maxHeartbeats 16000000 in
theorem table_any (w : World) : Calls Tryz.prog 31 #[] w fun e w' => (∃ K, e = .returned (.map (some w.heap.size)) ∧ TabAt' w' w.heap.size K ∧ TabG K) ∧ Below w.heap.size w w' := by
  have hal := Lib.hid fun W => alone_any W
  have hfa := Lib.hid fun W => families_any W
  have hu := Tryz.underlying25
  have hu2 := Tryz.underlying62
  have hidx := Lib.hid fun i hi W => run_index_alone i hi W
  have hat := Lib.hid alone_at
  have hmk := own_mapU
  have hT0 : (w.alloc (mapI .u8 [])).heap[w.heap.size]? = some (mapI .u8 []) := World.alloc_heap_new w _
  have hb0 : Below w.heap.size w (w.alloc (mapI .u8 [])) := xalloc (xrefl w) _
  replace hT0 := Lib.hid hT0
  replace hb0 := Lib.hid hb0
  go_enter Tryz.func31, Tryz.ntmps31
  go_wp2_with (go_at_call 23; refine (hal.out _).mono ?_; rintro e w1 ⟨rfl, hb1⟩; have hT1 := Lib.hid ((hb1.block w.heap.size (Array.getElem?_eq_some_iff.1 hT0.out).1).trans hT0.out); replace hb1 := Lib.hid (xtrans hb0.out hb1); clear hal hT0 hb0)
  generalize hAV : aloneV.toArray = AV at *
  replace hAV := Lib.hid hAV
  go_loopw [9] (fun iv wx => ∃ i : Nat, i ≤ 75 ∧ iv = .int .i64 i ∧ Hid (wx.heap[w.heap.size]? = some (mapI .u8 (tabL (tabK.take i)))) ∧ Hid (Below w.heap.size w wx)) (fun iv _ => 75 - (intOf iv).toNat)
  case atStart => exact ⟨0, by omega, rfl, Lib.hid (by simpa [tabL] using hT1.out), hb1⟩
  case round =>
    clear hT1 hb1
    obtain ⟨i, hi, rfl, hT, hb⟩ := hrel
    by_cases hlt : i < 75
    · have hltI : (i : Int) < 75 := by omega
      have hix := hidx.out i hlt wr
      obtain ⟨ha1, ha2, ha3⟩ := hat.out ⟨i, hlt⟩
      simp only at ha1 ha2 ha3
      have hkl : i < tabK.length := by rw [tabK_len]; exact hlt
      have hki : tabK[i] = (aloneRows.getD i (0, noInfo)).1 := by
        have hal2 := alone_len
        simp only [tabK, List.getElem_map]
        rw [getD_lt _ (by omega)]
      have htk := List.take_succ_eq_append_getElem hkl
      have hnew : tabK[i] ∉ tabK.take i := by
        have hnd := tabK_nd
        rw [← List.take_append_drop (i + 1) tabK, List.nodup_append, htk, List.nodup_append] at hnd
        intro hm
        exact hnd.1.2.2 _ hm _ (by simp) rfl
      rw [hki] at htk hnew
      have hput := tabL_put hnew
      rw [← htk] at hput
      generalize aloneRows.getD i (0, noInfo) = r at *
      obtain ⟨c, X⟩ := r
      simp only at ha1 ha2 ha3 hput
      rw [ha1] at hput
      replace hput := Lib.hid hput
      have hTl := (Array.getElem?_eq_some_iff.1 hT.out).1
      clear ha1 ha2 ha3 hkl hki htk hnew
      go_wp2_with (first
        | (refine wpList_store_blkG rfl 55 _ _ rfl wr.heap.size rfl 55 row0 (aloneC (c, X)) (BlkG.new wr _ _) rfl rfl (by kernel_rfl) rfl ?_; intro w5 hX5 ho5; have hb5 := ho5.below (xalloc (xrefl wr) _) (by rw [World.size_alloc]; omega) (by rintro k rfl; exact Nat.le_refl _); have hT5 := Lib.hid ((hb5.block w.heap.size hTl).trans hT.out); replace hb5 := Lib.hid (xtrans hb.out hb5); have hx0 : w5.cell? ⟨wr.heap.size, 0, none⟩ = some (.int .u8 c) := hX5.cell 0 (by show 0 < 7; omega); have hr5 := Lib.hid (rangeAt_tail hX5); clear hX5 ho5)
        | (refine wpList_load_mid rfl 25 _ rfl wr.heap.size 1 rfl (infoC X) _ hr5.out hu rfl (by kernel_rfl) ?_)
        | (refine wpList_putU rfl 66 5 25 .u8 _ _ _ rfl Tryz.underlying66 Tryz.underlying5 w.heap.size c (infoV X) _ rfl rfl rfl hT5.out ?_; intro w6 hT6 ho6; rw [hput.out] at hT6; have hb6 := Lib.hid (ho6.below hb5.out hb5.out.size (by rintro k rfl; exact Nat.le_refl _)); replace hT6 := Lib.hid hT6; clear ho6))
      exact ⟨⟨i + 1, by omega, by go_num, hT6, hb6⟩, by simp [intOf] <;> omega⟩
    · obtain rfl : i = 75 := by omega
      have e75 : tabK.take 75 = seenK [] := by unfold seenK; rw [List.take_of_length_le (by rw [tabK_len]; omega)]; simp
      rw [e75] at hT
      clear hlt hidx hat e75
      go_wp2_with (go_at_call 24; refine (hfa.out _).mono ?_; rintro e w2 ⟨⟨bm, rfl, hM, hbm⟩, hb2⟩; have hT2 := Lib.hid ((hb2.block w.heap.size (Array.getElem?_eq_some_iff.1 hT.out).1).trans hT.out); have hbm2 : w.heap.size < bm := (by have := (Array.getElem?_eq_some_iff.1 hT.out).1; omega); replace hb2 := Lib.hid (xtrans hb.out hb2); have hrg := range_mapG (P := Tryz.prog) (t := 58) Tryz.underlying58 hM; have hM2 := Lib.hid hM; clear hM hfa)
      obtain ⟨it, hit⟩ : ∃ it, it = w2.heap.size := ⟨_, rfl⟩
      have hb3 : Below w2.heap.size w2 (w2.alloc (itO bm famL.length [])) := xalloc (xrefl _) _
      have hi3 : (w2.alloc (itO bm famL.length [])).heap[it]? = some (itO bm famL.length []) := by rw [hit]; exact World.alloc_heap_new w2 _
      have hml : bm < w2.heap.size := (Array.getElem?_eq_some_iff.1 hM2.out).1
      have hM3 : (w2.alloc (itO bm famL.length [])).heap[bm]? = some (mapG famL) := (hb3.block bm hml).trans hM2.out
      have hT3 : (w2.alloc (itO bm famL.length [])).heap[w.heap.size]? = some (mapI .u8 (tabL (seenK []))) := (hb3.block w.heap.size (by omega)).trans hT2.out
      have hb3w := Lib.hid (xtrans hb2.out hb3)
      rw [← hit]
      generalize w2.alloc (itO bm famL.length []) = w3 at hi3 hM3 hT3 hb3w ⊢
      have hbi : ¬ bm = it := by omega
      have hri : ¬ w.heap.size = it := by omega
      have hri2 : w.heap.size ≤ it := by omega
      replace hi3 := Lib.hid hi3
      replace hM3 := Lib.hid hM3
      replace hT3 := Lib.hid hT3
      clear hT hb hb2 hM2 hT2 hb3 hrg hit hml
      go_loopw [20] (fun sv wx => ∃ seen : List Nat, Hid (seen.Nodup ∧ ∀ j ∈ seen, j < famL.length) ∧ Hid (wx.heap[it]? = some (itO bm famL.length seen)) ∧ Hid (wx.heap[bm]? = some (mapG famL)) ∧ Hid (wx.heap[w.heap.size]? = some (mapI .u8 (tabL (seenK seen)))) ∧ Hid (Below w.heap.size w wx)) (fun _ wx => famL.length - seenAt wx it)
      case atStart => exact ⟨[], Lib.hid ⟨List.nodup_nil, fun j h => by cases h⟩, hi3, hM3, hT3, hb3w⟩
      case round =>
        clear hi3 hM3 hT3 hb3w
        obtain ⟨seen, hs, hi0, hm, hT, hb⟩ := hrel
        rcases next_mapG (P := Tryz.prog) 0 hi0.out hm.out with ⟨hall, hrun⟩ | ⟨j, hj, hns, W2, hrun, hon, hi2⟩
        · have hrun' : ∀ ty, (Instr.next (.pointer (some ⟨it, 0, none⟩)) false ty).run Tryz.prog wr = _ := fun ty => hrun
          have hG : Hid (TabG (seenK seen)) := Lib.hid ⟨seenK_nd (fun i hi => hs.out.2 i hi) hs.out.1, seenK_mem (fun i hi => hs.out.2 i hi) (fun i hi => hall i hi)⟩
          clear hrun hall
          go_wp2
          go_ret
          exact ⟨⟨_, rfl, hT.out, hG.out⟩, hb.out⟩
        · have hrun' : ∀ ty, (Instr.next (.pointer (some ⟨it, 0, none⟩)) false ty).run Tryz.prog wr = _ := fun ty => hrun
          have hm2 : W2.heap[bm]? = some (mapG famL) := (hon.same bm (Array.getElem?_eq_some_iff.1 hm.out).1 hbi).trans hm.out
          have hen := entry_mapG (P := Tryz.prog) hj hi2 hm2
          have hb2 := Lib.hid (hon.below hb.out hb.out.size (by rintro k rfl; exact hri2))
          have ht2 := Lib.hid ((hon.same w.heap.size (Array.getElem?_eq_some_iff.1 hT.out).1 hri).trans hT.out)
          have hsn : Hid ((seen ++ [j]).Nodup ∧ ∀ i ∈ seen ++ [j], i < famL.length) := Lib.hid ⟨by rw [List.nodup_append]; exact ⟨hs.out.1, by simp, fun a ha b hb e => hns (by simp at hb; subst hb; rw [← e]; exact ha)⟩, fun i hi => by
            rcases List.mem_append.1 hi with h | h
            · exact hs.out.2 i h
            · simp at h; omega⟩
          have hfresh : Hid (∀ c ∈ famK j, c ∉ seenK seen) := Lib.hid (seen_fresh (fun i hi => hs.out.2 i hi) hj hns)
          have hi2' := Lib.hid hi2
          have hm2' := Lib.hid hm2
          have hbmW := (Array.getElem?_eq_some_iff.1 hm2).1
          have hitW := (Array.getElem?_eq_some_iff.1 hi2).1
          have hmbW := (Array.getElem?_eq_some_iff.1 ht2.out).1
          replace hns := Lib.hid hns
          clear hi2 hm2 hm hT hb hrun hon
          have hj4 : j = 0 ∨ j = 1 ∨ j = 2 ∨ j = 3 := by have : famL.length = 4 := rfl; omega
          rcases hj4 with rfl | rfl | rfl | rfl
          · simp only [famL, List.getElem_cons_zero, List.getElem_cons_succ] at hrun' hen
            have hfr := Lib.hid (hfresh.out : ∀ c ∈ famK 0, c ∉ seenK seen)
            go_wp2_with (refine wpList_store_blkG rfl 62 _ _ rfl W2.heap.size rfl 62 [.int .i64 0, .int .i64 0, .nilFunc] [.int .i64 96, .int .i64 32, .func (.func 49) #[] #[]] (BlkG.new W2 _ _) rfl rfl (by kernel_rfl) rfl ?_; intro W5 hX5 ho5; have hb5 := ho5.below (xalloc (xrefl W2) _) (by rw [World.size_alloc]; omega) (by rintro k rfl; exact Nat.le_refl _); have hq1 := hX5.cell 1 (by show 1 < 3; omega); simp only [List.getElem_cons_zero, List.getElem_cons_succ] at hq1; replace hX5 := Lib.hid hX5; have hm5 := Lib.hid ((hb5.block bm hbmW).trans hm2'.out); have hi5 := Lib.hid ((hb5.block it hitW).trans hi2'.out); have ht5 := Lib.hid ((hb5.block w.heap.size hmbW).trans ht2.out); replace hb5 := Lib.hid (xtrans hb2.out hb5); clear ho5)
            go_loopw [27] (fun vi wx => ∃ i : Nat, vi = .int .i64 i ∧ i ≤ 32 ∧ Hid (wx.heap[w.heap.size]? = some (mapI .u8 (tabL (seenK seen ++ (famK 0).take i)))) ∧ Hid (BlkG wx W2.heap.size 62 [.int .i64 96, .int .i64 32, .func (.func 49) #[] #[]]) ∧ Hid (wx.heap[bm]? = some (mapG famL)) ∧ Hid (wx.heap[it]? = some (itO bm famL.length (seen ++ [0]))) ∧ Hid (Below w.heap.size w wx)) (fun vi _ => 32 - (intOf vi).toNat)
            case atStart => exact ⟨0, rfl, by omega, by simpa using ht5, hX5, hm5, hi5, hb5⟩
            case round =>
              clear ht5 hX5 hm5 hi5 hb5 hq1
              obtain ⟨i, rfl, hi, ht6, hX6, hm6, hi6, hb6⟩ := hrel
              by_cases hlt : i < 32
              · have hltI : (i : Int) < 32 := by omega
                have hq0 := hX6.out.cell 0 (by show 0 < 3; omega)
                simp only [List.getElem_cons_zero] at hq0
                have hinf := fun W => faminfo1_any i W hlt
                obtain ⟨ht7, hf1, hf2⟩ := range_take 96 32 i hlt
                have hnew : 96 + i ∉ seenK seen ++ (famK 0).take i := fun h => (List.mem_append.1 h).elim (fun h => hfr.out _ hf2 h) hf1
                have hput := tabL_put hnew
                obtain ⟨c, hc⟩ : ∃ c : Nat, c = 96 + i := ⟨_, rfl⟩
                rw [← hc] at hinf hput ht7
                have hw1 : IntKind.i64.wrap (96 + (i : Int)) = (c : Int) := by simp [IntKind.wrap, IntKind.bits, IntKind.signed]; omega
                have hw2 : IntKind.u8.wrap (c : Int) = (c : Int) := by simp [IntKind.wrap, IntKind.bits, IntKind.signed]; omega
                have ht8 : (famK 0).take (i + 1) = (famK 0).take i ++ [c] := ht7
                rw [List.append_assoc, ← ht8] at hput
                clear ht7 hf1 hf2 hnew hc ht8
                replace hput := Lib.hid hput
                go_wp2
                refine' wp_region_growL 10 [fixd _, fixd _, fixd _, fixd _, fixd _, fixd _, fixd (.agg ([.int .i64 96, .int .i64 32, .func (.func 49) #[] #[]] : List Value).toArray), fixd _, fixd _, fixd _] (by kernel_rfl) (by kernel_rfl) ?_
                rotate_left 9
                simp only [List.take_succ_cons, List.take_zero, List.drop_succ_cons, List.drop_zero]
                try simp only [Act.put, List.setIfInBounds_toArray, List.set_cons_succ, List.set_cons_zero, List.nil_append, List.cons_append]
                refine' wpGrowV_fix _ rfl rfl (fun W hb _ => by go_simp; first | exact xrefl W | exact ⟨rfl, xrefl W⟩) ?_
                try simp only [Act.put, List.setIfInBounds_toArray, List.set_cons_succ, List.set_cons_zero, List.nil_append, List.cons_append]
                refine' wpGrowV_fix _ rfl rfl (fun W hb _ => by go_simp; first | exact xrefl W | exact ⟨rfl, xrefl W⟩) ?_
                try simp only [Act.put, List.setIfInBounds_toArray, List.set_cons_succ, List.set_cons_zero, List.nil_append, List.cons_append]
                refine' wpGrowV_fix _ rfl rfl (fun W hb _ => by have c := cbel hb hq0; go_simp; first | exact xrefl W | exact ⟨rfl, xrefl W⟩) ?_
                try simp only [Act.put, List.setIfInBounds_toArray, List.set_cons_succ, List.set_cons_zero, List.nil_append, List.cons_append]
                refine' wpGrowV_fix _ rfl rfl (fun W hb _ => by go_simp; first | exact xrefl W | exact ⟨rfl, xrefl W⟩) ?_
                try simp only [Act.put, List.setIfInBounds_toArray, List.set_cons_succ, List.set_cons_zero, List.nil_append, List.cons_append]
                refine' wpGrowV_fix _ rfl rfl (fun W hb _ => by go_simp; first | exact xrefl W | exact ⟨rfl, xrefl W⟩) ?_
                try simp only [Act.put, List.setIfInBounds_toArray, List.set_cons_succ, List.set_cons_zero, List.nil_append, List.cons_append]
                refine' wpGrowV_fix _ rfl rfl (fun W hb _ => by go_simp; first | exact xrefl W | exact ⟨rfl, xrefl W⟩) ?_
                try simp only [Act.put, List.setIfInBounds_toArray, List.set_cons_succ, List.set_cons_zero, List.nil_append, List.cons_append]
                refine wpGrowV_load_blkG rfl 62 _ rfl W2.heap.size rfl 62 [.int .i64 96, .int .i64 32, .func (.func 49) #[] #[]] _ hX6.out hu2 rfl (by kernel_rfl) rfl ?_
                try simp only [Act.put, List.setIfInBounds_toArray, List.set_cons_succ, List.set_cons_zero, List.nil_append, List.cons_append]
                refine' wpGrowV_fix _ rfl rfl (fun W hb _ => by go_simp; first | exact xrefl W | exact ⟨rfl, xrefl W⟩) ?_
                try simp only [Act.put, List.setIfInBounds_toArray, List.set_cons_succ, List.set_cons_zero, List.nil_append, List.cons_append]
                refine' wpGrowV_fix _ rfl rfl (fun W hb _ => by go_simp; first | exact xrefl W | exact ⟨rfl, xrefl W⟩) ?_
                try simp only [Act.put, List.setIfInBounds_toArray, List.set_cons_succ, List.set_cons_zero, List.nil_append, List.cons_append]
                refine' wpGrowV_fix _ rfl rfl (fun W hb hF => ?_) ?_
                · clear hF
                  go_simp
                  go_at_call 25
                  refine (hinf W).mono ?_
                  rintro e w' ⟨rfl, hb'⟩
                  refine ⟨?_, hb'⟩
                  exact rfl
                try simp only [Act.put, List.setIfInBounds_toArray, List.set_cons_succ, List.set_cons_zero, List.nil_append, List.cons_append]
                intro W7 hb7 hm7
                have ht7 := Lib.hid ((hb7.block w.heap.size (Array.getElem?_eq_some_iff.1 ht6.out).1).trans ht6.out)
                have hX7 := Lib.hid (hX6.out.below hb7)
                have hmm7 := Lib.hid ((hb7.block bm (Array.getElem?_eq_some_iff.1 hm6.out).1).trans hm6.out)
                have hii7 := Lib.hid ((hb7.block it (Array.getElem?_eq_some_iff.1 hi6.out).1).trans hi6.out)
                have hbb7 := Lib.hid (xtrans hb6.out hb7)
                have hX7l := hX7.out.lt
                clear hb7 hm7 ht6 hX6 hm6 hi6 hb6 hinf hq0
                go_wp2_with (refine wpList_putU rfl 66 5 25 .u8 _ _ _ rfl Tryz.underlying66 Tryz.underlying5 w.heap.size c (infoV (infoN c)) _ rfl rfl rfl ht7.out ?_; intro W8 ht8 ho8; rw [hput.out] at ht8; have hX8 := Lib.hid (hX7.out.only ho8 (by omega)); have hm8 := Lib.hid ((ho8.same bm (Array.getElem?_eq_some_iff.1 hmm7.out).1 (by omega)).trans hmm7.out); have hi8 := Lib.hid ((ho8.same it (Array.getElem?_eq_some_iff.1 hii7.out).1 (by omega)).trans hii7.out); have hb8 := Lib.hid (ho8.below hbb7.out hbb7.out.size (by rintro k rfl; exact Nat.le_refl _)); replace ht8 := Lib.hid ht8; clear ho8)
                go_roundw
                case rel => exact ⟨i + 1, by go_num, by omega, ht8, hX8, hm8, hi8, hb8⟩
                case measure => simp [intOf] <;> omega
              · obtain rfl : i = 32 := by omega
                have hfin : seenK seen ++ (famK 0).take 32 = seenK (seen ++ [0]) := by rw [seenK_snoc, List.take_of_length_le (by simp [famK])]
                rw [hfin] at ht6
                clear hfin
                go_wp2
                go_roundw
                case rel => exact ⟨seen ++ [0], hsn, hi6, hm6, ht6, hb6⟩
                case measure =>
                  have hl := seen_lt hs.out.1 hs.out.2 hj hns.out
                  rw [seenAt_eq hi6.out, seenAt_eq hi0.out, List.length_append]
                  simp at hl ⊢
                  omega
          · simp only [famL, List.getElem_cons_zero, List.getElem_cons_succ] at hrun' hen
            have hfr := Lib.hid (hfresh.out : ∀ c ∈ famK 1, c ∉ seenK seen)
            go_wp2_with (refine wpList_store_blkG rfl 62 _ _ rfl W2.heap.size rfl 62 [.int .i64 0, .int .i64 0, .nilFunc] [.int .i64 128, .int .i64 16, .func (.func 50) #[] #[]] (BlkG.new W2 _ _) rfl rfl (by kernel_rfl) rfl ?_; intro W5 hX5 ho5; have hb5 := ho5.below (xalloc (xrefl W2) _) (by rw [World.size_alloc]; omega) (by rintro k rfl; exact Nat.le_refl _); have hq1 := hX5.cell 1 (by show 1 < 3; omega); simp only [List.getElem_cons_zero, List.getElem_cons_succ] at hq1; replace hX5 := Lib.hid hX5; have hm5 := Lib.hid ((hb5.block bm hbmW).trans hm2'.out); have hi5 := Lib.hid ((hb5.block it hitW).trans hi2'.out); have ht5 := Lib.hid ((hb5.block w.heap.size hmbW).trans ht2.out); replace hb5 := Lib.hid (xtrans hb2.out hb5); clear ho5)
            go_loopw [27] (fun vi wx => ∃ i : Nat, vi = .int .i64 i ∧ i ≤ 16 ∧ Hid (wx.heap[w.heap.size]? = some (mapI .u8 (tabL (seenK seen ++ (famK 1).take i)))) ∧ Hid (BlkG wx W2.heap.size 62 [.int .i64 128, .int .i64 16, .func (.func 50) #[] #[]]) ∧ Hid (wx.heap[bm]? = some (mapG famL)) ∧ Hid (wx.heap[it]? = some (itO bm famL.length (seen ++ [1]))) ∧ Hid (Below w.heap.size w wx)) (fun vi _ => 16 - (intOf vi).toNat)
            case atStart => exact ⟨0, rfl, by omega, by simpa using ht5, hX5, hm5, hi5, hb5⟩
            case round =>
              clear ht5 hX5 hm5 hi5 hb5 hq1
              obtain ⟨i, rfl, hi, ht6, hX6, hm6, hi6, hb6⟩ := hrel
              by_cases hlt : i < 16
              · have hltI : (i : Int) < 16 := by omega
                have hq0 := hX6.out.cell 0 (by show 0 < 3; omega)
                simp only [List.getElem_cons_zero] at hq0
                have hinf := fun W => faminfo2_any i W hlt
                obtain ⟨ht7, hf1, hf2⟩ := range_take 128 16 i hlt
                have hnew : 128 + i ∉ seenK seen ++ (famK 1).take i := fun h => (List.mem_append.1 h).elim (fun h => hfr.out _ hf2 h) hf1
                have hput := tabL_put hnew
                obtain ⟨c, hc⟩ : ∃ c : Nat, c = 128 + i := ⟨_, rfl⟩
                rw [← hc] at hinf hput ht7
                have hw1 : IntKind.i64.wrap (128 + (i : Int)) = (c : Int) := by simp [IntKind.wrap, IntKind.bits, IntKind.signed]; omega
                have hw2 : IntKind.u8.wrap (c : Int) = (c : Int) := by simp [IntKind.wrap, IntKind.bits, IntKind.signed]; omega
                have ht8 : (famK 1).take (i + 1) = (famK 1).take i ++ [c] := ht7
                rw [List.append_assoc, ← ht8] at hput
                clear ht7 hf1 hf2 hnew hc ht8
                replace hput := Lib.hid hput
                go_wp2
                refine' wp_region_growL 10 [fixd _, fixd _, fixd _, fixd _, fixd _, fixd _, fixd (.agg ([.int .i64 128, .int .i64 16, .func (.func 50) #[] #[]] : List Value).toArray), fixd _, fixd _, fixd _] (by kernel_rfl) (by kernel_rfl) ?_
                rotate_left 9
                simp only [List.take_succ_cons, List.take_zero, List.drop_succ_cons, List.drop_zero]
                try simp only [Act.put, List.setIfInBounds_toArray, List.set_cons_succ, List.set_cons_zero, List.nil_append, List.cons_append]
                refine' wpGrowV_fix _ rfl rfl (fun W hb _ => by go_simp; first | exact xrefl W | exact ⟨rfl, xrefl W⟩) ?_
                try simp only [Act.put, List.setIfInBounds_toArray, List.set_cons_succ, List.set_cons_zero, List.nil_append, List.cons_append]
                refine' wpGrowV_fix _ rfl rfl (fun W hb _ => by go_simp; first | exact xrefl W | exact ⟨rfl, xrefl W⟩) ?_
                try simp only [Act.put, List.setIfInBounds_toArray, List.set_cons_succ, List.set_cons_zero, List.nil_append, List.cons_append]
                refine' wpGrowV_fix _ rfl rfl (fun W hb _ => by have c := cbel hb hq0; go_simp; first | exact xrefl W | exact ⟨rfl, xrefl W⟩) ?_
                try simp only [Act.put, List.setIfInBounds_toArray, List.set_cons_succ, List.set_cons_zero, List.nil_append, List.cons_append]
                refine' wpGrowV_fix _ rfl rfl (fun W hb _ => by go_simp; first | exact xrefl W | exact ⟨rfl, xrefl W⟩) ?_
                try simp only [Act.put, List.setIfInBounds_toArray, List.set_cons_succ, List.set_cons_zero, List.nil_append, List.cons_append]
                refine' wpGrowV_fix _ rfl rfl (fun W hb _ => by go_simp; first | exact xrefl W | exact ⟨rfl, xrefl W⟩) ?_
                try simp only [Act.put, List.setIfInBounds_toArray, List.set_cons_succ, List.set_cons_zero, List.nil_append, List.cons_append]
                refine' wpGrowV_fix _ rfl rfl (fun W hb _ => by go_simp; first | exact xrefl W | exact ⟨rfl, xrefl W⟩) ?_
                try simp only [Act.put, List.setIfInBounds_toArray, List.set_cons_succ, List.set_cons_zero, List.nil_append, List.cons_append]
                refine wpGrowV_load_blkG rfl 62 _ rfl W2.heap.size rfl 62 [.int .i64 128, .int .i64 16, .func (.func 50) #[] #[]] _ hX6.out hu2 rfl (by kernel_rfl) rfl ?_
                try simp only [Act.put, List.setIfInBounds_toArray, List.set_cons_succ, List.set_cons_zero, List.nil_append, List.cons_append]
                refine' wpGrowV_fix _ rfl rfl (fun W hb _ => by go_simp; first | exact xrefl W | exact ⟨rfl, xrefl W⟩) ?_
                try simp only [Act.put, List.setIfInBounds_toArray, List.set_cons_succ, List.set_cons_zero, List.nil_append, List.cons_append]
                refine' wpGrowV_fix _ rfl rfl (fun W hb _ => by go_simp; first | exact xrefl W | exact ⟨rfl, xrefl W⟩) ?_
                try simp only [Act.put, List.setIfInBounds_toArray, List.set_cons_succ, List.set_cons_zero, List.nil_append, List.cons_append]
                refine' wpGrowV_fix _ rfl rfl (fun W hb hF => ?_) ?_
                · clear hF
                  go_simp
                  go_at_call 25
                  refine (hinf W).mono ?_
                  rintro e w' ⟨rfl, hb'⟩
                  refine ⟨?_, hb'⟩
                  exact rfl
                try simp only [Act.put, List.setIfInBounds_toArray, List.set_cons_succ, List.set_cons_zero, List.nil_append, List.cons_append]
                intro W7 hb7 hm7
                have ht7 := Lib.hid ((hb7.block w.heap.size (Array.getElem?_eq_some_iff.1 ht6.out).1).trans ht6.out)
                have hX7 := Lib.hid (hX6.out.below hb7)
                have hmm7 := Lib.hid ((hb7.block bm (Array.getElem?_eq_some_iff.1 hm6.out).1).trans hm6.out)
                have hii7 := Lib.hid ((hb7.block it (Array.getElem?_eq_some_iff.1 hi6.out).1).trans hi6.out)
                have hbb7 := Lib.hid (xtrans hb6.out hb7)
                have hX7l := hX7.out.lt
                clear hb7 hm7 ht6 hX6 hm6 hi6 hb6 hinf hq0
                go_wp2_with (refine wpList_putU rfl 66 5 25 .u8 _ _ _ rfl Tryz.underlying66 Tryz.underlying5 w.heap.size c (infoV (infoN c)) _ rfl rfl rfl ht7.out ?_; intro W8 ht8 ho8; rw [hput.out] at ht8; have hX8 := Lib.hid (hX7.out.only ho8 (by omega)); have hm8 := Lib.hid ((ho8.same bm (Array.getElem?_eq_some_iff.1 hmm7.out).1 (by omega)).trans hmm7.out); have hi8 := Lib.hid ((ho8.same it (Array.getElem?_eq_some_iff.1 hii7.out).1 (by omega)).trans hii7.out); have hb8 := Lib.hid (ho8.below hbb7.out hbb7.out.size (by rintro k rfl; exact Nat.le_refl _)); replace ht8 := Lib.hid ht8; clear ho8)
                go_roundw
                case rel => exact ⟨i + 1, by go_num, by omega, ht8, hX8, hm8, hi8, hb8⟩
                case measure => simp [intOf] <;> omega
              · obtain rfl : i = 16 := by omega
                have hfin : seenK seen ++ (famK 1).take 16 = seenK (seen ++ [1]) := by rw [seenK_snoc, List.take_of_length_le (by simp [famK])]
                rw [hfin] at ht6
                clear hfin
                go_wp2
                go_roundw
                case rel => exact ⟨seen ++ [1], hsn, hi6, hm6, ht6, hb6⟩
                case measure =>
                  have hl := seen_lt hs.out.1 hs.out.2 hj hns.out
                  rw [seenAt_eq hi6.out, seenAt_eq hi0.out, List.length_append]
                  simp at hl ⊢
                  omega
          · simp only [famL, List.getElem_cons_zero, List.getElem_cons_succ] at hrun' hen
            have hfr := Lib.hid (hfresh.out : ∀ c ∈ famK 2, c ∉ seenK seen)
            go_wp2_with (refine wpList_store_blkG rfl 62 _ _ rfl W2.heap.size rfl 62 [.int .i64 0, .int .i64 0, .nilFunc] [.int .i64 144, .int .i64 16, .func (.func 51) #[] #[]] (BlkG.new W2 _ _) rfl rfl (by kernel_rfl) rfl ?_; intro W5 hX5 ho5; have hb5 := ho5.below (xalloc (xrefl W2) _) (by rw [World.size_alloc]; omega) (by rintro k rfl; exact Nat.le_refl _); have hq1 := hX5.cell 1 (by show 1 < 3; omega); simp only [List.getElem_cons_zero, List.getElem_cons_succ] at hq1; replace hX5 := Lib.hid hX5; have hm5 := Lib.hid ((hb5.block bm hbmW).trans hm2'.out); have hi5 := Lib.hid ((hb5.block it hitW).trans hi2'.out); have ht5 := Lib.hid ((hb5.block w.heap.size hmbW).trans ht2.out); replace hb5 := Lib.hid (xtrans hb2.out hb5); clear ho5)
            go_loopw [27] (fun vi wx => ∃ i : Nat, vi = .int .i64 i ∧ i ≤ 16 ∧ Hid (wx.heap[w.heap.size]? = some (mapI .u8 (tabL (seenK seen ++ (famK 2).take i)))) ∧ Hid (BlkG wx W2.heap.size 62 [.int .i64 144, .int .i64 16, .func (.func 51) #[] #[]]) ∧ Hid (wx.heap[bm]? = some (mapG famL)) ∧ Hid (wx.heap[it]? = some (itO bm famL.length (seen ++ [2]))) ∧ Hid (Below w.heap.size w wx)) (fun vi _ => 16 - (intOf vi).toNat)
            case atStart => exact ⟨0, rfl, by omega, by simpa using ht5, hX5, hm5, hi5, hb5⟩
            case round =>
              clear ht5 hX5 hm5 hi5 hb5 hq1
              obtain ⟨i, rfl, hi, ht6, hX6, hm6, hi6, hb6⟩ := hrel
              by_cases hlt : i < 16
              · have hltI : (i : Int) < 16 := by omega
                have hq0 := hX6.out.cell 0 (by show 0 < 3; omega)
                simp only [List.getElem_cons_zero] at hq0
                have hinf := fun W => faminfo3_any i W hlt
                obtain ⟨ht7, hf1, hf2⟩ := range_take 144 16 i hlt
                have hnew : 144 + i ∉ seenK seen ++ (famK 2).take i := fun h => (List.mem_append.1 h).elim (fun h => hfr.out _ hf2 h) hf1
                have hput := tabL_put hnew
                obtain ⟨c, hc⟩ : ∃ c : Nat, c = 144 + i := ⟨_, rfl⟩
                rw [← hc] at hinf hput ht7
                have hw1 : IntKind.i64.wrap (144 + (i : Int)) = (c : Int) := by simp [IntKind.wrap, IntKind.bits, IntKind.signed]; omega
                have hw2 : IntKind.u8.wrap (c : Int) = (c : Int) := by simp [IntKind.wrap, IntKind.bits, IntKind.signed]; omega
                have ht8 : (famK 2).take (i + 1) = (famK 2).take i ++ [c] := ht7
                rw [List.append_assoc, ← ht8] at hput
                clear ht7 hf1 hf2 hnew hc ht8
                replace hput := Lib.hid hput
                go_wp2
                refine' wp_region_growL 10 [fixd _, fixd _, fixd _, fixd _, fixd _, fixd _, fixd (.agg ([.int .i64 144, .int .i64 16, .func (.func 51) #[] #[]] : List Value).toArray), fixd _, fixd _, fixd _] (by kernel_rfl) (by kernel_rfl) ?_
                rotate_left 9
                simp only [List.take_succ_cons, List.take_zero, List.drop_succ_cons, List.drop_zero]
                try simp only [Act.put, List.setIfInBounds_toArray, List.set_cons_succ, List.set_cons_zero, List.nil_append, List.cons_append]
                refine' wpGrowV_fix _ rfl rfl (fun W hb _ => by go_simp; first | exact xrefl W | exact ⟨rfl, xrefl W⟩) ?_
                try simp only [Act.put, List.setIfInBounds_toArray, List.set_cons_succ, List.set_cons_zero, List.nil_append, List.cons_append]
                refine' wpGrowV_fix _ rfl rfl (fun W hb _ => by go_simp; first | exact xrefl W | exact ⟨rfl, xrefl W⟩) ?_
                try simp only [Act.put, List.setIfInBounds_toArray, List.set_cons_succ, List.set_cons_zero, List.nil_append, List.cons_append]
                refine' wpGrowV_fix _ rfl rfl (fun W hb _ => by have c := cbel hb hq0; go_simp; first | exact xrefl W | exact ⟨rfl, xrefl W⟩) ?_
                try simp only [Act.put, List.setIfInBounds_toArray, List.set_cons_succ, List.set_cons_zero, List.nil_append, List.cons_append]
                refine' wpGrowV_fix _ rfl rfl (fun W hb _ => by go_simp; first | exact xrefl W | exact ⟨rfl, xrefl W⟩) ?_
                try simp only [Act.put, List.setIfInBounds_toArray, List.set_cons_succ, List.set_cons_zero, List.nil_append, List.cons_append]
                refine' wpGrowV_fix _ rfl rfl (fun W hb _ => by go_simp; first | exact xrefl W | exact ⟨rfl, xrefl W⟩) ?_
                try simp only [Act.put, List.setIfInBounds_toArray, List.set_cons_succ, List.set_cons_zero, List.nil_append, List.cons_append]
                refine' wpGrowV_fix _ rfl rfl (fun W hb _ => by go_simp; first | exact xrefl W | exact ⟨rfl, xrefl W⟩) ?_
                try simp only [Act.put, List.setIfInBounds_toArray, List.set_cons_succ, List.set_cons_zero, List.nil_append, List.cons_append]
                refine wpGrowV_load_blkG rfl 62 _ rfl W2.heap.size rfl 62 [.int .i64 144, .int .i64 16, .func (.func 51) #[] #[]] _ hX6.out hu2 rfl (by kernel_rfl) rfl ?_
                try simp only [Act.put, List.setIfInBounds_toArray, List.set_cons_succ, List.set_cons_zero, List.nil_append, List.cons_append]
                refine' wpGrowV_fix _ rfl rfl (fun W hb _ => by go_simp; first | exact xrefl W | exact ⟨rfl, xrefl W⟩) ?_
                try simp only [Act.put, List.setIfInBounds_toArray, List.set_cons_succ, List.set_cons_zero, List.nil_append, List.cons_append]
                refine' wpGrowV_fix _ rfl rfl (fun W hb _ => by go_simp; first | exact xrefl W | exact ⟨rfl, xrefl W⟩) ?_
                try simp only [Act.put, List.setIfInBounds_toArray, List.set_cons_succ, List.set_cons_zero, List.nil_append, List.cons_append]
                refine' wpGrowV_fix _ rfl rfl (fun W hb hF => ?_) ?_
                · clear hF
                  go_simp
                  go_at_call 25
                  refine (hinf W).mono ?_
                  rintro e w' ⟨rfl, hb'⟩
                  refine ⟨?_, hb'⟩
                  exact rfl
                try simp only [Act.put, List.setIfInBounds_toArray, List.set_cons_succ, List.set_cons_zero, List.nil_append, List.cons_append]
                intro W7 hb7 hm7
                have ht7 := Lib.hid ((hb7.block w.heap.size (Array.getElem?_eq_some_iff.1 ht6.out).1).trans ht6.out)
                have hX7 := Lib.hid (hX6.out.below hb7)
                have hmm7 := Lib.hid ((hb7.block bm (Array.getElem?_eq_some_iff.1 hm6.out).1).trans hm6.out)
                have hii7 := Lib.hid ((hb7.block it (Array.getElem?_eq_some_iff.1 hi6.out).1).trans hi6.out)
                have hbb7 := Lib.hid (xtrans hb6.out hb7)
                have hX7l := hX7.out.lt
                clear hb7 hm7 ht6 hX6 hm6 hi6 hb6 hinf hq0
                go_wp2_with (refine wpList_putU rfl 66 5 25 .u8 _ _ _ rfl Tryz.underlying66 Tryz.underlying5 w.heap.size c (infoV (infoN c)) _ rfl rfl rfl ht7.out ?_; intro W8 ht8 ho8; rw [hput.out] at ht8; have hX8 := Lib.hid (hX7.out.only ho8 (by omega)); have hm8 := Lib.hid ((ho8.same bm (Array.getElem?_eq_some_iff.1 hmm7.out).1 (by omega)).trans hmm7.out); have hi8 := Lib.hid ((ho8.same it (Array.getElem?_eq_some_iff.1 hii7.out).1 (by omega)).trans hii7.out); have hb8 := Lib.hid (ho8.below hbb7.out hbb7.out.size (by rintro k rfl; exact Nat.le_refl _)); replace ht8 := Lib.hid ht8; clear ho8)
                go_roundw
                case rel => exact ⟨i + 1, by go_num, by omega, ht8, hX8, hm8, hi8, hb8⟩
                case measure => simp [intOf] <;> omega
              · obtain rfl : i = 16 := by omega
                have hfin : seenK seen ++ (famK 2).take 16 = seenK (seen ++ [2]) := by rw [seenK_snoc, List.take_of_length_le (by simp [famK])]
                rw [hfin] at ht6
                clear hfin
                go_wp2
                go_roundw
                case rel => exact ⟨seen ++ [2], hsn, hi6, hm6, ht6, hb6⟩
                case measure =>
                  have hl := seen_lt hs.out.1 hs.out.2 hj hns.out
                  rw [seenAt_eq hi6.out, seenAt_eq hi0.out, List.length_append]
                  simp at hl ⊢
                  omega
          · simp only [famL, List.getElem_cons_zero, List.getElem_cons_succ] at hrun' hen
            have hfr := Lib.hid (hfresh.out : ∀ c ∈ famK 3, c ∉ seenK seen)
            go_wp2_with (refine wpList_store_blkG rfl 62 _ _ rfl W2.heap.size rfl 62 [.int .i64 0, .int .i64 0, .nilFunc] [.int .i64 160, .int .i64 5, .func (.func 52) #[] #[]] (BlkG.new W2 _ _) rfl rfl (by kernel_rfl) rfl ?_; intro W5 hX5 ho5; have hb5 := ho5.below (xalloc (xrefl W2) _) (by rw [World.size_alloc]; omega) (by rintro k rfl; exact Nat.le_refl _); have hq1 := hX5.cell 1 (by show 1 < 3; omega); simp only [List.getElem_cons_zero, List.getElem_cons_succ] at hq1; replace hX5 := Lib.hid hX5; have hm5 := Lib.hid ((hb5.block bm hbmW).trans hm2'.out); have hi5 := Lib.hid ((hb5.block it hitW).trans hi2'.out); have ht5 := Lib.hid ((hb5.block w.heap.size hmbW).trans ht2.out); replace hb5 := Lib.hid (xtrans hb2.out hb5); clear ho5)
            go_loopw [27] (fun vi wx => ∃ i : Nat, vi = .int .i64 i ∧ i ≤ 5 ∧ Hid (wx.heap[w.heap.size]? = some (mapI .u8 (tabL (seenK seen ++ (famK 3).take i)))) ∧ Hid (BlkG wx W2.heap.size 62 [.int .i64 160, .int .i64 5, .func (.func 52) #[] #[]]) ∧ Hid (wx.heap[bm]? = some (mapG famL)) ∧ Hid (wx.heap[it]? = some (itO bm famL.length (seen ++ [3]))) ∧ Hid (Below w.heap.size w wx)) (fun vi _ => 5 - (intOf vi).toNat)
            case atStart => exact ⟨0, rfl, by omega, by simpa using ht5, hX5, hm5, hi5, hb5⟩
            case round =>
              clear ht5 hX5 hm5 hi5 hb5 hq1
              obtain ⟨i, rfl, hi, ht6, hX6, hm6, hi6, hb6⟩ := hrel
              by_cases hlt : i < 5
              · have hltI : (i : Int) < 5 := by omega
                have hq0 := hX6.out.cell 0 (by show 0 < 3; omega)
                simp only [List.getElem_cons_zero] at hq0
                have hinf := fun W => faminfo4_any i W hlt
                obtain ⟨ht7, hf1, hf2⟩ := range_take 160 5 i hlt
                have hnew : 160 + i ∉ seenK seen ++ (famK 3).take i := fun h => (List.mem_append.1 h).elim (fun h => hfr.out _ hf2 h) hf1
                have hput := tabL_put hnew
                obtain ⟨c, hc⟩ : ∃ c : Nat, c = 160 + i := ⟨_, rfl⟩
                rw [← hc] at hinf hput ht7
                have hw1 : IntKind.i64.wrap (160 + (i : Int)) = (c : Int) := by simp [IntKind.wrap, IntKind.bits, IntKind.signed]; omega
                have hw2 : IntKind.u8.wrap (c : Int) = (c : Int) := by simp [IntKind.wrap, IntKind.bits, IntKind.signed]; omega
                have ht8 : (famK 3).take (i + 1) = (famK 3).take i ++ [c] := ht7
                rw [List.append_assoc, ← ht8] at hput
                clear ht7 hf1 hf2 hnew hc ht8
                replace hput := Lib.hid hput
                go_wp2
                refine' wp_region_growL 10 [fixd _, fixd _, fixd _, fixd _, fixd _, fixd _, fixd (.agg ([.int .i64 160, .int .i64 5, .func (.func 52) #[] #[]] : List Value).toArray), fixd _, fixd _, fixd _] (by kernel_rfl) (by kernel_rfl) ?_
                rotate_left 9
                simp only [List.take_succ_cons, List.take_zero, List.drop_succ_cons, List.drop_zero]
                try simp only [Act.put, List.setIfInBounds_toArray, List.set_cons_succ, List.set_cons_zero, List.nil_append, List.cons_append]
                refine' wpGrowV_fix _ rfl rfl (fun W hb _ => by go_simp; first | exact xrefl W | exact ⟨rfl, xrefl W⟩) ?_
                try simp only [Act.put, List.setIfInBounds_toArray, List.set_cons_succ, List.set_cons_zero, List.nil_append, List.cons_append]
                refine' wpGrowV_fix _ rfl rfl (fun W hb _ => by go_simp; first | exact xrefl W | exact ⟨rfl, xrefl W⟩) ?_
                try simp only [Act.put, List.setIfInBounds_toArray, List.set_cons_succ, List.set_cons_zero, List.nil_append, List.cons_append]
                refine' wpGrowV_fix _ rfl rfl (fun W hb _ => by have c := cbel hb hq0; go_simp; first | exact xrefl W | exact ⟨rfl, xrefl W⟩) ?_
                try simp only [Act.put, List.setIfInBounds_toArray, List.set_cons_succ, List.set_cons_zero, List.nil_append, List.cons_append]
                refine' wpGrowV_fix _ rfl rfl (fun W hb _ => by go_simp; first | exact xrefl W | exact ⟨rfl, xrefl W⟩) ?_
                try simp only [Act.put, List.setIfInBounds_toArray, List.set_cons_succ, List.set_cons_zero, List.nil_append, List.cons_append]
                refine' wpGrowV_fix _ rfl rfl (fun W hb _ => by go_simp; first | exact xrefl W | exact ⟨rfl, xrefl W⟩) ?_
                try simp only [Act.put, List.setIfInBounds_toArray, List.set_cons_succ, List.set_cons_zero, List.nil_append, List.cons_append]
                refine' wpGrowV_fix _ rfl rfl (fun W hb _ => by go_simp; first | exact xrefl W | exact ⟨rfl, xrefl W⟩) ?_
                try simp only [Act.put, List.setIfInBounds_toArray, List.set_cons_succ, List.set_cons_zero, List.nil_append, List.cons_append]
                refine wpGrowV_load_blkG rfl 62 _ rfl W2.heap.size rfl 62 [.int .i64 160, .int .i64 5, .func (.func 52) #[] #[]] _ hX6.out hu2 rfl (by kernel_rfl) rfl ?_
                try simp only [Act.put, List.setIfInBounds_toArray, List.set_cons_succ, List.set_cons_zero, List.nil_append, List.cons_append]
                refine' wpGrowV_fix _ rfl rfl (fun W hb _ => by go_simp; first | exact xrefl W | exact ⟨rfl, xrefl W⟩) ?_
                try simp only [Act.put, List.setIfInBounds_toArray, List.set_cons_succ, List.set_cons_zero, List.nil_append, List.cons_append]
                refine' wpGrowV_fix _ rfl rfl (fun W hb _ => by go_simp; first | exact xrefl W | exact ⟨rfl, xrefl W⟩) ?_
                try simp only [Act.put, List.setIfInBounds_toArray, List.set_cons_succ, List.set_cons_zero, List.nil_append, List.cons_append]
                refine' wpGrowV_fix _ rfl rfl (fun W hb hF => ?_) ?_
                · clear hF
                  go_simp
                  go_at_call 25
                  refine (hinf W).mono ?_
                  rintro e w' ⟨rfl, hb'⟩
                  refine ⟨?_, hb'⟩
                  exact rfl
                try simp only [Act.put, List.setIfInBounds_toArray, List.set_cons_succ, List.set_cons_zero, List.nil_append, List.cons_append]
                intro W7 hb7 hm7
                have ht7 := Lib.hid ((hb7.block w.heap.size (Array.getElem?_eq_some_iff.1 ht6.out).1).trans ht6.out)
                have hX7 := Lib.hid (hX6.out.below hb7)
                have hmm7 := Lib.hid ((hb7.block bm (Array.getElem?_eq_some_iff.1 hm6.out).1).trans hm6.out)
                have hii7 := Lib.hid ((hb7.block it (Array.getElem?_eq_some_iff.1 hi6.out).1).trans hi6.out)
                have hbb7 := Lib.hid (xtrans hb6.out hb7)
                have hX7l := hX7.out.lt
                clear hb7 hm7 ht6 hX6 hm6 hi6 hb6 hinf hq0
                go_wp2_with (refine wpList_putU rfl 66 5 25 .u8 _ _ _ rfl Tryz.underlying66 Tryz.underlying5 w.heap.size c (infoV (infoN c)) _ rfl rfl rfl ht7.out ?_; intro W8 ht8 ho8; rw [hput.out] at ht8; have hX8 := Lib.hid (hX7.out.only ho8 (by omega)); have hm8 := Lib.hid ((ho8.same bm (Array.getElem?_eq_some_iff.1 hmm7.out).1 (by omega)).trans hmm7.out); have hi8 := Lib.hid ((ho8.same it (Array.getElem?_eq_some_iff.1 hii7.out).1 (by omega)).trans hii7.out); have hb8 := Lib.hid (ho8.below hbb7.out hbb7.out.size (by rintro k rfl; exact Nat.le_refl _)); replace ht8 := Lib.hid ht8; clear ho8)
                go_roundw
                case rel => exact ⟨i + 1, by go_num, by omega, ht8, hX8, hm8, hi8, hb8⟩
                case measure => simp [intOf] <;> omega
              · obtain rfl : i = 5 := by omega
                have hfin : seenK seen ++ (famK 3).take 5 = seenK (seen ++ [3]) := by rw [seenK_snoc, List.take_of_length_le (by simp [famK])]
                rw [hfin] at ht6
                clear hfin
                go_wp2
                go_roundw
                case rel => exact ⟨seen ++ [3], hsn, hi6, hm6, ht6, hb6⟩
                case measure =>
                  have hl := seen_lt hs.out.1 hs.out.2 hj hns.out
                  rw [seenAt_eq hi6.out, seenAt_eq hi0.out, List.length_append]
                  simp at hl ⊢
                  omega
end Go.Proofs.YtbicfaiabpcgfaaGreatDoor
