/- Texts of this claim, merged; no condition. -/
import Derived.Test.YthpallkphamobaaGreatDoorH23
set_option linter.all false
namespace Go.Proofs.YthpallkphamobaaGreatDoor
open Go.RowKit Go.Shelf

set_option maxRecDepth 100000 in
set_option maxHeartbeats 8000000 in
theorem many_go (m0 m1 : Int) (w : World) (hT : TabP w) : Calls Tryz.prog 6 #[.agg #[.int .i64 m0, .int .i64 m1]] w (Yes w) := by
  have hTt : Hid (∀ W, Below w.heap.size w W → TabP W) := Lib.hid fun W h => hT.below h
  have hwk := Lib.hid fun W h => worksP_any W (hTt.out W h)
  clear hT
  have hb1 : Below w.heap.size w (w.alloc (.cells #[.int .i64 m0, .int .i64 m1] 62)) := xalloc (xrefl w) _
  have hM1 : BlkG (w.alloc (.cells #[.int .i64 m0, .int .i64 m1] 62)) w.heap.size 62 [.int .i64 m0, .int .i64 m1] := BlkG.new w _ _
  have hz1 : (w.alloc (.cells #[.int .i64 m0, .int .i64 m1] 62)).heap.size = w.heap.size + 1 := by simp
  have c0 := hM1.cell 0 (by simp)
  have c1 := hM1.cell 1 (by simp)
  simp only [List.getElem_cons_succ, List.getElem_cons_zero] at c0 c1
  by_cases hin : (m0 < -1 ∨ m0 > 1) ∨ (m1 < -1 ∨ m1 > 1)
  · replace hb1 := Lib.hid hb1
    replace hM1 := Lib.hid hM1
    clear hz1
    by_cases hA : m0 < -1
    · clear hin
      go_enter Tryz.func6, Tryz.ntmps6
      go_wp2_with (go_at_call 10; refine (hwk.out _ hb1.out).mono ?_; rintro e w7 ⟨rfl, hb7⟩; replace hb7 := Lib.hid (xtrans hb1.out hb7))
      go_ret
      exact ⟨rfl, hb7.out⟩
    · by_cases hB : m0 > 1
      · clear hin
        go_enter Tryz.func6, Tryz.ntmps6
        go_wp2_with (go_at_call 10; refine (hwk.out _ hb1.out).mono ?_; rintro e w7 ⟨rfl, hb7⟩; replace hb7 := Lib.hid (xtrans hb1.out hb7))
        go_ret
        exact ⟨rfl, hb7.out⟩
      · by_cases hC : m1 < -1
        · clear hin
          go_enter Tryz.func6, Tryz.ntmps6
          go_wp2_with (go_at_call 10; refine (hwk.out _ hb1.out).mono ?_; rintro e w7 ⟨rfl, hb7⟩; replace hb7 := Lib.hid (xtrans hb1.out hb7))
          go_ret
          exact ⟨rfl, hb7.out⟩
        · by_cases hD : m1 > 1
          · clear hin
            go_enter Tryz.func6, Tryz.ntmps6
            go_wp2_with (go_at_call 10; refine (hwk.out _ hb1.out).mono ?_; rintro e w7 ⟨rfl, hb7⟩; replace hb7 := Lib.hid (xtrans hb1.out hb7))
            go_ret
            exact ⟨rfl, hb7.out⟩
          · exact absurd hin (by omega)
  · have hA : ¬ m0 < -1 := by omega
    have hB : ¬ m0 > 1 := by omega
    have hC : ¬ m1 < -1 := by omega
    have hD : ¬ m1 > 1 := by omega
    obtain ⟨i0, hi0⟩ : ∃ i0 : Nat, 64 + m0 = i0 := ⟨(64 + m0).toNat, by omega⟩
    obtain ⟨j0, hj0⟩ : ∃ j0 : Nat, 64 + m1 = j0 := ⟨(64 + m1).toNat, by omega⟩
    have hwi0 : IntKind.i64.wrap (64 + m0) = (i0 : Int) := by simp [IntKind.wrap, IntKind.bits, IntKind.signed]; omega
    have hwj0 : IntKind.i64.wrap (64 + m1) = (j0 : Int) := by simp [IntKind.wrap, IntKind.bits, IntKind.signed]; omega
    have hi : 63 ≤ i0 ∧ i0 ≤ 65 := by omega
    have hj : 63 ≤ j0 ∧ j0 ≤ 65 := by omega
    have hi0' := Lib.hid hi0
    have hj0' := Lib.hid hj0
    have hC0 : Hid (∀ W, Below (w.heap.size + 1) (w.alloc (.cells #[.int .i64 m0, .int .i64 m1] 62)) W → W.cell? ⟨w.heap.size, 0, none⟩ = some (.int .i64 m0) ∧ W.cell? ⟨w.heap.size, 1, none⟩ = some (.int .i64 m1)) := Lib.hid fun W hb => by
      have h2 : BlkG W w.heap.size 62 [.int .i64 m0, .int .i64 m1] := (hb.block _ (by omega)).trans hM1
      exact ⟨h2.cell 0 (by simp), h2.cell 1 (by simp)⟩
    clear hi0 hj0 hin
    have hof := Lib.hid fun (k : Nat) W => ofc_any k W
    replace hM1 := Lib.hid hM1
    go_enter Tryz.func6, Tryz.ntmps6
    go_upto_region 4 with fail
    obtain ⟨w1, hw1⟩ : ∃ w1, w.alloc (.cells #[.int .i64 m0, .int .i64 m1] 62) = w1 := ⟨_, rfl⟩
    rw [hw1] at hC0 hz1 hb1 c0 c1 hM1 ⊢
    have hS0 : MaS (w.heap.size + 1) w1 0 0 none none 0 0 (w1.alloc (.cells #[.int .u64 0, .slice none 0 0, .slice none 0 0] 27)) := by
      have := BlkG.new w1 27 [.int .u64 0, .slice none 0 0, .slice none 0 0]
      have h2 := xalloc (xrefl w1) (.cells #[.int .u64 0, .slice none 0 0, .slice none 0 0] 27)
      rw [hz1] at this h2
      exact ⟨this, World.ownsRow_nil _ _ _ _, World.ownsRow_nil _ _ _ _, h2⟩
    generalize w1.alloc (.cells #[.int .u64 0, .slice none 0 0, .slice none 0 0] 27) = w2 at *
    replace hS0 := Lib.hid hS0
    replace hw1 := Lib.hid hw1
    replace hb1 := Lib.hid hb1
    clear c0 c1 hM1
    go_wp2_with fail
    go_loopw [4] (fun iv wr => ∃ (i : Nat) (a : Option Addr) (c : Nat), iv = .int .i64 i ∧ i ≤ i0 ∧ Hid (MaS (w.heap.size + 1) w1 i 0 a none c 0 wr)) (fun iv _ => i0 - (intOf iv).toNat)
    case atStart => exact ⟨0, none, 0, rfl, by omega, hS0⟩
    case round =>
      obtain ⟨i, a, c, rfl, hii, hS⟩ := hrel
      obtain ⟨c0, c1⟩ := hC0.out wr hS.out.hb
      have hgs := hS.out.pb.lt
      by_cases hlt : i < i0
      · have hltI : (i : Int) < i0 := by omega
        have hwi : IntKind.i64.wrap ((i : Int) + 1) = (i : Int) + 1 := by simp [IntKind.wrap, IntKind.bits, IntKind.signed]; omega
        have hwu : IntKind.u8.wrap (i : Int) = (i : Int) := by simp [IntKind.wrap, IntKind.bits, IntKind.signed]; omega
        obtain ⟨xs, hxs⟩ : ∃ xs, xs = (pM i 0).clears.flatMap clearC := ⟨_, rfl⟩
        obtain ⟨ys, hys⟩ : ∃ ys, ys = clearC (ofL i, 0) := ⟨_, rfl⟩
        have hpb := Lib.hid hS.out.pb
        have hoc0 : Hid (∀ W, StyO (w.heap.size + 1) 65 21 (.slice a i c) i xs ys wr W → W.ownsRow (w.heap.size + 1) 65 21 (.slice a i c) i xs) := Lib.hid fun W hs => hs.2.1 (by rw [hxs]; exact hS.out.oc)
        have hcl : Hid (∀ W, BlkG W (w.heap.size + 1) 27 [.int .u64 0, .slice a i c, .slice none 0 0] → W.cell? ⟨w.heap.size + 1, 1, none⟩ = some (.slice a i c)) := Lib.hid fun W h => h.cell 1 (by simp)
        have hbuilt := Lib.hid (built_clearM i)
        have hbsl := Lib.hid (bsl_clear (ofL i) 0 rfl)
        rw [← hys] at hbuilt hbsl
        have hyl : ys.length = 21 := by rw [hys]; exact clearC_len (ofL_adr (n := i) (by omega))
        have hone : ∀ u ∈ ys, u.oneCell' = true := by rw [hys]; exact List.all_eq_true.1 (clearC_one (ofL i, 0))
        have hnx := Lib.hid fun (W6 : World) (a5 : Option Addr) (c5 : Nat) hs hB ho => hS.out.nextC (a5 := a5) (c5 := c5) (W6 := W6) (Nat.le_of_lt hgs) hxs hys hs hB ho
        replace hxs := Lib.hid hxs
        replace hys := Lib.hid hys
        replace hone := Lib.hid hone
        obtain ⟨ic, hic, hzc, hsc, hbc⟩ := info_parts infoC
        generalize hzv : Value.agg (clearC (zAdr, 0)).toArray = zc at *
        have hzs : zc.cells.size = 21 := by rw [← hzv]; rfl
        replace hone := hone.out
        clear hS
        go_upto_region 7 with fail
        refine' wp_region_growSR (goesO (w.heap.size + 1) 65 21 (.slice a i c) i xs ys (fun _ W => Hid (BlkG W (w.heap.size + 1) 27 [.int .u64 0, .slice a i c, .slice none 0 0])) (fun _ _ => False) 1000000 (fun _ _ _ h hb => Lib.hid (h.out.below hb))) 9 [fixdS (.pointer (some ⟨w.heap.size + 1, 1, none⟩)), fixdS (.slice a i c), fixdS (.int .i64 i), fixdS (.int .u8 i), fixdS (.agg (adrC (ofL i)).toArray), fixdS (.agg ys.toArray), newT (w.heap.size + 1) 65 21 (.slice a i c) i xs ys, ownO (w.heap.size + 1) 65 21 (.slice a i c) i xs ys, fixdS (.pointer (some ⟨w.heap.size + 1, 1, none⟩))] (by kernel_rfl) (by kernel_rfl) (Lib.hid hpb.out) (fun x ch W hd h => h.elim) ?_
        simp only [List.take_succ_cons, List.take_zero, List.drop_succ_cons, List.drop_zero]
        try simp only [Act.put, List.setIfInBounds_toArray, List.set_cons_succ, List.set_cons_zero, List.nil_append, List.cons_append]
        apply wpGrowS_fix (.pointer (some ⟨w.heap.size + 1, 1, none⟩)) rfl rfl rfl
        · intro bq W hS hb hF
          go_simp
          first | exact xrefl W | exact ⟨rfl, xrefl W⟩
        try simp only [Act.put, List.setIfInBounds_toArray, List.set_cons_succ, List.set_cons_zero, List.nil_append, List.cons_append]
        apply wpGrowS_fix (.slice a i c) rfl rfl rfl
        · intro bq W hS hb hF
          have c := hcl.out W hS.out
          go_simp
          first | exact xrefl W | exact ⟨rfl, xrefl W⟩
        try simp only [Act.put, List.setIfInBounds_toArray, List.set_cons_succ, List.set_cons_zero, List.nil_append, List.cons_append]
        apply wpGrowS_fix (.int .i64 i) rfl rfl rfl
        · intro bq W hS hb hF
          go_simp
          first | exact xrefl W | exact ⟨rfl, xrefl W⟩
        try simp only [Act.put, List.setIfInBounds_toArray, List.set_cons_succ, List.set_cons_zero, List.nil_append, List.cons_append]
        apply wpGrowS_fix (.int .u8 i) rfl rfl rfl
        · intro bq W hS hb hF
          go_simp
          first | exact xrefl W | exact ⟨rfl, xrefl W⟩
        try simp only [Act.put, List.setIfInBounds_toArray, List.set_cons_succ, List.set_cons_zero, List.nil_append, List.cons_append]
        apply wpGrowS_fix (.agg (adrC (ofL i)).toArray) rfl rfl rfl
        · intro bq W hS hb hF
          go_simp
          go_at_call 33
          refine (hof.out i W).mono ?_
          rintro e w' ⟨rfl, hb'⟩
          exact ⟨rfl, hb'⟩
        try simp only [Act.put, List.setIfInBounds_toArray, List.set_cons_succ, List.set_cons_zero, List.nil_append, List.cons_append]
        apply wpGrowS_fix (.agg ys.toArray) rfl rfl rfl
        · intro bq W hS hb hF
          rw [exec_build 65 _ rfl [(0, adrV (ofL i))] rfl _ hbuilt.out]
          exact ⟨rfl, xrefl W⟩
        try simp only [Act.put, List.setIfInBounds_toArray, List.set_cons_succ, List.set_cons_zero, List.nil_append, List.cons_append]
        refine wpGrowS_any (newT (w.heap.size + 1) 65 21 (.slice a i c) i xs ys) rfl rfl (fun bq W hk0 hS hb hF => ?_) (fun v hv => ?_)
        · rw [exec_bsl 24 _ rfl (.agg ys.toArray) rfl (hbsl.out W)]
          exact ⟨⟨⟨_, rfl⟩, newT_new hS.out.lt (hoc0.out W hb)⟩, StyO.below (xalloc (xrefl W) _), Lib.hid (hS.out.below (xalloc (xrefl W) _))⟩
        obtain ⟨q, rfl⟩ := hv
        try simp only [Act.put, List.setIfInBounds_toArray, List.set_cons_succ, List.set_cons_zero, List.nil_append, List.cons_append]
        refine wpGrowS_any (ownO (w.heap.size + 1) 65 21 (.slice a i c) i xs ys) rfl rfl (fun bq W hk0 hS hb hF => ?_) (fun v hv => ?_)
        · have hq := hF 6 (by kernel_rfl) (by simp)
          obtain ⟨q', eq, hB, hq1, hq2⟩ : NewAt (w.heap.size + 1) (.slice a i c) ys 65 (.slice (some ⟨q, 0, none⟩) 1 1) W := hq
          cases eq
          obtain ⟨v', w', hrun, ho, hg', hbk, hk1, hk2⟩ := run_append_own_keep (P := Tryz.prog) W (w.heap.size + 1) 24 24 65 ic zc 21 32 Tryz.underlying24 hic hzc hsc hbc hzs (by decide) (.slice a i c) i xs (hoc0.out W hb) ⟨q, 0, none⟩ 1 1 ys (by rw [hyl]) (fun j u hj => blk_add hB hj) hone (by unfold maxLen; omega) (by omega) (Nat.le_of_lt hS.out.lt)
          rw [exec_append 24 _ _ rfl _ _ rfl rfl hrun]
          exact ⟨⟨own_sliceV ho, ho⟩, StyO.app hg' hk1 hk2, Lib.hid (hS.out.only (only_grown hg') (own_neG (hoc0.out W hb) hS.out ct_neP))⟩
        obtain ⟨a5, c5, rfl⟩ := hv
        try simp only [Act.put, List.setIfInBounds_toArray, List.set_cons_succ, List.set_cons_zero, List.nil_append, List.cons_append]
        apply wpGrowS_fix (.pointer (some ⟨w.heap.size + 1, 1, none⟩)) rfl rfl rfl
        · intro bq W hS hb hF
          go_simp
          first | exact xrefl W | exact ⟨rfl, xrefl W⟩
        try simp only [Act.put, List.setIfInBounds_toArray, List.set_cons_succ, List.set_cons_zero, List.nil_append, List.cons_append]
        refine wpGrowS_nil fun W6 hb6 hS6 hmem => ?_
        have hown : W6.ownsRow (w.heap.size + 1) 65 21 (.slice a5 (i + 1) c5) (i + 1) (xs ++ ys) := hmem 7 (by decide)
        have hB6 : BlkG W6 (w.heap.size + 1) 27 [.int .u64 0, .slice a i c, .slice none 0 0] := hS6.out
        have c6 := hB6.cell 1 (by simp)
        simp only [List.getElem_cons_succ, List.getElem_cons_zero] at c6
        have f6 := hB6.free 1
        have hfin := Lib.hid (hnx.out W6 a5 c5 hb6 hB6 hown)
        clear hB6 hown hb6 hmem hS6 hnx hone
        go_wp2
        exact ⟨⟨i + 1, a5, c5, by first | rfl | simp, by omega, hfin⟩, by simp [intOf]; omega⟩
      · have e : i0 = i := by omega
        subst e
        have hlt2 : ¬ (i0 : Int) < i0 := by omega
        clear hlt hii
        go_upto_region 9 with fail
        clear c0 c1 hgs hlt2
        have hS1 := hS
        clear hS
        generalize wr = wa at *
        go_loopw [5] (fun iv wr => ∃ (i : Nat) (b : Option Addr) (d : Nat), iv = .int .i64 i ∧ i ≤ j0 ∧ Hid (MaS (w.heap.size + 1) w1 i0 i a b c d wr)) (fun iv _ => j0 - (intOf iv).toNat)
        case atStart => exact ⟨0, none, 0, rfl, by omega, hS1⟩
        case round =>
          clear hS1
          obtain ⟨i, b, d, rfl, hii, hS⟩ := hrel
          obtain ⟨c0, c1⟩ := hC0.out wr hS.out.hb
          have hgs := hS.out.pb.lt
          by_cases hlt : i < j0
          · have hltI : (i : Int) < j0 := by omega
            have hwi : IntKind.i64.wrap ((i : Int) + 1) = (i : Int) + 1 := by simp [IntKind.wrap, IntKind.bits, IntKind.signed]; omega
            have hwu : IntKind.u8.wrap (i : Int) = (i : Int) := by simp [IntKind.wrap, IntKind.bits, IntKind.signed]; omega
            obtain ⟨xs, hxs⟩ : ∃ xs, xs = (pM i0 i).rels.flatMap relC := ⟨_, rfl⟩
            obtain ⟨ys, hys⟩ : ∃ ys, ys = relC (ofL i, 0, 0) := ⟨_, rfl⟩
            have hpb := Lib.hid hS.out.pb
            have hoc0 : Hid (∀ W, StyO (w.heap.size + 1) 67 22 (.slice b i d) i xs ys wr W → W.ownsRow (w.heap.size + 1) 67 22 (.slice b i d) i xs) := Lib.hid fun W hs => hs.2.1 (by rw [hxs]; exact hS.out.ow)
            have hcl : Hid (∀ W, BlkG W (w.heap.size + 1) 27 [.int .u64 0, .slice a i0 c, .slice b i d] → W.cell? ⟨w.heap.size + 1, 2, none⟩ = some (.slice b i d)) := Lib.hid fun W h => h.cell 2 (by simp)
            have hbuilt := Lib.hid (built_relM i)
            have hbsl := Lib.hid (bsl_rel (ofL i) 0 0 rfl)
            rw [← hys] at hbuilt hbsl
            have hyl : ys.length = 22 := by rw [hys]; exact relC_len (ofL_adr (n := i) (by omega))
            have hone : ∀ u ∈ ys, u.oneCell' = true := by rw [hys]; exact List.all_eq_true.1 (relC_one (ofL i, 0, 0))
            have hnx := Lib.hid fun (W6 : World) (a5 : Option Addr) (c5 : Nat) hs hB ho => hS.out.nextR (a5 := a5) (c5 := c5) (W6 := W6) (Nat.le_of_lt hgs) hxs hys hs hB ho
            replace hxs := Lib.hid hxs
            replace hys := Lib.hid hys
            replace hone := Lib.hid hone
            obtain ⟨ic, hic, hzc, hsc, hbc⟩ := info_parts infoR
            generalize hzv : Value.agg (relC (zAdr, 0, 0)).toArray = zc at *
            have hzs : zc.cells.size = 22 := by rw [← hzv]; rfl
            replace hone := hone.out
            clear hS
            go_upto_region 11 with fail
            refine' wp_region_growSR (goesO (w.heap.size + 1) 67 22 (.slice b i d) i xs ys (fun _ W => Hid (BlkG W (w.heap.size + 1) 27 [.int .u64 0, .slice a i0 c, .slice b i d])) (fun _ _ => False) 1000000 (fun _ _ _ h hb => Lib.hid (h.out.below hb))) 9 [fixdS (.pointer (some ⟨w.heap.size + 1, 2, none⟩)), fixdS (.slice b i d), fixdS (.int .i64 i), fixdS (.int .u8 i), fixdS (.agg (adrC (ofL i)).toArray), fixdS (.agg ys.toArray), newT (w.heap.size + 1) 67 22 (.slice b i d) i xs ys, ownO (w.heap.size + 1) 67 22 (.slice b i d) i xs ys, fixdS (.pointer (some ⟨w.heap.size + 1, 2, none⟩))] (by kernel_rfl) (by kernel_rfl) (Lib.hid hpb.out) (fun x ch W hd h => h.elim) ?_
            simp only [List.take_succ_cons, List.take_zero, List.drop_succ_cons, List.drop_zero]
            try simp only [Act.put, List.setIfInBounds_toArray, List.set_cons_succ, List.set_cons_zero, List.nil_append, List.cons_append]
            apply wpGrowS_fix (.pointer (some ⟨w.heap.size + 1, 2, none⟩)) rfl rfl rfl
            · intro bq W hS hb hF
              go_simp
              first | exact xrefl W | exact ⟨rfl, xrefl W⟩
            try simp only [Act.put, List.setIfInBounds_toArray, List.set_cons_succ, List.set_cons_zero, List.nil_append, List.cons_append]
            apply wpGrowS_fix (.slice b i d) rfl rfl rfl
            · intro bq W hS hb hF
              have c := hcl.out W hS.out
              go_simp
              first | exact xrefl W | exact ⟨rfl, xrefl W⟩
            try simp only [Act.put, List.setIfInBounds_toArray, List.set_cons_succ, List.set_cons_zero, List.nil_append, List.cons_append]
            apply wpGrowS_fix (.int .i64 i) rfl rfl rfl
            · intro bq W hS hb hF
              go_simp
              first | exact xrefl W | exact ⟨rfl, xrefl W⟩
            try simp only [Act.put, List.setIfInBounds_toArray, List.set_cons_succ, List.set_cons_zero, List.nil_append, List.cons_append]
            apply wpGrowS_fix (.int .u8 i) rfl rfl rfl
            · intro bq W hS hb hF
              go_simp
              first | exact xrefl W | exact ⟨rfl, xrefl W⟩
            try simp only [Act.put, List.setIfInBounds_toArray, List.set_cons_succ, List.set_cons_zero, List.nil_append, List.cons_append]
            apply wpGrowS_fix (.agg (adrC (ofL i)).toArray) rfl rfl rfl
            · intro bq W hS hb hF
              go_simp
              go_at_call 33
              refine (hof.out i W).mono ?_
              rintro e w' ⟨rfl, hb'⟩
              exact ⟨rfl, hb'⟩
            try simp only [Act.put, List.setIfInBounds_toArray, List.set_cons_succ, List.set_cons_zero, List.nil_append, List.cons_append]
            apply wpGrowS_fix (.agg ys.toArray) rfl rfl rfl
            · intro bq W hS hb hF
              rw [exec_build 67 _ rfl [(0, adrV (ofL i))] rfl _ hbuilt.out]
              exact ⟨rfl, xrefl W⟩
            try simp only [Act.put, List.setIfInBounds_toArray, List.set_cons_succ, List.set_cons_zero, List.nil_append, List.cons_append]
            refine wpGrowS_any (newT (w.heap.size + 1) 67 22 (.slice b i d) i xs ys) rfl rfl (fun bq W hk0 hS hb hF => ?_) (fun v hv => ?_)
            · rw [exec_bsl 25 _ rfl (.agg ys.toArray) rfl (hbsl.out W)]
              exact ⟨⟨⟨_, rfl⟩, newT_new hS.out.lt (hoc0.out W hb)⟩, StyO.below (xalloc (xrefl W) _), Lib.hid (hS.out.below (xalloc (xrefl W) _))⟩
            obtain ⟨q, rfl⟩ := hv
            try simp only [Act.put, List.setIfInBounds_toArray, List.set_cons_succ, List.set_cons_zero, List.nil_append, List.cons_append]
            refine wpGrowS_any (ownO (w.heap.size + 1) 67 22 (.slice b i d) i xs ys) rfl rfl (fun bq W hk0 hS hb hF => ?_) (fun v hv => ?_)
            · have hq := hF 6 (by kernel_rfl) (by simp)
              obtain ⟨q', eq, hB, hq1, hq2⟩ : NewAt (w.heap.size + 1) (.slice b i d) ys 67 (.slice (some ⟨q, 0, none⟩) 1 1) W := hq
              cases eq
              obtain ⟨v', w', hrun, ho, hg', hbk, hk1, hk2⟩ := run_append_own_keep (P := Tryz.prog) W (w.heap.size + 1) 25 25 67 ic zc 22 32 Tryz.underlying25 hic hzc hsc hbc hzs (by decide) (.slice b i d) i xs (hoc0.out W hb) ⟨q, 0, none⟩ 1 1 ys (by rw [hyl]) (fun j u hj => blk_add hB hj) hone (by unfold maxLen; omega) (by omega) (Nat.le_of_lt hS.out.lt)
              rw [exec_append 25 _ _ rfl _ _ rfl rfl hrun]
              exact ⟨⟨own_sliceV ho, ho⟩, StyO.app hg' hk1 hk2, Lib.hid (hS.out.only (only_grown hg') (own_neG (hoc0.out W hb) hS.out rt_neP))⟩
            obtain ⟨a5, c5, rfl⟩ := hv
            try simp only [Act.put, List.setIfInBounds_toArray, List.set_cons_succ, List.set_cons_zero, List.nil_append, List.cons_append]
            apply wpGrowS_fix (.pointer (some ⟨w.heap.size + 1, 2, none⟩)) rfl rfl rfl
            · intro bq W hS hb hF
              go_simp
              first | exact xrefl W | exact ⟨rfl, xrefl W⟩
            try simp only [Act.put, List.setIfInBounds_toArray, List.set_cons_succ, List.set_cons_zero, List.nil_append, List.cons_append]
            refine wpGrowS_nil fun W6 hb6 hS6 hmem => ?_
            have hown : W6.ownsRow (w.heap.size + 1) 67 22 (.slice a5 (i + 1) c5) (i + 1) (xs ++ ys) := hmem 7 (by decide)
            have hB6 : BlkG W6 (w.heap.size + 1) 27 [.int .u64 0, .slice a i0 c, .slice b i d] := hS6.out
            have c6 := hB6.cell 2 (by simp)
            simp only [List.getElem_cons_succ, List.getElem_cons_zero] at c6
            have f6 := hB6.free 2
            have hfin := Lib.hid (hnx.out W6 a5 c5 hb6 hB6 hown)
            clear hB6 hown hb6 hmem hS6 hnx hone
            go_wp2
            exact ⟨⟨i + 1, a5, c5, by first | rfl | simp, by omega, hfin⟩, by simp [intOf]; omega⟩
          · have e : j0 = i := by omega
            subst e
            have hlt2 : ¬ (j0 : Int) < j0 := by omega
            clear hlt hii
            go_upto_region 12 with fail
            have hMS := hS.out
            have hzz := hMS.hb.size
            have hbw : Below w.heap.size w wr := xtrans hb1.out (hMS.hb.mono (by omega))
            have hPt : ∀ W, Below wr.heap.size wr W → PolAt W (pM i0 j0) a c b d := fun W h => (hMS.at (by omega) (by omega)).below h
            have htx : Hid (Calls Tryz.prog 32 #[.agg #[.int .u64 0, .slice a i0 c, .slice b j0 d]] wr fun e w' => e = .returned (.tuple #[strL (textG (pM i0 j0)), .int .i64 (checkF (pM i0 j0))]) ∧ Below wr.heap.size wr w') := Lib.hid (by
              have := textP_any (pM i0 j0) a b c d wr (hPt _ (xrefl _)) (hTt.out _ hbw) (by rw [pM_c]; omega) (by rw [pM_r]; omega)
              unfold polV at this
              rw [pM_c, pM_r] at this
              exact this)
            have hck : Hid (∀ W, Below wr.heap.size wr W → Calls Tryz.prog 14 #[.agg #[.int .u64 0, .slice a i0 c, .slice b j0 d]] W fun e w' => e = .returned (.int .i64 (checkF (pM i0 j0))) ∧ Below W.heap.size W w') := Lib.hid fun W h => by
              have := check_any (pM i0 j0) a b c d W (hPt _ h) (by rw [pM_c]; omega) (by rw [pM_r]; omega)
              unfold polV at this
              rw [pM_c, pM_r] at this
              exact this
            have hCC : Hid (∀ W, Below wr.heap.size wr W → (W.cell? ⟨w.heap.size, 0, none⟩ = some (.int .i64 m0) ∧ W.cell? ⟨w.heap.size, 1, none⟩ = some (.int .i64 m1)) ∧ W.cell? ⟨w.heap.size + 1, 0, none⟩ = some (.int .u64 0) ∧ W.cell? ⟨w.heap.size + 1, 1, none⟩ = some (.slice a i0 c) ∧ W.cell? ⟨w.heap.size + 1, 2, none⟩ = some (.slice b j0 d)) := Lib.hid fun W h => by
              have h2 := hMS.pb.below h
              exact ⟨hC0.out W (hMS.hb.trans (h.mono (Nat.le_of_lt hgs))), h2.cell 0 (by simp), h2.cell 1 (by simp), h2.cell 2 (by simp)⟩
            have hcf := pM_check hi hj
            have hno : Hid (checkF (pM i0 j0) = 0 → (((⟨(textG (pM i0 j0)).toArray⟩ : ByteArray).toList) == []) = false) := Lib.hid fun h => by
              rw [ByteArray.toList_eq, textG_ok h, beq_eq_false_iff_ne]
              simpa using textF_ne _
            have hyes : Hid (checkF (pM i0 j0) ≠ 0 → (((⟨(textG (pM i0 j0)).toArray⟩ : ByteArray).toList) == []) = true) := Lib.hid fun h => by
              rw [ByteArray.toList_eq, textG_no h]
              rfl
            unfold strL at htx
            generalize (⟨(textG (pM i0 j0)).toArray⟩ : ByteArray) = sx at *
            generalize checkF (pM i0 j0) = n at *
            replace hbw := Lib.hid hbw
            replace hcf := Lib.hid hcf
            have p0 := hMS.pb.cell 0 (by simp)
            have p1 := hMS.pb.cell 1 (by simp)
            have p2 := hMS.pb.cell 2 (by simp)
            simp only [List.getElem_cons_succ, List.getElem_cons_zero] at p0 p1 p2
            clear hPt hMS hS hC0
            go_upto_region 13 with (go_at_call 32; refine htx.out.mono ?_; rintro e w3 ⟨rfl, hb3⟩)
            clear c0 c1 p0 p1 p2
            obtain ⟨⟨c0, c1⟩, p0, p1, p2⟩ := hCC.out _ hb3
            by_cases hk : i0 ≤ 64 ∧ j0 ≤ 64
            · have hn0 : n = 0 := by rw [hcf.out, if_pos hk]
              have hsx := hno.out hn0
              have hg0 : ¬ m0 > 0 := by have := hi0'.out; omega
              have hg1 : ¬ m1 > 0 := by have := hj0'.out; omega
              subst hn0
              replace hb3 := Lib.hid hb3
              clear hcf hk hno hyes
              go_wp2_with (first
                | (go_at_call 14; refine (hck.out _ hb3.out).mono ?_; rintro e w4 ⟨rfl, hb4⟩; replace hb4 := Lib.hid (xtrans hb3.out hb4))
                | (go_at_call 13; refine (num_anyP _ _).mono ?_; rintro e w' ⟨rfl, rfl⟩)
                | (go_at_call 10; refine (hwk.out _ (xtrans hbw.out hb4.out)).mono ?_; rintro e w7 ⟨rfl, hb7⟩; replace hb7 := Lib.hid (xtrans hbw.out (xtrans hb4.out hb7))))
              go_ret
              exact ⟨rfl, hb7.out⟩
            · have hn3 : n = 3 := by rw [hcf.out, if_neg hk]
              have hsx := hyes.out (by omega)
              subst hn3
              replace hb3 := Lib.hid hb3
              by_cases hg0 : m0 > 0
              · have hg0' : 0 < m0 := hg0
                clear hcf hk hno hyes
                go_wp2_with (first
                  | (go_at_call 14; refine (hck.out _ hb3.out).mono ?_; rintro e w4 ⟨rfl, hb4⟩; replace hb4 := Lib.hid (xtrans hb3.out hb4))
                  | (go_at_call 13; refine (num_anyP _ _).mono ?_; rintro e w' ⟨rfl, rfl⟩)
                  | (go_at_call 10; refine (hwk.out _ (xtrans hbw.out hb4.out)).mono ?_; rintro e w7 ⟨rfl, hb7⟩; replace hb7 := Lib.hid (xtrans hbw.out (xtrans hb4.out hb7))))
                go_ret
                exact ⟨rfl, hb7.out⟩
              · have hg0' : ¬ 0 < m0 := hg0
                have hg1 : 0 < m1 := by have := hi0'.out; have := hj0'.out; omega
                clear hcf hk hno hyes
                go_wp2_with (first
                  | (go_at_call 14; refine (hck.out _ hb3.out).mono ?_; rintro e w4 ⟨rfl, hb4⟩; replace hb4 := Lib.hid (xtrans hb3.out hb4))
                  | (go_at_call 13; refine (num_anyP _ _).mono ?_; rintro e w' ⟨rfl, rfl⟩)
                  | (go_at_call 10; refine (hwk.out _ (xtrans hbw.out hb4.out)).mono ?_; rintro e w7 ⟨rfl, hb7⟩; replace hb7 := Lib.hid (xtrans hbw.out (xtrans hb4.out hb7))))
                go_ret
                exact ⟨rfl, hb7.out⟩
theorem policyMany_walk (z : List Int) (w : World) (hl : z.length = 2) (_ : ∀ y ∈ z, (Lit.int .i64 y).wf = true) (hT : TabP w) : Calls Tryz.prog 6 #[.agg (z.map (Value.int .i64)).toArray] w (Yes w) := by
  obtain ⟨m0, m1, rfl⟩ : ∃ m0 m1, z = [m0, m1] := by
    match z, hl with
    | [m0, m1], _ => exact ⟨m0, m1, rfl⟩
  exact many_go m0 m1 w hT
end Go.Proofs.YthpallkphamobaaGreatDoor
