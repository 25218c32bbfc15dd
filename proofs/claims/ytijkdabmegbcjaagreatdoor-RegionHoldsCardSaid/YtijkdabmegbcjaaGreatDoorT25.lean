/- Texts of this claim, merged; no condition. -/
import Derived.Test.YtijkdabmegbcjaaGreatDoorT24
import Derived.Test.YtijkdabmegbcjaaGreatDoorTA
set_option linter.all false
namespace Go.Proofs.YtijkdabmegbcjaaGreatDoor
open Go.RowKit Go.Shelf
set_option maxRecDepth 100000 in
set_option maxHeartbeats 8000000 in
theorem made_any (cs : List Nat) (a : Option Addr) (c : Nat) (w : World) (h : CodeAt w a c cs) :
    Calls Tryz.prog 41 #[.slice a cs.length c] w fun e w' => (∃ cb, e = .returned (.pointer (some ⟨cb, 0, none⟩)) ∧ CutAt w' cb a c cs ∧ w.heap.size ≤ cb) ∧ Below w.heap.size w w' := by
  have hof := qh (of_any cs a c w h)
  obtain ⟨i0, hi0, hz0, hzs1, hzs2⟩ := info_parts info_op
  have hlen := h.len
  have hol := opsL_len cs
  go_enter Tryz.func41, Tryz.ntmps41
  go_upto_region 4 with (go_at_call 71; refine hof.out.mono ?_; rintro e w1 ⟨⟨po, qo, rfl, hO, hpn⟩, hb1⟩; replace hO := qh hO; replace hpn := qh hpn; replace hb1 := qh hb1; clear hof)
  have hM0 : MdS w1 a c cs po qo [] [] (.slice none 0 0) (.slice none 0 0) [] (w1.heap.size + 3) (((w1.alloc (Obj.cells #[.slice a cs.length c, .slice po (opsL cs).length qo, .slice none 0 0] 76)).alloc (Obj.cells #[.pointer (some ⟨w1.heap.size, 0, none⟩)] 69)).alloc (Obj.cells #[.slice none 0 0] 71)) := by
    have hx := Box.new (w1.alloc (Obj.cells #[.slice a cs.length c, .slice po (opsL cs).length qo, .slice none 0 0] 76)) (.pointer (some ⟨w1.heap.size, 0, none⟩)) 69
    have hn := Box.new ((w1.alloc (Obj.cells #[.slice a cs.length c, .slice po (opsL cs).length qo, .slice none 0 0] 76)).alloc (Obj.cells #[.pointer (some ⟨w1.heap.size, 0, none⟩)] 69)) (.slice none 0 0) 71
    rw [World.size_alloc] at hx hn
    rw [World.size_alloc] at hn
    have hb : Below w1.heap.size w1 (((w1.alloc (Obj.cells #[.slice a cs.length c, .slice po (opsL cs).length qo, .slice none 0 0] 76)).alloc (Obj.cells #[.pointer (some ⟨w1.heap.size, 0, none⟩)] 69)).alloc (Obj.cells #[.slice none 0 0] 71)) := xalloc (xalloc (xalloc (xrefl _) _) _) _
    exact ⟨((BlkG.new w1 _ [.slice a cs.length c, .slice po (opsL cs).length qo, .slice none 0 0]).alloc _).alloc _, hn, hx.below (xalloc (xrefl _) _), ⟨by simp, .inl ⟨rfl, rfl⟩⟩, fun _ => rfl, ⟨by simp, .inl ⟨rfl, rfl⟩⟩, fun j hj => absurd hj (by simp), hO.out.below hb, fun h0 x hx => hO.out.lt h0 hx, Nat.le_refl _, by simp, hb⟩
  have hz1 := hb1.out.size
  generalize (((w1.alloc (Obj.cells #[.slice a cs.length c, .slice po (opsL cs).length qo, .slice none 0 0] 76)).alloc (Obj.cells #[.pointer (some ⟨w1.heap.size, 0, none⟩)] 69)).alloc (Obj.cells #[.slice none 0 0] 71)) = w2 at hM0 ⊢
  have hcx := hM0.xbox.cell
  have hco := hM0.cut.cell 1 (by show 1 < 3; omega)
  simp only [List.getElem_cons_zero, List.getElem_cons_succ] at hco
  replace hM0 := qh hM0
  have hgrp : Hid (grps cs = [] ++ grpA (byN cs) [] ((opsL cs).drop 0)) := qh rfl
  have hgl : Hid ((grps cs).length ≤ 200) := qh (by have := grps_len cs; omega)
  go_wp2
  go_loopw [19] (fun iv wx => ∃ (i : Nat) (N : List Nat) (gs : List (List Nat)) (v vb : Value) (gv : List Value) (M : Nat), i ≤ (opsL cs).length ∧ iv = .int .i64 i ∧ N.length ≤ i ∧ gs.length ≤ i ∧ Hid (grps cs = gs ++ grpA (byN cs) N ((opsL cs).drop i)) ∧ Hid (MdS w1 a c cs po qo N gs v vb gv M wx)) (fun iv _ => (opsL cs).length - (intOf iv).toNat)
  case atStart => exact ⟨0, [], [], _, _, _, _, by omega, rfl, by simp, by simp, hgrp, hM0⟩
  case round =>
    clear hM0 hgrp hcx hco
    obtain ⟨i, N, gs, v, vb, gv, M, hi, rfl, hNl, hgsl, hG, hM⟩ := hrel
    by_cases hlt : i < (opsL cs).length
    · have hltI : (i : Int) < (opsL cs).length := by omega
      obtain ⟨b, o, rfl, hr⟩ := hM.out.ops.elt i hlt
      have hG2 := hG.out
      rw [List.drop_eq_getElem_cons hlt] at hG2
      have hxl := opsL_lt (List.getElem_mem hlt)
      have h256 := byN_lt h.ok (opsL cs)[i]
      generalize (opsL cs)[i] = x at *
      generalize hy : byN cs x = y at *
      have hopC : opC cs x = [.int .i64 x, .int .u8 y] := by unfold opC; rw [hy]
      rw [hopC] at hr
      have hend := qh fun W => ended_any y W h256
      have hu := Tryz.underlying81
      have hown : ∀ {g}, v.ownBlock = some g → g < wr.heap.size := fun h => (own_lt hM.out.own h).2
      have hwx : w1.heap.size + 3 ≤ wr.heap.size := Nat.le_trans hM.out.m1 hM.out.m2
      have hgl2 := hgl.out
      replace hopC := qh hopC
      replace hy := qh hy
      by_cases h91 : y = 91
      · have he91 : endN y = false := by rw [h91]; decide
        have hs91 : stopN y = false := by rw [h91]; decide
        rw [he91] at hend
        have h91I : ((y : Int) == 91) = true := by simp; omega
        have h86I : ((y : Int) == 86) = false := by simp; omega
        have h87I : ((y : Int) == 87) = false := by simp; omega
        clear he91
        by_cases hN : N = []
        · subst hN
          have hG3 : Hid (grps cs = gs ++ grpA (byN cs) ([] ++ [x]) ((opsL cs).drop (i + 1))) := qh (by
            rw [hG2, grpA, if_neg (by simp), hy.out, if_neg (by rw [hs91]; simp)])
          clear hG2 hG hown h91 hs91
          have hqa : 0 + 1 ≤ maxLen := by unfold maxLen; omega
          have hqb : (0 + 1) * 16 ≤ 140737488355328 := by omega
          go_wp2_with (first
            | (refine wpList_load_mid rfl 81 _ rfl b (o + i * 2) rfl [.int .i64 x, .int .u8 y] _ hr hu rfl (by kernel_rfl) ?_)
            | (refine wpList_store_blkG rfl 81 _ _ rfl wr.heap.size rfl 81 [.int .i64 0, .int .u8 0] [.int .i64 x, .int .u8 y] (BlkG.new wr _ _) rfl rfl (by kernel_rfl) rfl ?_; intro w3 hX3 ho3; have hb3 := ho3.below (xalloc (xrefl wr) _) (by rw [World.size_alloc]; omega) (by rintro k rfl; exact Nat.le_refl _); have hM3 := qh (hM.out.below hb3); have hcy := hX3.cell 1 (by show 1 < 2; omega); simp only [List.getElem_cons_zero, List.getElem_cons_succ] at hcy; replace hX3 := qh hX3; clear ho3 hb3 hM)
            | (go_at_call 72; refine (hM3.out.callNone).mono ?_; rintro e w4 ⟨rfl, ⟨v4, vb4, gv4, M4, hM4⟩, hk4⟩; have hv4 := hM4.nilv rfl; subst hv4; have hX4 := qh (hk4 _ _ hX3.out hwx); have hcb := hM4.box.cell; have hcy4 := hX4.out.cell 1 (by show 1 < 2; omega); simp only [List.getElem_cons_zero, List.getElem_cons_succ] at hcy4; replace hM4 := qh hM4; clear hk4 hM3 hcy)
            | (refine wpList_load_blkG rfl 81 _ rfl wr.heap.size rfl 81 _ _ hX4.out hu rfl (by kernel_rfl) ?_)
            | (at_builtin; refine wpList_append_vals (w4.alloc (.cells #[.int .i64 x, .int .u8 y] 81)) rfl _ _ 71 rfl M4 81 i0 (.agg #[.int .i64 0, .int .u8 0]) 2 16 Tryz.underlying71 hi0 hz0 hzs1 hzs2 rfl (by decide) (.slice none 0 0) 0 _ rfl (hM4.out.own.alloc _) (some ⟨w4.heap.size, 0, none⟩) 1 1 [.int .i64 x, .int .u8 y] rfl (by simp) rfl (rowV_new w4 81 [.int .i64 x, .int .u8 y]) (by simp [Value.oneCell']) hqa hqb (by rw [World.size_alloc]; exact Nat.le_succ_of_le hM4.out.m2) ?_; intro V5 W5 o5 hg5; obtain ⟨a5, c5, hV5⟩ := own_sliceV o5; subst hV5; have hM6 := qh (hM4.out.push (x := x) (xalloc (xrefl _) _) hg5 (by rw [hopC.out]; exact o5)); have hB5 := hM4.out.boxAt (xalloc (xrefl _) _) hg5; have hc5 := hB5.cell; have hf5 := hB5.free; have hX6 := qh (((hX4.out.alloc _).only (only_grown hg5) (fun e => by cases e)).oth (c := w1.heap.size + 1 + 1) (i := 0) (.slice a5 (0 + 1) c5) (by omega)); have hcy6 := hX6.out.cell 1 (by show 1 < 2; omega); simp only [List.getElem_cons_zero, List.getElem_cons_succ] at hcy6; clear hg5 o5 hB5)
            | (go_at_call 73; refine (hend.out _).mono ?_; rintro e w7 ⟨rfl, hb7⟩; have hM7 := qh (hM6.out.below hb7); have hX7 := hX6.out.below hb7; have hcy7 := hX7.cell 1 (by show 1 < 2; omega); simp only [List.getElem_cons_zero, List.getElem_cons_succ] at hcy7; clear hX7 hb7 hM6))
          exact ⟨⟨i + 1, ([] ++ [x]), gs, _, _, _, _, by omega, by go_num, by first | omega | (simp; done) | (simp; omega), by first | omega | (simp; done) | (simp; omega), hG3, hM7⟩, by simp [intOf]; omega⟩
        · have hN0 := qh hN
          have hG3 : Hid (grps cs = (gs ++ [N]) ++ grpA (byN cs) ([] ++ [x]) ((opsL cs).drop (i + 1))) := qh (by
            rw [hG2, grpA, if_pos ⟨hy.out.trans h91, hN⟩, List.append_assoc]; rfl)
          clear hG2 hG hown hN h91 hs91
          have hqa : 0 + 1 ≤ maxLen := by unfold maxLen; omega
          have hqb : (0 + 1) * 16 ≤ 140737488355328 := by omega
          go_wp2_with (first
            | (refine wpList_load_mid rfl 81 _ rfl b (o + i * 2) rfl [.int .i64 x, .int .u8 y] _ hr hu rfl (by kernel_rfl) ?_)
            | (refine wpList_store_blkG rfl 81 _ _ rfl wr.heap.size rfl 81 [.int .i64 0, .int .u8 0] [.int .i64 x, .int .u8 y] (BlkG.new wr _ _) rfl rfl (by kernel_rfl) rfl ?_; intro w3 hX3 ho3; have hb3 := ho3.below (xalloc (xrefl wr) _) (by rw [World.size_alloc]; omega) (by rintro k rfl; exact Nat.le_refl _); have hM3 := qh (hM.out.below hb3); have hcy := hX3.cell 1 (by show 1 < 2; omega); simp only [List.getElem_cons_zero, List.getElem_cons_succ] at hcy; replace hX3 := qh hX3; clear ho3 hb3 hM)
            | (go_at_call 72; refine (hM3.out.callEnd hN0.out (by omega)).mono ?_; rintro e w4 ⟨rfl, ⟨v4, vb4, gv4, M4, hM4⟩, hk4⟩; have hv4 := hM4.nilv rfl; subst hv4; have hX4 := qh (hk4 _ _ hX3.out hwx); have hcb := hM4.box.cell; have hcy4 := hX4.out.cell 1 (by show 1 < 2; omega); simp only [List.getElem_cons_zero, List.getElem_cons_succ] at hcy4; replace hM4 := qh hM4; clear hk4 hM3 hcy)
            | (refine wpList_load_blkG rfl 81 _ rfl wr.heap.size rfl 81 _ _ hX4.out hu rfl (by kernel_rfl) ?_)
            | (at_builtin; refine wpList_append_vals (w4.alloc (.cells #[.int .i64 x, .int .u8 y] 81)) rfl _ _ 71 rfl M4 81 i0 (.agg #[.int .i64 0, .int .u8 0]) 2 16 Tryz.underlying71 hi0 hz0 hzs1 hzs2 rfl (by decide) (.slice none 0 0) 0 _ rfl (hM4.out.own.alloc _) (some ⟨w4.heap.size, 0, none⟩) 1 1 [.int .i64 x, .int .u8 y] rfl (by simp) rfl (rowV_new w4 81 [.int .i64 x, .int .u8 y]) (by simp [Value.oneCell']) hqa hqb (by rw [World.size_alloc]; exact Nat.le_succ_of_le hM4.out.m2) ?_; intro V5 W5 o5 hg5; obtain ⟨a5, c5, hV5⟩ := own_sliceV o5; subst hV5; have hM6 := qh (hM4.out.push (x := x) (xalloc (xrefl _) _) hg5 (by rw [hopC.out]; exact o5)); have hB5 := hM4.out.boxAt (xalloc (xrefl _) _) hg5; have hc5 := hB5.cell; have hf5 := hB5.free; have hX6 := qh (((hX4.out.alloc _).only (only_grown hg5) (fun e => by cases e)).oth (c := w1.heap.size + 1 + 1) (i := 0) (.slice a5 (0 + 1) c5) (by omega)); have hcy6 := hX6.out.cell 1 (by show 1 < 2; omega); simp only [List.getElem_cons_zero, List.getElem_cons_succ] at hcy6; clear hg5 o5 hB5)
            | (go_at_call 73; refine (hend.out _).mono ?_; rintro e w7 ⟨rfl, hb7⟩; have hM7 := qh (hM6.out.below hb7); have hX7 := hX6.out.below hb7; have hcy7 := hX7.cell 1 (by show 1 < 2; omega); simp only [List.getElem_cons_zero, List.getElem_cons_succ] at hcy7; clear hX7 hb7 hM6))
          exact ⟨⟨i + 1, ([] ++ [x]), (gs ++ [N]), _, _, _, _, by omega, by go_num, by first | omega | (simp; done) | (simp; omega), by first | omega | (simp; done) | (simp; omega), hG3, hM7⟩, by simp [intOf]; omega⟩
      · have h91I : ((y : Int) == 91) = false := by simp; omega
        have h91J : ¬ (y : Int) = 91 := by omega
        have hno : ¬ (byN cs x = 91 ∧ N ≠ []) := fun h => h91 (by rw [← hy.out]; exact h.1)
        cases hs : stopN y with
        | true =>
          have hG3 : Hid (grps cs = (gs ++ [N ++ [x]]) ++ grpA (byN cs) [] ((opsL cs).drop (i + 1))) := qh (by
            rw [hG2, grpA, if_neg hno, hy.out, if_pos hs, List.append_assoc]; rfl)
          have hs2 : endN y = true ∨ (endN y = false ∧ (y = 86 ∨ y = 87)) := by
            unfold stopN at hs
            cases he : endN y with
            | true => exact .inl rfl
            | false => rw [he] at hs; simp at hs; exact .inr ⟨rfl, hs⟩
          clear hG2 hG hno hs
          rcases hs2 with he | ⟨he, he2⟩
          · rw [he] at hend
            clear he h91 h91J
            have hqa : N.length + 1 ≤ maxLen := by unfold maxLen; omega
            have hqb : (N.length + 1) * 16 ≤ 140737488355328 := by omega
            go_wp2_with (first
              | (refine wpList_load_mid rfl 81 _ rfl b (o + i * 2) rfl [.int .i64 x, .int .u8 y] _ hr hu rfl (by kernel_rfl) ?_)
              | (refine wpList_store_blkG rfl 81 _ _ rfl wr.heap.size rfl 81 [.int .i64 0, .int .u8 0] [.int .i64 x, .int .u8 y] (BlkG.new wr _ _) rfl rfl (by kernel_rfl) rfl ?_; intro w3 hX3 ho3; have hb3 := ho3.below (xalloc (xrefl wr) _) (by rw [World.size_alloc]; omega) (by rintro k rfl; exact Nat.le_refl _); have hM3 := qh (hM.out.below hb3); have hcy := hX3.cell 1 (by show 1 < 2; omega); simp only [List.getElem_cons_zero, List.getElem_cons_succ] at hcy; replace hX3 := qh hX3; obtain ⟨a4, c4, hv4⟩ := own_sliceV hM3.out.own; subst hv4; have hcb := hM3.out.box.cell; have hM4 := qh hM3.out; have hX4 := qh hX3.out; clear hM3 hX3; clear ho3 hb3 hM)
              | (refine wpList_load_blkG rfl 81 _ rfl wr.heap.size rfl 81 _ _ hX4.out hu rfl (by kernel_rfl) ?_)
              | (at_builtin; refine wpList_append_vals (w3.alloc (.cells #[.int .i64 x, .int .u8 y] 81)) rfl _ _ 71 rfl M 81 i0 (.agg #[.int .i64 0, .int .u8 0]) 2 16 Tryz.underlying71 hi0 hz0 hzs1 hzs2 rfl (by decide) (.slice a4 N.length c4) N.length _ rfl (hM4.out.own.alloc _) (some ⟨w3.heap.size, 0, none⟩) 1 1 [.int .i64 x, .int .u8 y] rfl (by simp) rfl (rowV_new w3 81 [.int .i64 x, .int .u8 y]) (by simp [Value.oneCell']) hqa hqb (by rw [World.size_alloc]; exact Nat.le_succ_of_le hM4.out.m2) ?_; intro V5 W5 o5 hg5; obtain ⟨a5, c5, hV5⟩ := own_sliceV o5; subst hV5; have hM6 := qh (hM4.out.push (x := x) (xalloc (xrefl _) _) hg5 (by rw [hopC.out]; exact o5)); have hB5 := hM4.out.boxAt (xalloc (xrefl _) _) hg5; have hc5 := hB5.cell; have hf5 := hB5.free; have hX6 := qh (((hX4.out.alloc _).only (only_grown hg5) (fun e => by have h8 := hown e; omega)).oth (c := w1.heap.size + 1 + 1) (i := 0) (.slice a5 (N.length + 1) c5) (by omega)); have hcy6 := hX6.out.cell 1 (by show 1 < 2; omega); simp only [List.getElem_cons_zero, List.getElem_cons_succ] at hcy6; clear hg5 o5 hB5)
              | (go_at_call 73; refine (hend.out _).mono ?_; rintro e w7 ⟨rfl, hb7⟩; have hM7 := qh (hM6.out.below hb7); have hX7 := hX6.out.below hb7; have hcy7 := hX7.cell 1 (by show 1 < 2; omega); simp only [List.getElem_cons_zero, List.getElem_cons_succ] at hcy7; clear hX7 hb7 hM6)
              | (go_at_call 72; refine (hM7.out.callEnd (by simp) (by omega)).mono ?_; rintro e w8 ⟨rfl, ⟨v8, vb8, gv8, M8, hM8⟩, -⟩; replace hM8 := qh hM8))
            exact ⟨⟨i + 1, [], (gs ++ [(N ++ [x])]), v8, vb8, gv8, M8, by omega, by go_num, by simp, by first | omega | (simp; done) | (simp; omega), hG3, hM8⟩, by simp [intOf]; omega⟩
          · rw [he] at hend
            clear he
            rcases he2 with he2 | he2
            · have h86I : ((y : Int) == 86) = true := by simp; omega
              clear h91 h91J he2
              have hqa : N.length + 1 ≤ maxLen := by unfold maxLen; omega
              have hqb : (N.length + 1) * 16 ≤ 140737488355328 := by omega
              go_wp2_with (first
                | (refine wpList_load_mid rfl 81 _ rfl b (o + i * 2) rfl [.int .i64 x, .int .u8 y] _ hr hu rfl (by kernel_rfl) ?_)
                | (refine wpList_store_blkG rfl 81 _ _ rfl wr.heap.size rfl 81 [.int .i64 0, .int .u8 0] [.int .i64 x, .int .u8 y] (BlkG.new wr _ _) rfl rfl (by kernel_rfl) rfl ?_; intro w3 hX3 ho3; have hb3 := ho3.below (xalloc (xrefl wr) _) (by rw [World.size_alloc]; omega) (by rintro k rfl; exact Nat.le_refl _); have hM3 := qh (hM.out.below hb3); have hcy := hX3.cell 1 (by show 1 < 2; omega); simp only [List.getElem_cons_zero, List.getElem_cons_succ] at hcy; replace hX3 := qh hX3; obtain ⟨a4, c4, hv4⟩ := own_sliceV hM3.out.own; subst hv4; have hcb := hM3.out.box.cell; have hM4 := qh hM3.out; have hX4 := qh hX3.out; clear hM3 hX3; clear ho3 hb3 hM)
                | (refine wpList_load_blkG rfl 81 _ rfl wr.heap.size rfl 81 _ _ hX4.out hu rfl (by kernel_rfl) ?_)
                | (at_builtin; refine wpList_append_vals (w3.alloc (.cells #[.int .i64 x, .int .u8 y] 81)) rfl _ _ 71 rfl M 81 i0 (.agg #[.int .i64 0, .int .u8 0]) 2 16 Tryz.underlying71 hi0 hz0 hzs1 hzs2 rfl (by decide) (.slice a4 N.length c4) N.length _ rfl (hM4.out.own.alloc _) (some ⟨w3.heap.size, 0, none⟩) 1 1 [.int .i64 x, .int .u8 y] rfl (by simp) rfl (rowV_new w3 81 [.int .i64 x, .int .u8 y]) (by simp [Value.oneCell']) hqa hqb (by rw [World.size_alloc]; exact Nat.le_succ_of_le hM4.out.m2) ?_; intro V5 W5 o5 hg5; obtain ⟨a5, c5, hV5⟩ := own_sliceV o5; subst hV5; have hM6 := qh (hM4.out.push (x := x) (xalloc (xrefl _) _) hg5 (by rw [hopC.out]; exact o5)); have hB5 := hM4.out.boxAt (xalloc (xrefl _) _) hg5; have hc5 := hB5.cell; have hf5 := hB5.free; have hX6 := qh (((hX4.out.alloc _).only (only_grown hg5) (fun e => by have h8 := hown e; omega)).oth (c := w1.heap.size + 1 + 1) (i := 0) (.slice a5 (N.length + 1) c5) (by omega)); have hcy6 := hX6.out.cell 1 (by show 1 < 2; omega); simp only [List.getElem_cons_zero, List.getElem_cons_succ] at hcy6; clear hg5 o5 hB5)
                | (go_at_call 73; refine (hend.out _).mono ?_; rintro e w7 ⟨rfl, hb7⟩; have hM7 := qh (hM6.out.below hb7); have hX7 := hX6.out.below hb7; have hcy7 := hX7.cell 1 (by show 1 < 2; omega); simp only [List.getElem_cons_zero, List.getElem_cons_succ] at hcy7; clear hX7 hb7 hM6)
                | (go_at_call 72; refine (hM7.out.callEnd (by simp) (by omega)).mono ?_; rintro e w8 ⟨rfl, ⟨v8, vb8, gv8, M8, hM8⟩, -⟩; replace hM8 := qh hM8))
              exact ⟨⟨i + 1, [], (gs ++ [(N ++ [x])]), v8, vb8, gv8, M8, by omega, by go_num, by simp, by first | omega | (simp; done) | (simp; omega), hG3, hM8⟩, by simp [intOf]; omega⟩
            · have h86I : ((y : Int) == 86) = false := by simp; omega
              have h87I : ((y : Int) == 87) = true := by simp; omega
              clear h91 h91J he2
              have hqa : N.length + 1 ≤ maxLen := by unfold maxLen; omega
              have hqb : (N.length + 1) * 16 ≤ 140737488355328 := by omega
              go_wp2_with (first
                | (refine wpList_load_mid rfl 81 _ rfl b (o + i * 2) rfl [.int .i64 x, .int .u8 y] _ hr hu rfl (by kernel_rfl) ?_)
                | (refine wpList_store_blkG rfl 81 _ _ rfl wr.heap.size rfl 81 [.int .i64 0, .int .u8 0] [.int .i64 x, .int .u8 y] (BlkG.new wr _ _) rfl rfl (by kernel_rfl) rfl ?_; intro w3 hX3 ho3; have hb3 := ho3.below (xalloc (xrefl wr) _) (by rw [World.size_alloc]; omega) (by rintro k rfl; exact Nat.le_refl _); have hM3 := qh (hM.out.below hb3); have hcy := hX3.cell 1 (by show 1 < 2; omega); simp only [List.getElem_cons_zero, List.getElem_cons_succ] at hcy; replace hX3 := qh hX3; obtain ⟨a4, c4, hv4⟩ := own_sliceV hM3.out.own; subst hv4; have hcb := hM3.out.box.cell; have hM4 := qh hM3.out; have hX4 := qh hX3.out; clear hM3 hX3; clear ho3 hb3 hM)
                | (refine wpList_load_blkG rfl 81 _ rfl wr.heap.size rfl 81 _ _ hX4.out hu rfl (by kernel_rfl) ?_)
                | (at_builtin; refine wpList_append_vals (w3.alloc (.cells #[.int .i64 x, .int .u8 y] 81)) rfl _ _ 71 rfl M 81 i0 (.agg #[.int .i64 0, .int .u8 0]) 2 16 Tryz.underlying71 hi0 hz0 hzs1 hzs2 rfl (by decide) (.slice a4 N.length c4) N.length _ rfl (hM4.out.own.alloc _) (some ⟨w3.heap.size, 0, none⟩) 1 1 [.int .i64 x, .int .u8 y] rfl (by simp) rfl (rowV_new w3 81 [.int .i64 x, .int .u8 y]) (by simp [Value.oneCell']) hqa hqb (by rw [World.size_alloc]; exact Nat.le_succ_of_le hM4.out.m2) ?_; intro V5 W5 o5 hg5; obtain ⟨a5, c5, hV5⟩ := own_sliceV o5; subst hV5; have hM6 := qh (hM4.out.push (x := x) (xalloc (xrefl _) _) hg5 (by rw [hopC.out]; exact o5)); have hB5 := hM4.out.boxAt (xalloc (xrefl _) _) hg5; have hc5 := hB5.cell; have hf5 := hB5.free; have hX6 := qh (((hX4.out.alloc _).only (only_grown hg5) (fun e => by have h8 := hown e; omega)).oth (c := w1.heap.size + 1 + 1) (i := 0) (.slice a5 (N.length + 1) c5) (by omega)); have hcy6 := hX6.out.cell 1 (by show 1 < 2; omega); simp only [List.getElem_cons_zero, List.getElem_cons_succ] at hcy6; clear hg5 o5 hB5)
                | (go_at_call 73; refine (hend.out _).mono ?_; rintro e w7 ⟨rfl, hb7⟩; have hM7 := qh (hM6.out.below hb7); have hX7 := hX6.out.below hb7; have hcy7 := hX7.cell 1 (by show 1 < 2; omega); simp only [List.getElem_cons_zero, List.getElem_cons_succ] at hcy7; clear hX7 hb7 hM6)
                | (go_at_call 72; refine (hM7.out.callEnd (by simp) (by omega)).mono ?_; rintro e w8 ⟨rfl, ⟨v8, vb8, gv8, M8, hM8⟩, -⟩; replace hM8 := qh hM8))
              exact ⟨⟨i + 1, [], (gs ++ [(N ++ [x])]), v8, vb8, gv8, M8, by omega, by go_num, by simp, by first | omega | (simp; done) | (simp; omega), hG3, hM8⟩, by simp [intOf]; omega⟩
        | false =>
          have hG3 : Hid (grps cs = gs ++ grpA (byN cs) (N ++ [x]) ((opsL cs).drop (i + 1))) := qh (by
            rw [hG2, grpA, if_neg hno, hy.out, if_neg (by rw [hs]; simp)])
          have hs2 : endN y = false ∧ y ≠ 86 ∧ y ≠ 87 := by
            unfold stopN at hs
            simp at hs
            exact ⟨hs.1.1, hs.1.2, hs.2⟩
          clear hG2 hG hno hs
          obtain ⟨he, h86, h87⟩ := hs2
          rw [he] at hend
          have h86I : ((y : Int) == 86) = false := by simp; omega
          have h87I : ((y : Int) == 87) = false := by simp; omega
          clear he h91 h91J h86 h87
          have hqa : N.length + 1 ≤ maxLen := by unfold maxLen; omega
          have hqb : (N.length + 1) * 16 ≤ 140737488355328 := by omega
          go_wp2_with (first
            | (refine wpList_load_mid rfl 81 _ rfl b (o + i * 2) rfl [.int .i64 x, .int .u8 y] _ hr hu rfl (by kernel_rfl) ?_)
            | (refine wpList_store_blkG rfl 81 _ _ rfl wr.heap.size rfl 81 [.int .i64 0, .int .u8 0] [.int .i64 x, .int .u8 y] (BlkG.new wr _ _) rfl rfl (by kernel_rfl) rfl ?_; intro w3 hX3 ho3; have hb3 := ho3.below (xalloc (xrefl wr) _) (by rw [World.size_alloc]; omega) (by rintro k rfl; exact Nat.le_refl _); have hM3 := qh (hM.out.below hb3); have hcy := hX3.cell 1 (by show 1 < 2; omega); simp only [List.getElem_cons_zero, List.getElem_cons_succ] at hcy; replace hX3 := qh hX3; obtain ⟨a4, c4, hv4⟩ := own_sliceV hM3.out.own; subst hv4; have hcb := hM3.out.box.cell; have hM4 := qh hM3.out; have hX4 := qh hX3.out; clear hM3 hX3; clear ho3 hb3 hM)
            | (refine wpList_load_blkG rfl 81 _ rfl wr.heap.size rfl 81 _ _ hX4.out hu rfl (by kernel_rfl) ?_)
            | (at_builtin; refine wpList_append_vals (w3.alloc (.cells #[.int .i64 x, .int .u8 y] 81)) rfl _ _ 71 rfl M 81 i0 (.agg #[.int .i64 0, .int .u8 0]) 2 16 Tryz.underlying71 hi0 hz0 hzs1 hzs2 rfl (by decide) (.slice a4 N.length c4) N.length _ rfl (hM4.out.own.alloc _) (some ⟨w3.heap.size, 0, none⟩) 1 1 [.int .i64 x, .int .u8 y] rfl (by simp) rfl (rowV_new w3 81 [.int .i64 x, .int .u8 y]) (by simp [Value.oneCell']) hqa hqb (by rw [World.size_alloc]; exact Nat.le_succ_of_le hM4.out.m2) ?_; intro V5 W5 o5 hg5; obtain ⟨a5, c5, hV5⟩ := own_sliceV o5; subst hV5; have hM6 := qh (hM4.out.push (x := x) (xalloc (xrefl _) _) hg5 (by rw [hopC.out]; exact o5)); have hB5 := hM4.out.boxAt (xalloc (xrefl _) _) hg5; have hc5 := hB5.cell; have hf5 := hB5.free; have hX6 := qh (((hX4.out.alloc _).only (only_grown hg5) (fun e => by have h8 := hown e; omega)).oth (c := w1.heap.size + 1 + 1) (i := 0) (.slice a5 (N.length + 1) c5) (by omega)); have hcy6 := hX6.out.cell 1 (by show 1 < 2; omega); simp only [List.getElem_cons_zero, List.getElem_cons_succ] at hcy6; clear hg5 o5 hB5)
            | (go_at_call 73; refine (hend.out _).mono ?_; rintro e w7 ⟨rfl, hb7⟩; have hM7 := qh (hM6.out.below hb7); have hX7 := hX6.out.below hb7; have hcy7 := hX7.cell 1 (by show 1 < 2; omega); simp only [List.getElem_cons_zero, List.getElem_cons_succ] at hcy7; clear hX7 hb7 hM6))
          exact ⟨⟨i + 1, (N ++ [x]), gs, _, _, _, _, by omega, by go_num, by first | omega | (simp; done) | (simp; omega), by first | omega | (simp; done) | (simp; omega), hG3, hM7⟩, by simp [intOf]; omega⟩
    · obtain rfl : i = (opsL cs).length := by omega
      rw [List.drop_length] at hG
      clear hlt
      by_cases hN : N = []
      · subst hN
        have hgs : grps cs = gs := by rw [hG.out, grpA, if_pos rfl, List.append_nil]
        replace hgs := qh hgs
        go_wp2_with (go_at_call 72; refine hM.out.callNone.mono ?_; rintro e w8 ⟨rfl, ⟨v8, vb8, gv8, M8, hM8⟩, -⟩; have hcx := hM8.xbox.cell; replace hM8 := qh hM8)
        go_ret
        have hM9 := hM8.out
        rw [← hgs.out] at hM9
        exact ⟨⟨_, rfl, hM9.made, hz1⟩, xtrans hb1.out hM9.bel⟩
      · have hgs : grps cs = gs ++ [N] := by rw [hG.out, grpA, if_neg hN]
        have hN0 := qh hN
        replace hgs := qh hgs
        have hgl2 := hgl.out
        clear hN
        go_wp2_with (go_at_call 72; refine (hM.out.callEnd hN0.out (by omega)).mono ?_; rintro e w8 ⟨rfl, ⟨v8, vb8, gv8, M8, hM8⟩, -⟩; have hcx := hM8.xbox.cell; replace hM8 := qh hM8)
        go_ret
        have hM9 := hM8.out
        rw [← hgs.out] at hM9
        exact ⟨⟨_, rfl, hM9.made, hz1⟩, xtrans hb1.out hM9.bel⟩
end Go.Proofs.YtijkdabmegbcjaaGreatDoor
