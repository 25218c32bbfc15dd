/- Texts of this claim, merged; no condition. -/
import Derived.Test.YtijkdabmegbcjaaGreatDoorT26
import Derived.Test.YtijkdabmegbcjaaGreatDoorT18
import Derived.Test.YtijkdabmegbcjaaGreatDoorTA
set_option linter.all false
namespace Go.Proofs.YtijkdabmegbcjaaGreatDoor
section
open Go.RowKit Go.Shelf
def IntsB (r : List Nat × Bool) (w w' : World) (e : Ending) : Prop := (∃ p q, e = .returned (.tuple #[.slice p r.1.length q, .bool r.2]) ∧ IntsAt w' p q r.1) ∧ Below w.heap.size w w'
theorem intsB_nil {b : Bool} {w w' : World} (hb : Below w.heap.size w w') : IntsB ([], b) w w' (.returned (.tuple #[.slice none 0 0, .bool b])) := ⟨⟨none, 0, rfl, intsAt_nil _⟩, hb⟩
theorem intsAt_one (w : World) (n : Nat) : IntsAt (w.alloc (.cells #[.int .i64 n] 3)) (some ⟨w.heap.size, 0, none⟩) 1 [n] := ⟨rowAt_new w 3 [(n : Int)], by simp⟩
set_option maxRecDepth 100000 in
set_option maxHeartbeats 4000000 in
theorem jumps_any (cs g : List Nat) (a po p : Option Addr) (c qo q : Nat) (w : World) (h : CodeAt w a c cs) (hg : OpsAt w p q cs g) (h0 : g ≠ []) (hgl : g.length ≤ 200) (hgc : ∀ x ∈ g, x < cs.length) :
    Calls Tryz.prog 74 #[.agg #[.slice a cs.length c, .slice po (opsL cs).length qo], .slice p g.length q] w fun e w' => IntsB (tosJ cs g) w w' e := by
  have hlen := h.len
  have hX0 : Hid (BlkG (w.alloc (.cells #[.slice a cs.length c, .slice po (opsL cs).length qo] 73)) w.heap.size 73 [.slice a cs.length c, .slice po (opsL cs).length qo]) := qh (BlkG.new w _ [.slice a cs.length c, .slice po (opsL cs).length qo])
  have hb0 : Hid (Below w.heap.size w (w.alloc (.cells #[.slice a cs.length c, .slice po (opsL cs).length qo] 73))) := qh (xalloc (xrefl w) _)
  have hut := Tryz.underlying73
  have huw := Tryz.underlying32
  obtain ⟨n1, hn1⟩ : ∃ n1, g.length = n1 + 1 := ⟨g.length - 1, by have := List.length_pos_iff.2 h0; omega⟩
  have hfix0 := fun W (hW : Below w.heap.size w W) => fixedT_any cs g a po p c (opsL cs).length qo q W (h.below hW) (hg.below hW) h0 hgl hgc
  have hfl := @fixG_lt cs h.ok g
  obtain ⟨b, o, rfl, hr⟩ := hg.elt n1 (by omega)
  rw [← lst_at hn1] at hr
  have hc1 := cbel hb0.out (hr 1 _ rfl)
  have hn2 : n1 ≤ 199 := by omega
  have hml := List.length_filter_le (fun i => byN cs i == 91) (opsL cs)
  rw [hn1] at hfix0 ⊢
  have hmarks := qh fun W (hW : Below w.heap.size w W) => marks_any cs a c W (h.below hW)
  have hmark := qh fun N W (hW : Below w.heap.size w W) hN => mark_any cs N a c W (h.below hW) hN
  by_cases hj : byN cs (lstN g) = 86 ∨ byN cs (lstN g) = 87
  · have hT : tosJ cs g = match fixG cs g with | none => (marksL cs, true) | some n => if markN cs n then ([n], false) else ([], true) := by
      unfold tosJ
      rw [if_neg (by omega)]
      cases fixG cs g <;> rfl
    rw [hT]
    have hj2 : (byN cs (lstN g) = 86) ∨ (byN cs (lstN g) ≠ 86 ∧ byN cs (lstN g) = 87) := by omega
    generalize byN cs (lstN g) = y at *
    have hy : ((y : Int) != 86) = false ∨ (((y : Int) != 86) = true ∧ ((y : Int) != 87) = false) := by
      rcases hj2 with e | ⟨e1, e⟩
      · left; simp; omega
      · right; constructor <;> (simp; omega)
    clear hT hj hj2 hg hr h0 hgc hn1 hgl
    cases hF : fixG cs g with
    | none =>
      rw [hF] at hfix0
      have hfix := qh hfix0
      clear hfix0 hF hfl hmark
      simp only [optV, Option.getD_none, wordV_L, Option.isSome_none] at hfix
      rcases hy with hy1 | ⟨hy1, hy2⟩
      all_goals
        go_enter Tryz.func74, Tryz.ntmps74
        go_wp2_with (first
          | (refine wpList_load_blkG rfl 73 _ rfl w.heap.size rfl 73 _ _ hX0.out hut rfl (by kernel_rfl) ?_)
          | (go_at_call 50; refine (hfix.out _ hb0.out).mono ?_; rintro e w1 ⟨rfl, hb1⟩; have hX1 := qh (hX0.out.below hb1); replace hb1 := qh (xtrans hb0.out hb1); clear hfix)
          | (refine wpList_store_blkG rfl 32 _ _ rfl w1.heap.size rfl 32 [.int .u64 0, .int .u64 0, .int .u64 0, .int .u64 0] ((wordL 0).map (Value.int .u64)) (BlkG.new w1 _ _) rfl rfl (by kernel_rfl) rfl ?_; intro w2 hW2 ho2; have hb2 := ho2.below (xalloc (xrefl w1) _) (by rw [World.size_alloc]; omega) (by rintro k rfl; exact Nat.le_refl _); have hx2 := (hX1.out.below hb2).cell 0 (by show 0 < 2; omega); simp only [List.getElem_cons_zero] at hx2; replace hb2 := qh (xtrans hb1.out hb2); clear hW2 ho2)
          | (go_at_call 109; refine (hmarks.out _ hb2.out).mono ?_; rintro e w3 ⟨⟨v, rfl, hv⟩, hb3⟩; obtain ⟨p3, q3, rfl, hI3, -⟩ := hv.at; replace hI3 := qh hI3; replace hb3 := qh (xtrans hb2.out hb3); clear hv))
        go_ret2
        exact ⟨⟨_, _, rfl, hI3.out⟩, hb3.out⟩
    | some N =>
      rw [hF] at hfix0
      have hN := hfl hF
      have hsm := fun W => small_any N W hN
      have hmk0 := fun W hW => hmark.out N W hW hN
      clear hmark hmarks hfl hF
      simp only [optV, Option.getD_some, wordV_L, Option.isSome_some] at hfix0 hsm hmk0
      have hfix := qh hfix0
      clear hfix0
      generalize hL : (wordL N).map (Value.int .u64) = L at *
      have hLl : Hid (L.length = 4) := qh (by rw [← hL]; rfl)
      have hLo : Hid (L.all (·.oneCell') = true) := qh (by rw [← hL]; rfl)
      replace hL := qh hL
      cases hm : markN cs N with
      | true =>
        have hNl : N < cs.length := by unfold markN at hm; simp at hm; exact hm.1
        have e : smallN N = (N, true) := by unfold smallN; rw [if_pos (by omega)]
        rw [e] at hsm
        rw [hm] at hmk0
        rw [show (match (some N : Option Nat) with | none => (marksL cs, true) | some n => if markN cs n = true then ([n], false) else ([], true)) = ([N], false) by simp [hm]]
        have hw2 : wrap64 (N : Int) = N := wrap64_small' N (by omega)
        replace hsm := qh hsm
        have hmk := qh hmk0
        clear hmk0 hm e hN
        rcases hy with hy1 | ⟨hy1, hy2⟩
        all_goals
          go_enter Tryz.func74, Tryz.ntmps74
          go_wp2_with (first
            | (refine wpList_load_blkG rfl 73 _ rfl w.heap.size rfl 73 _ _ hX0.out hut rfl (by kernel_rfl) ?_)
            | (go_at_call 50; refine (hfix.out _ hb0.out).mono ?_; rintro e w1 ⟨rfl, hb1⟩; have hX1 := qh (hX0.out.below hb1); replace hb1 := qh (xtrans hb0.out hb1); clear hfix)
            | (refine wpList_store_blkG rfl 32 _ _ rfl w1.heap.size rfl 32 [.int .u64 0, .int .u64 0, .int .u64 0, .int .u64 0] L (BlkG.new w1 _ _) rfl hLl.out (by rw [hLl.out]; kernel_rfl) hLo.out ?_; intro w2 hW2 ho2; have hb2 := ho2.below (xalloc (xrefl w1) _) (by rw [World.size_alloc]; omega) (by rintro k rfl; exact Nat.le_refl _); have hX2 := qh (hX1.out.below hb2); replace hb2 := qh (xtrans hb1.out hb2); replace hW2 := qh hW2; clear ho2)
            | (refine wpList_load_blkG rfl 32 _ rfl w1.heap.size rfl 32 L _ hW2.out huw rfl (by rw [hLl.out]; kernel_rfl) ?_)
            | (go_at_call 110; refine (hsm.out _).mono ?_; rintro e w3 ⟨rfl, hb3⟩; have hW3 := qh (hW2.out.below hb3); have hx3 := (hX2.out.below hb3).cell 0 (by show 0 < 2; omega); simp only [List.getElem_cons_zero] at hx3; replace hb3 := qh (xtrans hb2.out hb3); clear hsm)
            | (refine wpList_load_blkG rfl 32 _ rfl w1.heap.size rfl 32 L _ hW3.out huw rfl (by rw [hLl.out]; kernel_rfl) ?_)
            | (go_at_call 111; refine (hmk.out _ hb3.out).mono ?_; rintro e w4 ⟨rfl, hb4⟩; replace hb4 := qh (xtrans hb3.out hb4)))
          go_ret2
          exact ⟨⟨_, _, rfl, intsAt_one _ _⟩, xalloc hb4.out _⟩
      | false =>
        generalize smallN N = sm at *
        rw [hm] at hmk0
        rw [show (match (some N : Option Nat) with | none => (marksL cs, true) | some n => if markN cs n = true then ([n], false) else ([], true)) = ([], true) by simp [hm]]
        replace hsm := qh hsm
        have hmk := qh hmk0
        clear hmk0 hm hN
        rcases hy with hy1 | ⟨hy1, hy2⟩
        all_goals
          go_enter Tryz.func74, Tryz.ntmps74
          go_wp2_with (first
            | (refine wpList_load_blkG rfl 73 _ rfl w.heap.size rfl 73 _ _ hX0.out hut rfl (by kernel_rfl) ?_)
            | (go_at_call 50; refine (hfix.out _ hb0.out).mono ?_; rintro e w1 ⟨rfl, hb1⟩; have hX1 := qh (hX0.out.below hb1); replace hb1 := qh (xtrans hb0.out hb1); clear hfix)
            | (refine wpList_store_blkG rfl 32 _ _ rfl w1.heap.size rfl 32 [.int .u64 0, .int .u64 0, .int .u64 0, .int .u64 0] L (BlkG.new w1 _ _) rfl hLl.out (by rw [hLl.out]; kernel_rfl) hLo.out ?_; intro w2 hW2 ho2; have hb2 := ho2.below (xalloc (xrefl w1) _) (by rw [World.size_alloc]; omega) (by rintro k rfl; exact Nat.le_refl _); have hX2 := qh (hX1.out.below hb2); replace hb2 := qh (xtrans hb1.out hb2); replace hW2 := qh hW2; clear ho2)
            | (refine wpList_load_blkG rfl 32 _ rfl w1.heap.size rfl 32 L _ hW2.out huw rfl (by rw [hLl.out]; kernel_rfl) ?_)
            | (go_at_call 110; refine (hsm.out _).mono ?_; rintro e w3 ⟨rfl, hb3⟩; have hW3 := qh (hW2.out.below hb3); have hx3 := (hX2.out.below hb3).cell 0 (by show 0 < 2; omega); simp only [List.getElem_cons_zero] at hx3; replace hb3 := qh (xtrans hb2.out hb3); clear hsm)
            | (refine wpList_load_blkG rfl 32 _ rfl w1.heap.size rfl 32 L _ hW3.out huw rfl (by rw [hLl.out]; kernel_rfl) ?_)
            | (go_at_call 111; refine (hmk.out _ hb3.out).mono ?_; rintro e w4 ⟨rfl, hb4⟩; replace hb4 := qh (xtrans hb3.out hb4)))
          go_ret2
          exact intsB_nil hb4.out
  · have hT : tosJ cs g = ([], false) := by
      unfold tosJ
      rw [if_pos (by omega)]
    rw [hT]
    generalize byN cs (lstN g) = y at *
    have hy1 : ((y : Int) != 86) = true := by simp; omega
    have hy2 : ((y : Int) != 87) = true := by simp; omega
    clear hT hj hg hr h0 hgc hn1 hgl hfix0 hfl hmark hmarks
    go_enter Tryz.func74, Tryz.ntmps74
    go_wp2
    go_ret2
    exact intsB_nil hb0.out
set_option maxRecDepth 100000 in
set_option maxHeartbeats 4000000 in
theorem falls_any (cs g : List Nat) (a po p : Option Addr) (c qo q : Nat) (w : World) (h : CodeAt w a c cs) (hO : OpsAt w po qo cs (opsL cs)) (hg : OpsAt w p q cs g) (hgs : g ∈ grps cs) (hgl : g.length ≤ 200) :
    Calls Tryz.prog 75 #[.agg #[.slice a cs.length c, .slice po (opsL cs).length qo], .slice p g.length q] w fun e w' => IntsB (tosF cs g) w w' e := by
  have hlen := h.len
  have hol := opsL_len cs
  have h0 := grps_ne hgs
  have hX0 : Hid (BlkG (w.alloc (.cells #[.slice a cs.length c, .slice po (opsL cs).length qo] 73)) w.heap.size 73 [.slice a cs.length c, .slice po (opsL cs).length qo]) := qh (BlkG.new w _ [.slice a cs.length c, .slice po (opsL cs).length qo])
  have hb0 : Hid (Below w.heap.size w (w.alloc (.cells #[.slice a cs.length c, .slice po (opsL cs).length qo] 73))) := qh (xalloc (xrefl w) _)
  have hut := Tryz.underlying73
  have huo := Tryz.underlying81
  obtain ⟨n1, hn1⟩ : ∃ n1, g.length = n1 + 1 := ⟨g.length - 1, by have := List.length_pos_iff.2 h0; omega⟩
  obtain ⟨k, hk, hkx⟩ := List.getElem_of_mem (grps_mem hgs (lst_mem h0))
  obtain ⟨b, o, rfl, hr⟩ := hg.elt n1 (by omega)
  rw [← lst_at hn1] at hr
  have hr0 : ((w.alloc (.cells #[.slice a cs.length c, .slice po (opsL cs).length qo] 73))).rangeAt b (o + n1 * 2) [.int .i64 (lstN g), .int .u8 (byN cs (lstN g))] := rangeAt_below hr hb0.out
  have h256 := byN_lt h.ok (lstN g)
  have hidx : ∀ W, Below w.heap.size w W → Calls Tryz.prog 112 #[.slice po (opsL cs).length qo, .agg #[.int .i64 (lstN g), .int .u8 (byN cs (lstN g))]] W fun e w' => e = .returned (.int .i64 k) ∧ Below W.heap.size W w' := fun W hW => by
    have := index_any cs (opsL cs) k hk po qo W (hO.below hW) (opsL_sl cs) (by omega)
    rwa [hkx] at this
  have hend := qh fun W => ended_any (byN cs (lstN g)) W h256
  have hn2 : n1 ≤ 199 := by omega
  have hnx : Hid (k + 1 < (opsL cs).length → nxN cs (lstN g) < cs.length ∧ ∃ b' o', po = some ⟨b', o', none⟩ ∧ w.cell? ⟨b', o' + (k + 1) * 2, none⟩ = some (.int .i64 (nxN cs (lstN g)))) := qh fun hk1 => by
    obtain ⟨e1, e2⟩ := opsL_next hk1
    rw [hkx] at e1 e2
    obtain ⟨b', o', e3, hr3⟩ := hO.elt (k + 1) hk1
    rw [e1] at hr3
    exact ⟨e2, b', o', e3, hr3 0 _ rfl⟩
  have hla : Hid (k + 1 = (opsL cs).length → cs.length ≤ nxN cs (lstN g)) := qh fun hk1 => by
    have := opsL_last hk1
    rwa [hkx] at this
  have hT : Hid (tosF cs g = if byN cs (lstN g) = 86 then ([], false) else if endN (byN cs (lstN g)) = true ∨ cs.length ≤ nxN cs (lstN g) then ([], true) else ([nxN cs (lstN g)], false)) := qh rfl
  replace hidx := qh hidx
  rw [hn1]
  generalize hTT : tosF cs g = T at *
  generalize nxN cs (lstN g) = nx at *
  generalize byN cs (lstN g) = y at *
  generalize lstN g = x at *
  replace hTT := qh hTT
  clear hr hO hg hgs h0 hkx
  have hk200 : k ≤ 199 := by omega
  by_cases h86 : y = 86
  · have hTv := hT.out
    rw [if_pos h86] at hTv
    subst hTv
    have hy : ((y : Int) == 86) = true := by simp; omega
    clear h86 hn1
    go_enter Tryz.func75, Tryz.ntmps75
    go_wp2_with (first
      | (refine wpList_load_mid rfl 81 _ rfl b (o + n1 * 2) rfl [.int .i64 x, .int .u8 y] _ hr0 huo rfl (by kernel_rfl) ?_)
      | (refine wpList_store_blkG rfl 81 _ _ rfl (w.heap.size + 1) rfl 81 [.int .i64 0, .int .u8 0] [.int .i64 x, .int .u8 y] (by have := BlkG.new (w.alloc (.cells #[.slice a cs.length c, .slice po (opsL cs).length qo] 73)) 81 [.int .i64 0, .int .u8 0]; rw [World.size_alloc] at this; exact this) rfl rfl (by kernel_rfl) rfl ?_; intro w2 hW2 ho2; have hX2 := qh ((hX0.out.alloc _).only ho2 (by omega)); have hb2 := qh (ho2.below (xalloc hb0.out _) (by simp only [World.size_alloc]; omega) (by rintro k rfl; omega)); have hy1 := hW2.cell 1 (by show 1 < 2; omega); simp only [List.getElem_cons_zero, List.getElem_cons_succ] at hy1; have hx1 := hX2.out.cell 1 (by show 1 < 2; omega); simp only [List.getElem_cons_zero, List.getElem_cons_succ] at hx1; replace hW2 := qh hW2; clear ho2)
      | (refine wpList_load_blkG rfl 81 _ rfl (w.heap.size + 1) rfl 81 _ _ hW2.out huo rfl (by kernel_rfl) ?_)
      | (go_at_call 112; refine (hidx.out _ hb2.out).mono ?_; rintro e w3 ⟨rfl, hb3⟩; have hy3 := (hW2.out.below hb3).cell 1 (by show 1 < 2; omega); simp only [List.getElem_cons_zero, List.getElem_cons_succ] at hy3; have hX3 := qh (hX2.out.below hb3); replace hb3 := qh (xtrans hb2.out hb3); clear hidx hy1 hx1)
      | (go_at_call 73; refine (hend.out _).mono ?_; rintro e w4 ⟨rfl, hb4⟩; have hx4 := (hX3.out.below hb4).cell 1 (by show 1 < 2; omega); simp only [List.getElem_cons_zero, List.getElem_cons_succ] at hx4; replace hb4 := qh (xtrans hb3.out hb4); (try have hcn4 := (hb4.out.cell (p := ⟨b', o' + (k + 1) * 2, none⟩) (cell_lt hcn.out)).trans hcn.out)))
    go_ret2
    exact intsB_nil hb2.out
  · have hy : ((y : Int) == 86) = false := by simp; omega
    have hT2 := hT.out
    rw [if_neg h86] at hT2
    replace hT2 := qh hT2
    clear h86 hn1 hT
    cases he : endN y with
    | true =>
      have hTv := hT2.out
      rw [if_pos (.inl he)] at hTv
      subst hTv
      rw [he] at hend
      clear he hT2
      go_enter Tryz.func75, Tryz.ntmps75
      go_wp2_with (first
      | (refine wpList_load_mid rfl 81 _ rfl b (o + n1 * 2) rfl [.int .i64 x, .int .u8 y] _ hr0 huo rfl (by kernel_rfl) ?_)
      | (refine wpList_store_blkG rfl 81 _ _ rfl (w.heap.size + 1) rfl 81 [.int .i64 0, .int .u8 0] [.int .i64 x, .int .u8 y] (by have := BlkG.new (w.alloc (.cells #[.slice a cs.length c, .slice po (opsL cs).length qo] 73)) 81 [.int .i64 0, .int .u8 0]; rw [World.size_alloc] at this; exact this) rfl rfl (by kernel_rfl) rfl ?_; intro w2 hW2 ho2; have hX2 := qh ((hX0.out.alloc _).only ho2 (by omega)); have hb2 := qh (ho2.below (xalloc hb0.out _) (by simp only [World.size_alloc]; omega) (by rintro k rfl; omega)); have hy1 := hW2.cell 1 (by show 1 < 2; omega); simp only [List.getElem_cons_zero, List.getElem_cons_succ] at hy1; have hx1 := hX2.out.cell 1 (by show 1 < 2; omega); simp only [List.getElem_cons_zero, List.getElem_cons_succ] at hx1; replace hW2 := qh hW2; clear ho2)
      | (refine wpList_load_blkG rfl 81 _ rfl (w.heap.size + 1) rfl 81 _ _ hW2.out huo rfl (by kernel_rfl) ?_)
      | (go_at_call 112; refine (hidx.out _ hb2.out).mono ?_; rintro e w3 ⟨rfl, hb3⟩; have hy3 := (hW2.out.below hb3).cell 1 (by show 1 < 2; omega); simp only [List.getElem_cons_zero, List.getElem_cons_succ] at hy3; have hX3 := qh (hX2.out.below hb3); replace hb3 := qh (xtrans hb2.out hb3); clear hidx hy1 hx1)
      | (go_at_call 73; refine (hend.out _).mono ?_; rintro e w4 ⟨rfl, hb4⟩; have hx4 := (hX3.out.below hb4).cell 1 (by show 1 < 2; omega); simp only [List.getElem_cons_zero, List.getElem_cons_succ] at hx4; replace hb4 := qh (xtrans hb3.out hb4); (try have hcn4 := (hb4.out.cell (p := ⟨b', o' + (k + 1) * 2, none⟩) (cell_lt hcn.out)).trans hcn.out)))
      go_ret2
      exact intsB_nil hb4.out
    | false =>
      rw [he] at hend
      by_cases hk1 : k + 1 = (opsL cs).length
      · have hTv := hT2.out
        rw [if_pos (.inr (hla.out hk1))] at hTv
        subst hTv
        have hkI : ((k : Int) + 1 == ((opsL cs).length : Int)) = true := by simp; omega
        clear he hT2 hk1
        go_enter Tryz.func75, Tryz.ntmps75
        go_wp2_with (first
      | (refine wpList_load_mid rfl 81 _ rfl b (o + n1 * 2) rfl [.int .i64 x, .int .u8 y] _ hr0 huo rfl (by kernel_rfl) ?_)
      | (refine wpList_store_blkG rfl 81 _ _ rfl (w.heap.size + 1) rfl 81 [.int .i64 0, .int .u8 0] [.int .i64 x, .int .u8 y] (by have := BlkG.new (w.alloc (.cells #[.slice a cs.length c, .slice po (opsL cs).length qo] 73)) 81 [.int .i64 0, .int .u8 0]; rw [World.size_alloc] at this; exact this) rfl rfl (by kernel_rfl) rfl ?_; intro w2 hW2 ho2; have hX2 := qh ((hX0.out.alloc _).only ho2 (by omega)); have hb2 := qh (ho2.below (xalloc hb0.out _) (by simp only [World.size_alloc]; omega) (by rintro k rfl; omega)); have hy1 := hW2.cell 1 (by show 1 < 2; omega); simp only [List.getElem_cons_zero, List.getElem_cons_succ] at hy1; have hx1 := hX2.out.cell 1 (by show 1 < 2; omega); simp only [List.getElem_cons_zero, List.getElem_cons_succ] at hx1; replace hW2 := qh hW2; clear ho2)
      | (refine wpList_load_blkG rfl 81 _ rfl (w.heap.size + 1) rfl 81 _ _ hW2.out huo rfl (by kernel_rfl) ?_)
      | (go_at_call 112; refine (hidx.out _ hb2.out).mono ?_; rintro e w3 ⟨rfl, hb3⟩; have hy3 := (hW2.out.below hb3).cell 1 (by show 1 < 2; omega); simp only [List.getElem_cons_zero, List.getElem_cons_succ] at hy3; have hX3 := qh (hX2.out.below hb3); replace hb3 := qh (xtrans hb2.out hb3); clear hidx hy1 hx1)
      | (go_at_call 73; refine (hend.out _).mono ?_; rintro e w4 ⟨rfl, hb4⟩; have hx4 := (hX3.out.below hb4).cell 1 (by show 1 < 2; omega); simp only [List.getElem_cons_zero, List.getElem_cons_succ] at hx4; replace hb4 := qh (xtrans hb3.out hb4); (try have hcn4 := (hb4.out.cell (p := ⟨b', o' + (k + 1) * 2, none⟩) (cell_lt hcn.out)).trans hcn.out)))
        go_ret2
        exact intsB_nil hb4.out
      · obtain ⟨hnl, b', o', rfl, hcn⟩ := hnx.out (by omega)
        have hTv := hT2.out
        rw [if_neg (by rw [he]; simp; omega)] at hTv
        subst hTv
        have hkI : ((k : Int) + 1 == ((opsL cs).length : Int)) = false := by simp; omega
        have hkL : (k : Int) + 1 < (opsL cs).length := by omega
        replace hcn := qh hcn
        clear he hT2 hk1
        go_enter Tryz.func75, Tryz.ntmps75
        go_wp2_with (first
      | (refine wpList_load_mid rfl 81 _ rfl b (o + n1 * 2) rfl [.int .i64 x, .int .u8 y] _ hr0 huo rfl (by kernel_rfl) ?_)
      | (refine wpList_store_blkG rfl 81 _ _ rfl (w.heap.size + 1) rfl 81 [.int .i64 0, .int .u8 0] [.int .i64 x, .int .u8 y] (by have := BlkG.new (w.alloc (.cells #[.slice a cs.length c, .slice (some ⟨b', o', none⟩) (opsL cs).length qo] 73)) 81 [.int .i64 0, .int .u8 0]; rw [World.size_alloc] at this; exact this) rfl rfl (by kernel_rfl) rfl ?_; intro w2 hW2 ho2; have hX2 := qh ((hX0.out.alloc _).only ho2 (by omega)); have hb2 := qh (ho2.below (xalloc hb0.out _) (by simp only [World.size_alloc]; omega) (by rintro k rfl; omega)); have hy1 := hW2.cell 1 (by show 1 < 2; omega); simp only [List.getElem_cons_zero, List.getElem_cons_succ] at hy1; have hx1 := hX2.out.cell 1 (by show 1 < 2; omega); simp only [List.getElem_cons_zero, List.getElem_cons_succ] at hx1; replace hW2 := qh hW2; clear ho2)
      | (refine wpList_load_blkG rfl 81 _ rfl (w.heap.size + 1) rfl 81 _ _ hW2.out huo rfl (by kernel_rfl) ?_)
      | (go_at_call 112; refine (hidx.out _ hb2.out).mono ?_; rintro e w3 ⟨rfl, hb3⟩; have hy3 := (hW2.out.below hb3).cell 1 (by show 1 < 2; omega); simp only [List.getElem_cons_zero, List.getElem_cons_succ] at hy3; have hX3 := qh (hX2.out.below hb3); replace hb3 := qh (xtrans hb2.out hb3); clear hidx hy1 hx1)
      | (go_at_call 73; refine (hend.out _).mono ?_; rintro e w4 ⟨rfl, hb4⟩; have hx4 := (hX3.out.below hb4).cell 1 (by show 1 < 2; omega); simp only [List.getElem_cons_zero, List.getElem_cons_succ] at hx4; replace hb4 := qh (xtrans hb3.out hb4); (try have hcn4 := (hb4.out.cell (p := ⟨b', o' + (k + 1) * 2, none⟩) (cell_lt hcn.out)).trans hcn.out)))
        go_ret2
        exact ⟨⟨_, _, rfl, intsAt_one _ _⟩, xalloc hb4.out _⟩
end
section
open Go.RowKit Go.Shelf
theorem int_ext : ∀ {a b : List Int}, a.Pairwise (· < ·) → b.Pairwise (· < ·) → (∀ x, x ∈ a ↔ x ∈ b) → a = b
  | [], [], _, _, _ => rfl
  | [], y :: b, _, _, h => absurd ((h y).2 (by simp)) (by simp)
  | x :: a, [], _, _, h => absurd ((h x).1 (by simp)) (by simp)
  | x :: a, y :: b, ha, hb, h => by
    have ha' := List.pairwise_cons.1 ha
    have hb' := List.pairwise_cons.1 hb
    have e : x = y := by
      rcases List.mem_cons.1 ((h x).1 (by simp)) with e | e
      · exact e
      · rcases List.mem_cons.1 ((h y).2 (by simp)) with e2 | e2
        · exact e2.symm
        · have := hb'.1 x e
          have := ha'.1 y e2
          omega
    subst e
    rw [int_ext ha'.2 hb'.2 fun z => ?_]
    constructor
    · intro hz
      rcases List.mem_cons.1 ((h z).1 (by simp [hz])) with e | e
      · have := ha'.1 z hz; omega
      · exact e
    · intro hz
      rcases List.mem_cons.1 ((h z).2 (by simp [hz])) with e | e
      · have := hb'.1 z hz; omega
      · exact e
theorem natI_sl {l : List Nat} (h : SL l) : (natI l).Pairwise (· < ·) := by
  unfold natI
  rw [List.pairwise_map]
  exact h.imp fun hab => by omega
theorem mem_natI {l : List Nat} {z : Int} : z ∈ natI l ↔ ∃ n ∈ l, (n : Int) = z := by
  unfold natI; rw [List.mem_map]
theorem sort_nat {xs : List Int} {K : List Nat} (h : xs.Perm (natI K)) (hn : K.Nodup) : (xs.mergeSort fun x y => decide (x ≤ y)) = natI (setL K) := by
  have hp : (xs.mergeSort fun x y => decide (x ≤ y)).Perm (natI K) := (List.mergeSort_perm xs _).trans h
  have hs := List.pairwise_mergeSort (le := fun x y : Int => decide (x ≤ y)) (by intro a b c h1 h2; simp at *; omega) (by intro a b; simp; omega) xs
  have hnd : (xs.mergeSort fun x y => decide (x ≤ y)).Nodup := hp.nodup_iff.2 (by
    unfold natI
    exact List.Pairwise.map _ (fun a b hab e => hab (by omega)) hn)
  refine int_ext ?_ (natI_sl (setL_sl K)) fun z => ?_
  · have h2 : (xs.mergeSort fun x y => decide (x ≤ y)).Pairwise (fun x y => decide (x ≤ y) = true ∧ x ≠ y) := hs.and hnd
    exact h2.imp fun hab => by simp at hab; omega
  · rw [hp.mem_iff, mem_natI, mem_natI]
    constructor
    · rintro ⟨n, hn, e⟩; exact ⟨n, (mem_setL _ _).2 hn, e⟩
    · rintro ⟨n, hn, e⟩; exact ⟨n, (mem_setL _ _).1 hn, e⟩
set_option maxRecDepth 100000 in
theorem sortedB_any (l : List (Int × Value)) (K : List Nat) (bm : Nat) (w : World) (hm : w.heap[bm]? = some (mapI .i64 l)) (hK : l.map (·.1) = natI K) (hn : K.Nodup) (hl : K.length ≤ 1000) :
    Calls Tryz.prog 76 #[.map (some bm)] w fun e w' => (∃ v, e = .returned v ∧ OwnI w w' v (setL K)) ∧ Below w.heap.size w w' := by
  have hk := qh (ibkeys_any bm w)
  have hll : l.length = K.length := by have := congrArg List.length hK; simpa [natI] using this
  have hsl : (setL K).length = K.length := by
    have h1 := setL_len K
    have h2 := hn.length_le_of_subset (l₂ := setL K) fun x hx => (mem_setL K x).2 hx
    omega
  have hml : bm < w.heap.size := (Array.getElem?_eq_some_iff.1 hm).1
  have hb0 : Below w.heap.size w (w.alloc (.cells #[.map (some bm)] 95)) := xalloc (xrefl _) _
  have hin : SeqIn 94 #[.pointer (some ⟨w.heap.size, 0, none⟩)] (fun k => k = bm) (fun xs => xs.Perm (l.map (·.1))) (fun pre => ∃ seen : List Nat, seen.Nodup ∧ (∀ j ∈ seen, j < l.length) ∧ pre = ibkeyAt l seen) l.length (w.alloc (.cells #[.map (some bm)] 95)) :=
    ⟨enters_of Tryz.func94 (by kernel_rfl) rfl, fun W hW => ibkeys_seq l _ bm W (cbel hW (Box.new w _ _).cell) ((xtrans hb0 hW).block bm hml |>.trans hm), fun k hk => by rw [hk, World.size_alloc]; omega, by omega⟩
  have hs := qh (insorted_any (w.alloc (.cells #[.map (some bm)] 95)) hin (fun pre ⟨seen, h1, h2, h3⟩ => by rw [h3]; unfold ibkeyAt; rw [List.length_map]; exact seen_le h1 h2) (fun xs hx => by have := hx.length_eq; rw [List.length_map] at this; omega))
  clear hin
  replace hb0 := qh hb0
  go_enter Tryz.func76, Tryz.ntmps76
  go_wp2_with (first
    | (go_at_call 61; refine hk.out.mono ?_; rintro e w' ⟨rfl, rfl⟩)
    | (go_at_call 60; refine hs.out.mono ?_; rintro e w2 ⟨v, xs, rfl, hS, hown, hb2⟩; replace hS := qh hS; replace hown := qh hown; replace hb2 := qh hb2))
  go_ret
  have hp := hS.out
  rw [hK] at hp
  have ho := hown.out
  have hxl : xs.length = (setL K).length := by have := hp.length_eq; rw [natI_len] at this; omega
  rw [sort_nat hp hn, hxl, World.size_alloc] at ho
  exact ⟨⟨_, rfl, own_base ho (by omega)⟩, xtrans hb0.out hb2.out⟩
end
end Go.Proofs.YtijkdabmegbcjaaGreatDoor
