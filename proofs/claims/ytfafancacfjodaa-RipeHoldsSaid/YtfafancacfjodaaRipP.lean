/- The program's digest (layer 24): the digest. -/
import Derived.Test.YtfafancacfjodaaRipO
import Derived.Test.YtfafancacfjodaaCat
namespace Go.Proofs.Ytfafancacfjodaa
open Go.RowKit Go.Shelf
attribute [local go_sem] Oper.semAt_some

def foldMix (pre : List BlkP) : Nat → BitVec 32 := pre.foldl (fun h x => mixR h x.2) begR
theorem foldMix_snoc (pre : List BlkP) (x : BlkP) : foldMix (pre ++ [x]) = mixR (foldMix pre) x.2 := by simp [foldMix]
theorem foldMix_range (pd : List (BitVec 8)) : ∀ n, foldMix ((List.range n).map (blkAt pd)) = sumTo pd n
  | 0 => rfl
  | n + 1 => by
    rw [List.range_succ, List.map_append, List.map_singleton, foldMix_snoc, foldMix_range pd n]
    rfl
def SumI (w : World) (hb : Nat) (O : Nat → Prop) (pre : List BlkP) (W : World) : Prop :=
  Blk .u32 W hb 29 (rowI 5 (foldMix pre)) ∧ Blk .u8 W w.heap.size 24 (List.replicate 20 0) ∧ Below w.heap.size w W ∧ w.heap.size < hb
theorem sumI_stable (w : World) (hb B : Nat) (hB : w.heap.size < B) (hhB : hb < B) : Stable B (SumI w hb) := by
  rintro O O' s W W' ⟨h1, h2, h3, h4⟩ hO hon -
  exact ⟨h1.only hon (fun h => by have := hO _ h; omega), h2.only hon (fun h => by have := hO _ h; omega), hon.below h3 h3.size (fun i h => by have := hO i h; omega), h4⟩

set_option maxRecDepth 100000 in
set_option maxHeartbeats 2000000 in
theorem sum_any (bs : List (BitVec 8)) (sv : Value) (ss : List (Option Addr × Nat × List Int)) (w : World) (hj : joined ss = bs.map iv8) (hl : ss.length < 1000) (hlen : bs.length < 1000000) (hss : ArgsAt w sv ss) :
    Calls Try.prog 9 #[sv] w fun e w' => e = .returned (arrV .u8 (digL (sumF bs))) ∧ Below w.heap.size w w' := by
  have hjl : (joined ss).length = bs.length := by rw [hj]; simp
  have hO := Blk.new (q := .u8) w 24 (List.replicate 20 0)
  have hz := Blk.new' (q := .u32) (w.alloc (Obj.cells ((List.replicate 20 0).map (Value.int .u8)).toArray 24)) (w.heap.size + 1) 29 (List.replicate 5 0) (by simp)
  have hb0 := xalloc (xalloc (xrefl w) (Obj.cells ((List.replicate 20 0).map (Value.int .u8)).toArray 24)) (Obj.cells ((List.replicate 5 0).map (Value.int .u32)).toArray 29)
  obtain ⟨w1, hw1⟩ : ∃ w1, (w.alloc (Obj.cells ((List.replicate 20 0).map (Value.int .u8)).toArray 24)).alloc (Obj.cells ((List.replicate 5 0).map (Value.int .u32)).toArray 29) = w1 := ⟨_, rfl⟩
  rw [hw1] at hz hb0
  have hO1 : Blk .u8 w1 w.heap.size 24 (List.replicate 20 0) := by rw [← hw1]; exact hO.alloc _
  have hs1 : w1.heap.size = w.heap.size + 2 := by rw [← hw1]; simp
  replace hw1 := Lib.hid hw1
  replace hss := Lib.hid hss
  replace hj := Lib.hid hj
  replace hjl := Lib.hid hjl
  clear hO
  refine (callsIn_wide (n := 0)).1 ?_
  refine callsIn_of_wp_marks Try.func9 rfl trivial ?_ rfl
  simp only [Try.ntmps9, List.size_toArray, List.length_cons, List.length_nil, Nat.reduceAdd, Nat.reduceSub, Array.replicate_succ, Array.replicate_zero, List.push_toArray, List.append_toArray, List.nil_append, List.cons_append]
  refine wpIn_wide.2 ?_
  have hz' := hz
  rw [← hw1.out] at hz'
  replace hz' := Lib.hid hz'
  have hbl : (rowI 5 begR).length = 5 := rowI_len _ _
  have hbe : Hid (Value.agg ((rowI 5 begR).map (Value.int .u32)).toArray = .agg #[.int .u32 1732584193, .int .u32 4023233417, .int .u32 2562383102, .int .u32 271733878, .int .u32 3285377520]) := Lib.hid (by kernel_rfl)
  obtain ⟨BG, hBG⟩ : ∃ l, l = rowI 5 begR := ⟨_, rfl⟩
  rw [← hBG] at hbl hbe
  have hinf : (Try.prog.info? 29).map (·.size) = some BG.length := by rw [hbl]; kernel_rfl
  replace hinf := Lib.hid hinf
  replace hbl := Lib.hid hbl
  replace hBG := Lib.hid hBG
  go_upto_region 2 with (refine wpList_store_blk rfl 29 _ _ rfl (w.heap.size + 1) rfl .u32 29 (List.replicate 5 0) BG hz'.out (by rw [hbe.out]; rfl) (by rw [hbl.out]; rfl) hinf.out ?_; intro w2 h2 ho2)
  rw [show (w.alloc (Obj.cells #[.int .u8 0, .int .u8 0, .int .u8 0, .int .u8 0, .int .u8 0, .int .u8 0, .int .u8 0, .int .u8 0, .int .u8 0, .int .u8 0, .int .u8 0, .int .u8 0, .int .u8 0, .int .u8 0, .int .u8 0, .int .u8 0, .int .u8 0, .int .u8 0, .int .u8 0, .int .u8 0] 24)).alloc (Obj.cells #[.int .u32 0, .int .u32 0, .int .u32 0, .int .u32 0, .int .u32 0] 29) = w1 from hw1.out] at ho2
  have hb2 : Below w.heap.size w w2 := ho2.below hb0 hb0.size (by rintro i rfl; omega)
  rw [hBG.out] at h2
  clear hw1 hz' hinf hbl hBG hbe
  go_wp2_with (first
    | (go_at_call 20; refine (concat_args sv ss _ (by omega) (by rw [hjl.out]; omega) (hss.out.below hb2)).mono ?_; rintro e w3 ⟨v, rfl, hown, hb3⟩; obtain ⟨a3, c3, rfl, hr3, hn3, -, -⟩ := rowAt_own hown; rw [hj.out] at hr3; rw [hjl.out])
    | (go_at_call 15; refine (blocks_any bs a3 c3 _ hr3 hn3 hlen).mono ?_; rintro e w4 ⟨bx, pa, pc, rfl, hc4, hr4, hge4, hbx4, hpc, hpc2, hb4⟩))
  have hpm := padL_mod bs
  have hpl := padL_len bs
  have hpn := padN_lt bs.length
  obtain ⟨nb, hnb⟩ : ∃ nb, (padL bs).length = 64 * nb := ⟨(padL bs).length / 64, by omega⟩
  have hnbl : nb < 100000 := by omega
  have hnb0 : 0 < nb := by omega
  obtain ⟨pb, po, rfl, -⟩ := hr4 0 (by simp; omega)
  have hsumF : sumF bs = sumTo (padL bs) nb := by unfold sumF; rw [hnb, Nat.mul_div_cancel_left _ (by decide)]
  generalize hpd : padL bs = pd at hnb hc4 hr4 hpc hsumF
  have hge := hge4 _ rfl
  simp only at hge
  have hs2 := ho2.size
  have hs3 := hb3.size
  have hs4 := hb4.size
  have hpblt : pb < w4.heap.size := by
    obtain ⟨b', o', e1, e2⟩ := hr4 0 (by rw [List.length_map, hnb]; omega)
    cases e1
    exact cell_lt e2
  have hx4 : Below w2.heap.size w2 w4 := xtrans hb3 hb4
  have hbw4 := xtrans hb2 hx4
  have hH4 := h2.below hx4
  have hO4 := (hO1.only ho2 (by omega)).below hx4
  clear hb3 hb4 hr3 hown ho2 h2 hb0 hO1 hz hge4 hb2 hx4
  replace hr4 := Lib.hid hr4
  replace hsumF := Lib.hid hsumF
  replace hpd := Lib.hid hpd
  have h00 : SumI w (w.heap.size + 1) (fun _ => False) [] w4 := ⟨hH4, hO4, hbw4, by omega⟩
  have hst := sumI_stable w (w.heap.size + 1) w4.heap.size (by omega) (by omega)
  refine (wpIn_wide (n := 0)).1 ?_
  refine wp_rangeB (gf := 31) (lb := #[.pointer (some ⟨bx, 0, none⟩)]) rfl (enters_of Try.func31 (by kernel_rfl) rfl) (encs := encB) (Rd := fun k => k = pb)
    (S := fun xs => xs = (List.range nb).map (blkAt pd)) (Sp := fun pre => ∃ k, k ≤ nb ∧ pre = (List.range k).map (blkAt pd)) (N := nb + 1) (inf := false) (fun k h => by omega)
    (fun W1 hb1 => blocks_seq pd bx pb po pc nb W1 hnb hnbl (cbel hb1 hc4) (hr4.out.below hb1) hpc hpc2 (Nat.lt_of_lt_of_le hpblt hb1.size)) (fun x => rfl) (SumI w (w.heap.size + 1)) (fun _ _ _ _ => False) hst (fun _ _ _ _ _ _ h _ _ _ => h) h00 (fun h => by cases h) ?round ?done ?stop
  case round =>
    rintro l1 O pre x W1 hOl hO ⟨h1, h2, h3, h4⟩ hlen
    obtain ⟨at', f⟩ := x
    have hRB : (Try.prog.info? 30).map (·.size) = some (rowI 16 f).length := by rw [rowI_len]; kernel_rfl
    have hmix := fun W => mix24_any (foldMix pre) f W
    rw [← foldMix_snoc pre (at', f)] at hmix
    unfold arrV at hmix
    unfold encB arrV
    dsimp only
    have hRl : (rowI 16 f).length = 16 := rowI_len 16 f
    generalize rowI 16 f = RB at hRB hmix hRl
    replace hRB := Lib.hid hRB
    replace hRl := Lib.hid hRl
    replace hmix := Lib.hid hmix
    have hz := Blk.new (q := .u32) W1 30 (List.replicate 16 0)
    gi_wp2_with (refine wpListIn_store_blk rfl 30 _ _ rfl W1.heap.size rfl .u32 30 (List.replicate 16 0) RB hz rfl (by rw [hRl.out, List.length_replicate]) hRB.out ?_; intro W3 hx3 ho3)
    have hb3 : Below W1.heap.size W1 W3 := ho3.below (xalloc (xrefl W1) _) (by rw [World.size_alloc]; omega) (by rintro i rfl; omega)
    refine ⟨Below.keep hb3, fun W2 hon => ?_⟩
    have hl4 : w4.heap.size ≤ l1 := (hO l1 hOl).1
    have hs3 := hb3.size
    have hH2 := (h1.below hb3).only hon (by omega)
    have hx2 := hx3.only hon (by have := (hO l1 hOl).2; omega)
    have hO2 := (h2.below hb3).only hon (by omega)
    have hlW := (hO l1 hOl).2
    have hb2 : Below w.heap.size w W2 := hon.below (xtrans h3 hb3) (xtrans h3 hb3).size (by rintro i rfl; omega)
    have hOo : ∀ k, (O k ∨ k = pb) → k ≠ w.heap.size + 1 := fun k h => by
      rcases h with h | h
      · have := (hO k h).1; omega
      · omega
    have hOw : ∀ k, O k → k < W1.heap.size := fun k h => (hO k h).2
    generalize hlFa : rowI 5 (foldMix pre) = FA at hH2 hmix
    have hFAl : FA.length = 5 := by rw [← hlFa, rowI_len]
    have hFBl : (rowI 5 (foldMix (pre ++ [(at', f)]))).length = 5 := rowI_len _ _
    have hFA : (Try.prog.info? 29).map (·.size) = some FA.length := by rw [hFAl]; kernel_rfl
    have hFB : (Try.prog.info? 29).map (·.size) = some (rowI 5 (foldMix (pre ++ [(at', f)]))).length := by rw [hFBl]; kernel_rfl
    generalize hFb : rowI 5 (foldMix (pre ++ [(at', f)])) = FB at hmix hFBl hFB
    replace hlFa := Lib.hid hlFa
    replace hFb := Lib.hid hFb
    replace hFA := Lib.hid hFA
    replace hFB := Lib.hid hFB
    replace hFAl := Lib.hid hFAl
    replace hFBl := Lib.hid hFBl
    replace hOo := Lib.hid hOo
    replace hOw := Lib.hid hOw
    clear h1 h2 h3 hz hx3 ho3 hon
    gi_wp2_with (first
      | (refine wpListIn_load_blk rfl 29 _ rfl (w.heap.size + 1) rfl .u32 29 FA _ _ hH2 Try.underlying29 hFA.out ?_)
      | (refine wpListIn_load_blk rfl 30 _ rfl W1.heap.size rfl .u32 30 RB _ _ hx2 Try.underlying30 hRB.out ?_)
      | (refine ⟨trivial, rfl, ?_⟩; gi_at_call 11; refine (CallsIn.inRound l1 (callsIn_wide.2 (hmix.out _))).mono ?_; rintro e W5 ⟨rfl, hb5⟩)
      | (refine wpListIn_store_blk rfl 29 _ _ rfl (w.heap.size + 1) rfl .u32 29 FA FB (hH2.below hb5) rfl (by rw [hFAl.out, hFBl.out]) hFB.out ?_; intro W6 h6 ho6))
    have hs5 := hb5.size
    refine ⟨?_, by rw [hFb.out]; exact h6, (hO2.below hb5).only ho6 (by omega), ho6.below (xtrans hb2 hb5) (xtrans hb2 hb5).size (by rintro i rfl; omega), by omega⟩
    exact (Below.keep hb5).trans ⟨ho6.size, fun k hk h => ho6.same k hk (hOo.out k h)⟩
  case done =>
    rintro D xs O W hD hOD hO rfl ⟨h1, h2, h3, h4⟩ hK
    rw [foldMix_range, ← hsumF.out] at h1
    generalize hsf : sumF bs = H at h1
    replace hsf := Lib.hid hsf
    have hmd := Lib.hid (madeDig_any (w.heap.size + 1) 20 (fun i => iv8 (digF H i)) W (by decide) (fun k hk W' hb' => dig1_any (w.heap.size + 1) k H W' (h1.below hb') hk))
    have hat : ∀ g cap w, (Instr.arrayAt 24 (.slice (some ⟨g, 0, none⟩) 20 cap)).run Try.prog w = .ok (.pointer (some ⟨g, 0, none⟩)) w := fun g cap w => run_arrayAt w 24 _ 20 _ 20 cap Try.underlying24 (by decide)
    have hfin : arrV .u8 (digL (sumF bs)) = .agg ((allL 20 (fun i => iv8 (digF H i))).map (Value.int .u8)).toArray := by rw [hsf.out]; rfl
    have hDl : (allL 20 (fun i => iv8 (digF H i))).length = 20 := allL_len _ _
    generalize allL 20 (fun i => iv8 (digF H i)) = DL at hmd hfin hDl
    have hDI : (Try.prog.info? 24).map (·.size) = some DL.length := by rw [hDl]; kernel_rfl
    replace hDl := Lib.hid hDl
    replace hfin := Lib.hid hfin
    replace hDI := Lib.hid hDI
    replace hK := Lib.hid hK
    replace h1 := Lib.hid h1
    replace h2 := Lib.hid h2
    replace h3 := Lib.hid h3
    go_wp2_with (first
      | (go_at_call 21; refine hmd.out.mono ?_; rintro e w5 ⟨v, rfl, hown, hb5⟩; obtain ⟨g, cap, rfl, hgb, hcap, hrow⟩ := Row.of_own hown (by decide); replace hrow := Lib.hid hrow; have h25 := Lib.hid (h2.out.below hb5); clear hown)
      | (refine wpList_load_rowX rfl 24 _ rfl g rfl .u8 5 DL _ _ hrow.out Try.underlying24 hDI.out ?_)
      | (refine wpList_store_blk rfl 24 _ _ rfl w.heap.size rfl .u8 24 (List.replicate 20 0) DL h25.out rfl (by rw [hDl.out]; rfl) hDI.out ?_; intro W7 h7 ho7))
    have hKl := (Array.getElem?_eq_some_iff.1 hK.out).1
    have hK5 : w5.heap[D]? = some (.deferred (some [])) := (hb5.block D hKl).trans hK.out
    have hK7 : W7.heap[D]? = some (.deferred (some [])) := (ho7.same D (Array.getElem?_eq_some_iff.1 hK5).1 (by omega)).trans hK5
    have hput := (Only.refl (· = D) W7).putObj D (.deferred none) rfl
    have h8 : Blk .u8 (W7.putObj D (.deferred none)) w.heap.size 24 DL := h7.only hput (by omega)
    have hbw5 := xtrans h3.out hb5
    have hb7 : Below w.heap.size w W7 := ho7.below hbw5 hbw5.size (by rintro i rfl; omega)
    refine ⟨by simp [Act.put], .inl ⟨_, _, rfl, run_takeDeferred hK7, ?_⟩⟩
    exact ⟨_, results_cell_row rfl _ _ w.heap.size 24 _ (0, 0) _ rfl h8 Try.underlying24 rfl (by simpa using hDI.out), by rw [hfin.out], hput.below hb7 hb7.size (by rintro i rfl; omega)⟩
  case stop =>
    rintro D c pre O W hD hOD hO _ h
    exact h.elim
end Go.Proofs.Ytfafancacfjodaa
