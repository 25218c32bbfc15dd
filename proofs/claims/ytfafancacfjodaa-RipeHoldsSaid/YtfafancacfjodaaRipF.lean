/- Layer 24, the document's answer: the beginning, the bytes of numbers, the digest. -/
import Derived.Test.YtfafancacfjodaaRipE
namespace Go.Proofs.Ytfafancacfjodaa
open Go.RowKit

theorem refBegin_any (w : World) : Calls Try.prog 17 #[] w fun e w' => e = .returned (arrV .u32 (rowI 5 begR)) ∧ Below w.heap.size w w' := by
  unfold arrV
  have hz := Lib.hid (Blk.new (q := .u32) w 29 (List.replicate 5 0))
  go_enter Try.func17, Try.ntmps17
  go_wp2_with (refine wpList_store_blk rfl 29 _ _ rfl w.heap.size rfl .u32 29 (List.replicate 5 0) (rowI 5 begR) hz.out rfl rfl (by kernel_rfl) ?_; intro w7 h7 ho7)
  refine ret_blk rfl w.heap.size .u32 29 (rowI 5 begR) _ _ rfl h7 Try.underlying29 (by kernel_rfl) rfl ⟨rfl, ?_⟩
  exact ho7.below (xalloc (xrefl w) _) (by rw [World.size_alloc]; omega) (by rintro i rfl; omega)

set_option maxRecDepth 100000 in
set_option maxHeartbeats 1000000 in
theorem refTold_any (h : Nat → BitVec 32) (w : World) : Calls Try.prog 18 #[arrV .u32 (rowI 5 h)] w fun e w' => e = .returned (arrV .u8 (digL h)) ∧ Below w.heap.size w w' := by
  unfold arrV
  obtain ⟨lh, hlh⟩ : ∃ l, l = rowI 5 h := ⟨_, rfl⟩
  rw [← hlh]
  have nh : lh.length = 5 := by rw [hlh, rowI_len]
  go_enter Try.func18, Try.ntmps18
  obtain ⟨w1, hw1⟩ : ∃ w1, (((w.alloc (Obj.cells (lh.map (Value.int .u32)).toArray 29)).alloc (Obj.cells ((List.replicate 20 0).map (Value.int .u8)).toArray 24)).alloc (Obj.cells ((List.replicate 20 0).map (Value.int .u8)).toArray 24)) = w1 := ⟨_, rfl⟩
  have hH : Blk .u32 w1 w.heap.size 29 lh := by rw [← hw1]; exact ((Blk.new w _ lh).alloc _).alloc _
  have hR : Blk .u8 w1 (w.heap.size + 1) 24 (List.replicate 20 0) := by rw [← hw1]; exact (Blk.new' _ _ _ _ (by simp)).alloc _
  have hO : Blk .u8 w1 (w.heap.size + 1 + 1) 24 (List.replicate 20 0) := by rw [← hw1]; exact Blk.new' _ _ _ _ (by simp)
  have hb : Below w.heap.size w w1 := by rw [← hw1]; exact xalloc (xalloc (xalloc (xrefl _) _) _) _
  replace hw1 := Lib.hid hw1
  replace hlh := Lib.hid hlh
  replace nh := Lib.hid nh
  replace hH := Lib.hid hH
  replace hR := Lib.hid hR
  replace hO := Lib.hid hO
  go_upto_region 2 with fail
  refine wp_world (w' := w1) hw1.out ?_
  clear hw1
  go_wp2
  go_loopw [4] (fun iv wx => ∃ i : Nat, i ≤ 20 ∧ iv = .int .i64 i ∧ Hid (Blk .u32 wx w.heap.size 29 lh) ∧ Hid (Blk .u8 wx (w.heap.size + 1) 24 (List.replicate 20 0)) ∧ Hid (Blk .u8 wx (w.heap.size + 1 + 1) 24 (fillL 20 (fun i => iv8 (digF h i)) i)) ∧ Below w.heap.size w wx) (fun iv _ => 20 - (intOf iv).toNat)
  case atStart => exact ⟨0, by omega, rfl, hH, hR, by rw [fillL_zero]; exact hO, hb⟩
  case round =>
    clear hH hR hO hb
    obtain ⟨i, hi, rfl, hH, hR, hO, hb⟩ := hrel
    by_cases hlt : i < 20
    · have hlt2 : (i : Int) < 20 := by omega
      have c1 := hH.out.cell (i / 4) (by rw [nh.out]; omega)
      have g1 : lh[i / 4]'(by rw [nh.out]; omega) = iv32 (h (i / 4)) := by have := hlh.out; subst this; exact rowI_get _ _ _ _
      rw [g1] at c1
      clear g1
      have c2 := hO.out.cell i (by rw [fillL_len]; exact hlt)
      have f2 := hO.out.frozen i
      have hset := hO.out.set i (iv8 (digF h i))
      rw [fillL_succ 20 (fun i => iv8 (digF h i)) i] at hset
      have hdg := iv8_dig h i
      generalize h (i / 4) = x at c1 hdg
      generalize iv8 (digF h i) = dv at hset hdg
      replace hset := Lib.hid hset
      replace hdg := Lib.hid hdg
      go_wp2
      rw [← hdg.out]
      exact ⟨⟨i + 1, by omega, rfl, Lib.hid (hH.out.oth _ (by omega)), Lib.hid (hR.out.oth _ (by omega)), hset, xsetb hb (by omega) _⟩, by simp [intOf]; omega⟩
    · obtain rfl : i = 20 := by omega
      clear hlt
      have hO' := hO.out
      rw [fillL_all _ _ _ (by omega), show allL 20 (fun i => iv8 (digF h i)) = digL h from rfl] at hO'
      have hLl : (digL h).length = 20 := allL_len _ _
      generalize hLF : digL h = LF at hO' hLl
      replace hLF := Lib.hid hLF
      have hinf : (Try.prog.info? 24).map (·.size) = some LF.length := by rw [hLl]; kernel_rfl
      have hrl : LF.length = (List.replicate 20 (0 : Int)).length := by rw [hLl, List.length_replicate]
      replace hinf := Lib.hid hinf
      replace hrl := Lib.hid hrl
      replace hO' := Lib.hid hO'
      go_wp2_with (first
        | (refine wpList_load_blk rfl 24 _ rfl (w.heap.size + 1 + 1) rfl .u8 24 LF _ _ hO'.out Try.underlying24 hinf.out ?_)
        | (refine wpList_store_blk rfl 24 _ _ rfl (w.heap.size + 1) rfl .u8 24 (List.replicate 20 0) LF hR.out rfl hrl.out hinf.out ?_; intro w7 h7 ho7))
      refine ret_blk rfl (w.heap.size + 1) .u8 24 LF _ _ rfl h7 Try.underlying24 hinf.out rfl ⟨by rw [hLF.out], ?_⟩
      exact ho7.below hb hb.size (by rintro i rfl; omega)

set_option maxRecDepth 100000 in
set_option maxHeartbeats 1000000 in
theorem refSum24_any (bs : List (BitVec 8)) (a : Option Addr) (c : Nat) (w : World) (hrow : RowAt .u8 w a (bs.map iv8)) (hn : a = none → c = 0) (hlen : bs.length < 1000000) :
    Calls Try.prog 8 #[.slice a bs.length c] w fun e w' => e = .returned (arrV .u8 (digL (sumF bs))) ∧ Below w.heap.size w w' := by
  have hpad := fun W h => refPadded24_any bs a c W h hn hlen
  have hpm := padL_mod bs
  have hpl := padL_len bs
  have hpn := padN_lt bs.length
  obtain ⟨nb, hnb⟩ : ∃ nb, (padL bs).length = 64 * nb := ⟨(padL bs).length / 64, by omega⟩
  have hsumF : sumF bs = sumTo (padL bs) nb := by unfold sumF; rw [hnb, Nat.mul_div_cancel_left _ (by decide)]
  rw [hsumF]
  have hplen : (padL bs).length < 2000000 := by omega
  have hpl0 : 0 < (padL bs).length := by omega
  clear hpm hpl hpn hsumF
  generalize hpd : padL bs = pd at *
  replace hpd := Lib.hid hpd
  replace hnb := Lib.hid hnb
  have hz := Lib.hid (Blk.new (q := .u8) w 24 (List.replicate 20 0))
  replace hpad := Lib.hid hpad
  replace hrow := Lib.hid hrow
  have hbeg := fun W => refBegin_any W
  unfold arrV at hbeg ⊢
  replace hbeg := Lib.hid hbeg
  have hz5 := Lib.hid (fun W : World => Blk.new (q := .u32) W 29 (List.replicate 5 0))
  have nbeg : (rowI 5 begR).length = 5 := rfl
  obtain ⟨LB, hLB⟩ : ∃ l, l = rowI 5 begR := ⟨_, rfl⟩
  rw [← hLB] at hbeg nbeg
  replace hLB := Lib.hid hLB
  replace nbeg := Lib.hid nbeg
  go_enter Try.func8, Try.ntmps8
  go_wp2_with (first
    | (go_at_call 14; refine (hpad.out _ (hrow.out.below (xalloc (xrefl w) _))).mono ?_; rintro e w2 ⟨v, rfl, hown, hb2⟩; obtain ⟨a3, c3, rfl, hr3, hn3, -, -⟩ := rowAt_own hown)
    | (go_at_call 17; refine (hbeg.out _).mono ?_; rintro e w3 ⟨rfl, hb3⟩)
    | (refine wpList_store_blk rfl 29 _ _ rfl w3.heap.size rfl .u32 29 (List.replicate 5 0) LB (hz5.out w3) rfl (by rw [nbeg.out, List.length_replicate]) (by rw [nbeg.out]; kernel_rfl) ?_; intro w4 h4 ho4))
  obtain ⟨pb, po, rfl, hpc0⟩ := hr3 0 (by simp; omega)
  have hpbl : pb < w2.heap.size := cell_lt hpc0
  have hb3' := hb3.size
  have hb24 : Below w.heap.size w w3 := xtrans (xtrans (xalloc (xrefl w) _) hb2) hb3
  have hb4 : Below w.heap.size w w4 := ho4.below (xalloc hb24 _) (xalloc hb24 _).size (by rintro i rfl; exact hb24.size)
  have hr4 : RowAt .u8 w4 (some ⟨pb, po, none⟩) (pd.map iv8) := ((hr3.below hb3).below (xalloc (xrefl w3) _)).only ho4 (fun x hx => by cases hx; simp only; omega)
  have hR4 : Blk .u8 w4 w.heap.size 24 (List.replicate 20 0) := (((hz.out.below (xtrans hb2 hb3))).alloc _).only ho4 (by have := hb2.size; rw [World.size_alloc] at this; omega)
  rw [hLB.out] at h4
  have hne1 : w.heap.size ≠ w3.heap.size := by have := hb2.size; rw [World.size_alloc] at this; omega
  have hne2 : pb ≠ w3.heap.size := by omega
  have hwle : w.heap.size ≤ w3.heap.size := hb24.size
  clear hown hr3 hb2 hb3 hb24 ho4 hpc0 hpbl hb3' hpad hbeg hz5 hz
  generalize w3.heap.size = hbk at *
  have h00 : rowI 5 begR = rowI 5 (sumTo pd 0) := rfl
  rw [h00] at h4
  have hnbI : (pd.length : Int) / 64 = (nb : Int) := by have := hnb.out; omega
  replace hr4 := Lib.hid hr4
  replace hR4 := Lib.hid hR4
  replace h4 := Lib.hid h4
  clear h00
  go_loopw [5] (fun iv wx => ∃ k : Nat, k ≤ nb ∧ iv = .int .i64 k ∧ Hid (Blk .u32 wx hbk 29 (rowI 5 (sumTo pd k))) ∧ Hid (RowAt .u8 wx (some ⟨pb, po, none⟩) (pd.map iv8)) ∧ Hid (Blk .u8 wx w.heap.size 24 (List.replicate 20 0)) ∧ Below w.heap.size w wx) (fun iv _ => nb - (intOf iv).toNat)
  case atStart => exact ⟨0, by omega, rfl, h4, hr4, hR4, hb4⟩
  case round =>
    clear h4 hr4 hR4 hb4
    obtain ⟨k, hk, rfl, hH, hrw, hR, hb⟩ := hrel
    by_cases hlt : k < nb
    · have hBl := fun W h => refBlock24_any pd (some ⟨pb, po, none⟩) c3 k W h (by rw [hnb.out]; omega) (by omega)
      have hMx := fun W => refMix24_any (sumTo pd k) (blockF (byteF pd k)) W
      have hnx : Hid (mixR (sumTo pd k) (blockF (byteF pd k)) = sumTo pd (k + 1)) := Lib.hid rfl
      rw [hnx.out] at hMx
      unfold arrV at hBl hMx
      generalize blockF (byteF pd k) = bf at hBl hMx hnx
      have nl : (rowI 5 (sumTo pd k)).length = 5 := rowI_len _ _
      have nN : (rowI 5 (sumTo pd (k + 1))).length = 5 := rowI_len _ _
      generalize rowI 5 (sumTo pd k) = lh at hH hMx nl
      obtain ⟨LN, hLN⟩ : ∃ l, l = rowI 5 (sumTo pd (k + 1)) := ⟨_, rfl⟩
      rw [← hLN] at hMx nN
      replace hLN := Lib.hid hLN
      replace hBl := Lib.hid hBl
      replace hMx := Lib.hid hMx
      replace nl := Lib.hid nl
      replace nN := Lib.hid nN
      go_upto_region 6 with fail
      refine wp_region_growL 5 [fixd (.agg ((lh).map (Value.int .u32)).toArray), fixd (.slice (some ⟨pb, po, none⟩) pd.length c3), fixd (.int .i64 k), fixd (.agg ((rowI 16 bf).map (Value.int .u32)).toArray), fixd (.agg ((LN).map (Value.int .u32)).toArray)] (by kernel_rfl) (by kernel_rfl) ?_
      simp only [List.take_succ_cons, List.take_zero, List.drop_succ_cons, List.drop_zero]
      try simp only [Act.put, List.setIfInBounds_toArray, List.set_cons_succ, List.set_cons_zero, List.nil_append, List.cons_append]
      refine wpGrowV_load_blk rfl 29 _ rfl hbk rfl .u32 29 (lh) _ _ hH.out Try.underlying29 (by rw [nl.out]; kernel_rfl) rfl ?_
      try simp only [Act.put, List.setIfInBounds_toArray, List.set_cons_succ, List.set_cons_zero, List.nil_append, List.cons_append]
      refine wpGrowV_fix _ rfl rfl (fun W hb _ => by go_simp; first | exact xrefl W | exact ⟨rfl, xrefl W⟩) ?_
      try simp only [Act.put, List.setIfInBounds_toArray, List.set_cons_succ, List.set_cons_zero, List.nil_append, List.cons_append]
      refine wpGrowV_fix _ rfl rfl (fun W hb _ => by go_simp; first | exact xrefl W | exact ⟨rfl, xrefl W⟩) ?_
      try simp only [Act.put, List.setIfInBounds_toArray, List.set_cons_succ, List.set_cons_zero, List.nil_append, List.cons_append]
      refine wpGrowV_fix (.agg ((rowI 16 bf).map (Value.int .u32)).toArray) rfl rfl (fun W hb _ => ?_) ?_
      · go_simp
        go_at_call 16
        refine (hBl.out W (hrw.out.below hb)).mono ?_
        rintro e w' ⟨rfl, hb'⟩
        exact ⟨rfl, hb'⟩
      try simp only [Act.put, List.setIfInBounds_toArray, List.set_cons_succ, List.set_cons_zero, List.nil_append, List.cons_append]
      refine wpGrowV_fix (.agg ((LN).map (Value.int .u32)).toArray) rfl rfl (fun W hb _ => ?_) ?_
      · go_simp
        go_at_call 12
        refine (hMx.out W).mono ?_
        rintro e w' ⟨rfl, hb'⟩
        exact ⟨rfl, hb'⟩
      try simp only [Act.put, List.setIfInBounds_toArray, List.set_cons_succ, List.set_cons_zero, List.nil_append, List.cons_append]
      refine wpGrowV_nil fun Wa hba _ => ?_
      have hHa := Lib.hid (hH.out.below hba)
      have hra := Lib.hid (hrw.out.below hba)
      have hRa := Lib.hid (hR.out.below hba)
      have hba2 := xtrans hb hba
      have hl : LN.length = lh.length := by rw [nN.out, nl.out]
      have hinf : (Try.prog.info? 29).map (·.size) = some LN.length := by rw [nN.out]; kernel_rfl
      replace hl := Lib.hid hl
      replace hinf := Lib.hid hinf
      clear hH hrw hR hb hba hBl hMx
      go_wp2_with (refine wpList_store_blk rfl 29 _ _ rfl hbk rfl .u32 29 lh LN hHa.out rfl hl.out hinf.out ?_; intro Wb hHb hob)
      rw [hLN.out] at hHb
      exact ⟨⟨k + 1, by omega, rfl, Lib.hid hHb, Lib.hid (hra.out.only hob (fun x hx => by cases hx; exact hne2)), Lib.hid (hRa.out.only hob hne1), hob.below hba2 hba2.size (by rintro i rfl; exact hwle)⟩, by simp [intOf]; omega⟩
    · obtain rfl : k = nb := by omega
      clear hlt
      have hTl := fun W => refTold_any (sumTo pd k) W
      unfold arrV at hTl
      have nl : (rowI 5 (sumTo pd k)).length = 5 := rowI_len _ _
      have nd : (digL (sumTo pd k)).length = 20 := allL_len _ _
      generalize rowI 5 (sumTo pd k) = lh at hH hTl nl
      generalize hLD : digL (sumTo pd k) = LD at hTl nd
      replace hLD := Lib.hid hLD
      have hinf : (Try.prog.info? 29).map (·.size) = some lh.length := by rw [nl]; kernel_rfl
      have hind : (Try.prog.info? 24).map (·.size) = some LD.length := by rw [nd]; kernel_rfl
      have hrl : LD.length = (List.replicate 20 (0 : Int)).length := by rw [nd, List.length_replicate]
      replace hTl := Lib.hid hTl
      replace hinf := Lib.hid hinf
      replace hind := Lib.hid hind
      replace hrl := Lib.hid hrl
      clear hrw
      go_wp2_with (first
        | (refine wpList_load_blk rfl 29 _ rfl hbk rfl .u32 29 lh _ _ hH.out Try.underlying29 hinf.out ?_)
        | (go_at_call 18; refine (hTl.out _).mono ?_; rintro e w8 ⟨rfl, hb8⟩)
        | (refine wpList_store_blk rfl 24 _ _ rfl w.heap.size rfl .u8 24 (List.replicate 20 0) LD (hR.out.below hb8) rfl hrl.out hind.out ?_; intro w9 h9 ho9))
      have hb9 := xtrans hb hb8
      refine ret_blk rfl w.heap.size .u8 24 LD _ _ rfl h9 Try.underlying24 hind.out rfl ⟨by rw [hLD.out], ?_⟩
      exact ho9.below hb9 hb9.size (by rintro i rfl; omega)
end Go.Proofs.Ytfafancacfjodaa
