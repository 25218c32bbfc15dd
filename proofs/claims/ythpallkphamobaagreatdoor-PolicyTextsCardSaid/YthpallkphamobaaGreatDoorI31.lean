/- Texts of this claim, merged; no condition. -/
import Derived.Test.YthpallkphamobaaGreatDoorI30
import Derived.Test.YthpallkphamobaaGreatDoorI27
import Derived.Test.YthpallkphamobaaGreatDoorI29
set_option linter.all false
namespace Go.Proofs.YthpallkphamobaaGreatDoor
open Go.RowKit Go.Shelf

theorem take_flat {ls : List (List UInt8)} {k : Nat} (h : k < ls.length) : (ls.take (k + 1)).flatMap endl = (ls.take k).flatMap endl ++ ls[k] ++ [10] := by
  rw [List.take_succ_eq_append_getElem h, List.flatMap_append]
  simp [endl]
set_option maxRecDepth 100000 in
set_option maxHeartbeats 4000000 in
theorem refTextP_any (p : PolN) (pa pb : Option Addr) (pc pd : Nat) (w : World) (hp : PolAt w p pa pc pb pd) (hl1 : p.clears.length ≤ 1000) (hl2 : p.rels.length ≤ 1000) :
    Calls Tryz.prog 34 #[polV p pa pc pb pd] w fun e w' => e = .returned (.tuple #[.string ⟨(textG p).toArray⟩, .int .i64 (checkF p : Nat)]) ∧ Below w.heap.size w w' := by
  have hbe : Below w.heap.size w (w.alloc (.cells #[labV p.dflt, .slice pa p.clears.length pc, .slice pb p.rels.length pd] 27)) := xalloc (xrefl w) _
  have hP : BlkG (w.alloc (.cells #[labV p.dflt, .slice pa p.clears.length pc, .slice pb p.rels.length pd] 27)) w.heap.size 27 [labV p.dflt, .slice pa p.clears.length pc, .slice pb p.rels.length pd] := BlkG.new w _ _
  have hpt : Hid (∀ W, Below w.heap.size w W → PolAt W p pa pc pb pd) := Lib.hid fun W h => hp.below h
  have hck := Lib.hid fun W (hb : Below w.heap.size w W) => refCheck_any p pa pb pc pd W (hpt.out W hb) (by omega) (by omega)
  have hln := Lib.hid fun W (hb : Below w.heap.size w W) => refLines_any p pa pb pc pd W (hpt.out W hb) hl1 hl2
  have hlen := Lib.hid (lineF_len hp.ok)
  have hcnt := linesF_len p
  replace hbe := Lib.hid hbe
  replace hP := Lib.hid hP
  clear hp
  by_cases h0 : checkF p = 0
  · have hok := Lib.hid (textG_ok h0)
    rw [h0] at hck ⊢
    replace h0 := Lib.hid h0
    have hl3 : (linesF p).length ≤ 2001 := by omega
    clear hcnt
    have htf : Hid (textF p = (linesF p).flatMap endl) := Lib.hid rfl
    generalize linesF p = ls at *
    unfold polV at *
    go_enter Tryz.func34, Tryz.ntmps34
    go_upto_region 1 with fail
    generalize w.alloc (.cells #[labV p.dflt, .slice pa p.clears.length pc, .slice pb p.rels.length pd] 27) = w2 at *
    go_upto_region 7 with (first
      | (refine wpList_load_mid rfl 27 _ rfl w.heap.size 0 rfl [labV p.dflt, .slice pa p.clears.length pc, .slice pb p.rels.length pd] _ (BlkG.range hP.out) Tryz.underlying27 rfl (by kernel_rfl) ?_)
      | (go_at_call 15; refine (hck.out _ hbe.out).mono ?_; rintro e w3 ⟨rfl, hb3⟩; have hP3 := Lib.hid (hP.out.below hb3); have hb03 := Lib.hid (xtrans hbe.out hb3); clear hb3)
      | (refine wpList_load_mid rfl 27 _ rfl w.heap.size 0 rfl [labV p.dflt, .slice pa p.clears.length pc, .slice pb p.rels.length pd] _ (BlkG.range hP3.out) Tryz.underlying27 rfl (by kernel_rfl) ?_)
      | (go_at_call 35; refine (hln.out _ hb03.out).mono ?_; rintro e w4 ⟨⟨v4, rfl, ho4⟩, hb4⟩; obtain ⟨la, lc, rfl⟩ := own_sliceV ho4; have hb04 := Lib.hid (xtrans hb03.out hb4); clear hb4))
    obtain ⟨x4, y4, e4, hrow4, -⟩ := rowV_own ho4
    cases e4
    clear ho4 hb03 hP3
    go_loopw [5, 7] (fun sv iv wr => ∃ k : Nat, wr = w4 ∧ iv = .int .i64 k ∧ k ≤ ls.length ∧ sv = .string ⟨((ls.take k).flatMap endl).toArray⟩) (fun _ iv _ => ls.length - (intOf iv).toNat)
    case atStart => exact ⟨0, rfl, rfl, by omega, rfl⟩
    case round =>
      obtain ⟨k, rfl, rfl, hk, rfl⟩ := hrel
      by_cases hlt : k < ls.length
      · have hltI : (k : Int) < ls.length := by omega
        obtain ⟨b, o, rfl, hc⟩ := hrow4 k (by simpa using hlt)
        simp only [List.getElem_map, strL] at hc
        have hnx := take_flat hlt
        have hx := hlen.out _ (List.getElem_mem hlt)
        have hfl : ((ls.take k).flatMap endl).length ≤ 300000000 := by
          have h1 := flatE_len (ls.take k) 100000 (fun l hl => hlen.out l (List.mem_of_mem_take hl))
          have h2 : (ls.take k).length ≤ 2001 := by rw [List.length_take]; omega
          have h3 := Nat.mul_le_mul_right (100000 + 1) h2
          omega
        have hs1 : (⟨((ls.take k).flatMap endl).toArray⟩ : ByteArray) ++ ⟨(ls[k]).toArray⟩ = ⟨((ls.take k).flatMap endl ++ ls[k]).toArray⟩ := str_add _ _
        have hs2 : (⟨((ls.take k).flatMap endl ++ ls[k]).toArray⟩ : ByteArray) ++ ⟨#[10]⟩ = ⟨((ls.take k).flatMap endl ++ ls[k] ++ [10]).toArray⟩ := str_add _ _
        have hz1 : (⟨((ls.take k).flatMap endl).toArray⟩ : ByteArray).size = ((ls.take k).flatMap endl).length := by show (List.toArray _).size = _; simp
        have hz2 : (⟨(ls[k]).toArray⟩ : ByteArray).size = (ls[k]).length := by show (List.toArray _).size = _; simp
        have hz3 : (⟨((ls.take k).flatMap endl ++ ls[k]).toArray⟩ : ByteArray).size = ((ls.take k).flatMap endl).length + (ls[k]).length := by show (List.toArray _).size = _; simp
        rw [← hnx] at hs2
        replace hnx := Lib.hid hnx
        generalize ht2 : (ls.take (k + 1)).flatMap endl = t2 at *
        replace ht2 := Lib.hid ht2
        generalize (ls.take k).flatMap endl ++ ls[k] = t1 at *
        generalize ((ls.take k).flatMap endl).length = n1 at *
        generalize (ls.take k).flatMap endl = t0 at *
        generalize (ls[k]).length = n2 at *
        generalize ls[k] = x at *
        have q1 : ¬ 9223372036854775807 < n1 + n2 := by omega
        have q2 : ¬ 9223372036854775807 < n1 + n2 + 1 := by omega
        replace hs1 := Lib.hid hs1
        replace hs2 := Lib.hid hs2
        go_wp2
        refine ⟨⟨k + 1, trivial, rfl, by omega, ?_⟩, by simp [intOf]; omega⟩
        rw [hs1.out, hs2.out, ht2.out]
      · obtain rfl : k = ls.length := by omega
        have hfin : Hid (textG p = (ls.take ls.length).flatMap endl) := Lib.hid (by rw [hok.out, htf.out, List.take_length])
        generalize (ls.take ls.length).flatMap endl = t0 at *
        clear hlt
        go_wp2
        go_ret2
        exact ⟨by rw [hfin.out]; rfl, hb04.out⟩
  · have hno := textG_no h0
    rw [hno]
    have h0I : ((checkF p : Nat) : Int) ≠ 0 := by omega
    have h0B : (((checkF p : Nat) : Int) == 0) = false := by rw [beq_eq_false_iff_ne]; exact h0I
    generalize checkF p = c at *
    replace hno := Lib.hid hno
    clear hcnt h0
    unfold polV at *
    go_enter Tryz.func34, Tryz.ntmps34
    go_upto_region 1 with fail
    generalize w.alloc (.cells #[labV p.dflt, .slice pa p.clears.length pc, .slice pb p.rels.length pd] 27) = w2 at *
    go_wp2_with (first
      | (refine wpList_load_mid rfl 27 _ rfl w.heap.size 0 rfl [labV p.dflt, .slice pa p.clears.length pc, .slice pb p.rels.length pd] _ (BlkG.range hP.out) Tryz.underlying27 rfl (by kernel_rfl) ?_)
      | (go_at_call 15; refine (hck.out _ hbe.out).mono ?_; rintro e w3 ⟨rfl, hb3⟩; have hb03 := Lib.hid (xtrans hbe.out hb3); clear hb3))
    go_ret2
    exact ⟨rfl, hb03.out⟩
end Go.Proofs.YthpallkphamobaaGreatDoor
namespace Go.Proofs.YthpallkphamobaaGreatDoor
open Go.RowKit Go.Shelf

set_option maxRecDepth 100000 in
set_option maxHeartbeats 8000000 in
theorem refSame_eq (p : PolN) (a b a2 b2 : Option Addr) (c d c2 d2 : Nat) (w : World) (hp : PolAt w p a c b d) (hq : PolAt w p a2 c2 b2 d2) (hl1 : p.clears.length ≤ 1000000) (hl2 : p.rels.length ≤ 1000000) :
    Calls Tryz.prog 31 #[polV p a c b d, polV p a2 c2 b2 d2] w fun e w' => e = .returned (.bool true) ∧ Below w.heap.size w w' := by
  have hP : BlkG ((w.alloc (.cells #[labV p.dflt, .slice a p.clears.length c, .slice b p.rels.length d] 27)).alloc (.cells #[labV p.dflt, .slice a2 p.clears.length c2, .slice b2 p.rels.length d2] 27)) w.heap.size 27 [labV p.dflt, .slice a p.clears.length c, .slice b p.rels.length d] := (BlkG.new w _ [labV p.dflt, .slice a p.clears.length c, .slice b p.rels.length d]).alloc _
  have hQ : BlkG ((w.alloc (.cells #[labV p.dflt, .slice a p.clears.length c, .slice b p.rels.length d] 27)).alloc (.cells #[labV p.dflt, .slice a2 p.clears.length c2, .slice b2 p.rels.length d2] 27)) (w.heap.size + 1) 27 [labV p.dflt, .slice a2 p.clears.length c2, .slice b2 p.rels.length d2] := by
    have := BlkG.new (w.alloc (.cells #[labV p.dflt, .slice a p.clears.length c, .slice b p.rels.length d] 27)) 27 [labV p.dflt, .slice a2 p.clears.length c2, .slice b2 p.rels.length d2]
    rwa [World.size_alloc] at this
  have hb0 : Below w.heap.size w ((w.alloc (.cells #[labV p.dflt, .slice a p.clears.length c, .slice b p.rels.length d] 27)).alloc (.cells #[labV p.dflt, .slice a2 p.clears.length c2, .slice b2 p.rels.length d2] 27)) := xalloc (xalloc (xrefl w) _) _
  have hok := hp.ok
  have hp2 := hp.below hb0
  have hq2 := hq.below hb0
  have hadC := Lib.hid fun x hx => clearC_len (hok.adrC (x := x) hx)
  have hadR := Lib.hid fun x hx => relC_len (hok.adrR (x := x) hx)
  have haC := Lib.hid fun x hx => hok.adrC (x := x) hx
  have haR := Lib.hid fun x hx => hok.adrR (x := x) hx
  clear hok hp hq
  unfold polV
  unfold labV at hP hQ hb0 hp2 hq2
  unfold labV
  go_enter Tryz.func31, Tryz.ntmps31
  go_upto_region 1 with fail
  generalize ((w.alloc (.cells #[.int .u64 (iv64 p.dflt), .slice a p.clears.length c, .slice b p.rels.length d] 27)).alloc (.cells #[.int .u64 (iv64 p.dflt), .slice a2 p.clears.length c2, .slice b2 p.rels.length d2] 27)) = w2 at *
  have hcs : Hid (∀ W, Below w2.heap.size w2 W → (W.cell? ⟨w.heap.size, 1, none⟩ = some (.slice a p.clears.length c) ∧ W.cell? ⟨w.heap.size + 1, 1, none⟩ = some (.slice a2 p.clears.length c2)) ∧ W.cell? ⟨w.heap.size, 2, none⟩ = some (.slice b p.rels.length d) ∧ W.cell? ⟨w.heap.size + 1, 2, none⟩ = some (.slice b2 p.rels.length d2)) := Lib.hid fun W hb => ⟨⟨cbel hb (blk_cell hP (i := 1) rfl), cbel hb (blk_cell hQ (i := 1) rfl)⟩, cbel hb (blk_cell hP (i := 2) rfl), cbel hb (blk_cell hQ (i := 2) rfl)⟩
  have k0 := blk_cell hP (i := 0) rfl
  have k1 := blk_cell hP (i := 1) rfl
  have k2 := blk_cell hP (i := 2) rfl
  have q0 := blk_cell hQ (i := 0) rfl
  have q1 := blk_cell hQ (i := 1) rfl
  have q2 := blk_cell hQ (i := 2) rfl
  replace hP := Lib.hid hP
  replace hQ := Lib.hid hQ
  replace hp2 := Lib.hid hp2
  replace hq2 := Lib.hid hq2
  replace hb0 := Lib.hid hb0
  go_upto_region 3 with fail
  clear k0 k1 k2 q0 q1 q2
  go_wp2_with fail
  go_loopw [5] (fun iv wr => ∃ i : Nat, iv = .int .i64 i ∧ i ≤ p.clears.length ∧ Hid (Below w2.heap.size w2 wr)) (fun iv _ => p.clears.length - (intOf iv).toNat)
  case atStart => exact ⟨0, rfl, by omega, Lib.hid (xrefl w2)⟩
  case round =>
    obtain ⟨i, rfl, hi, hbw⟩ := hrel
    obtain ⟨⟨k1, q1⟩, k2, q2⟩ := hcs.out wr hbw.out
    by_cases hlt : i < p.clears.length
    · have hltI : (i : Int) < p.clears.length := by omega
      obtain ⟨g, o, rfl, hr⟩ := (hp2.out.below hbw.out).cl.elt i hlt
      obtain ⟨g2, o2, rfl, hr2⟩ := (hq2.out.below hbw.out).cl.elt i hlt
      have hx := Lib.hid (haC.out _ (List.getElem_mem hlt))
      have hlx := Lib.hid (hadC.out _ (List.getElem_mem hlt))
      have hwi : IntKind.i64.wrap ((i : Int) + 1) = (i : Int) + 1 := by simp [IntKind.wrap, IntKind.bits, IntKind.signed]; omega
      generalize p.clears[i] = x at *
      have hd : Hid ((!decide (x = x)) = false) := Lib.hid (by simp)
      replace hr := Lib.hid hr
      replace hr2 := Lib.hid hr2
      go_upto_region 6 with fail
      refine' wp_region_growL 11 [fixd (.pointer (some ⟨w.heap.size, 1, none⟩)), fixd (.slice (some ⟨g, o, none⟩) p.clears.length c), fixd (.int .i64 i), fixd (.pointer (some ⟨g, o + i * 21, none⟩)), fixd (.agg (clearC x).toArray), fixd (.pointer (some ⟨w.heap.size + 1, 1, none⟩)), fixd (.slice (some ⟨g2, o2, none⟩) p.clears.length c2), fixd (.int .i64 i), fixd (.pointer (some ⟨g2, o2 + i * 21, none⟩)), fixd (.agg (clearC x).toArray), fixd (.bool false)] (by kernel_rfl) (by kernel_rfl) ?_
      simp only [List.take_succ_cons, List.take_zero, List.drop_succ_cons, List.drop_zero]
      try simp only [Act.put, List.setIfInBounds_toArray, List.set_cons_succ, List.set_cons_zero, List.nil_append, List.cons_append]
      apply wpGrowV_fix (.pointer (some ⟨w.heap.size, 1, none⟩)) rfl rfl
      · intro W hb hF
        go_simp
        first | exact xrefl W | exact ⟨rfl, xrefl W⟩ | exact ⟨by omega, xrefl W⟩
      try simp only [Act.put, List.setIfInBounds_toArray, List.set_cons_succ, List.set_cons_zero, List.nil_append, List.cons_append]
      apply wpGrowV_fix (.slice (some ⟨g, o, none⟩) p.clears.length c) rfl rfl
      · intro W hb hF
        have c := cbel hb k1
        go_simp
        first | exact xrefl W | exact ⟨rfl, xrefl W⟩
      try simp only [Act.put, List.setIfInBounds_toArray, List.set_cons_succ, List.set_cons_zero, List.nil_append, List.cons_append]
      apply wpGrowV_fix (.int .i64 i) rfl rfl
      · intro W hb hF
        go_simp
        first | exact xrefl W | exact ⟨rfl, xrefl W⟩ | exact ⟨by omega, xrefl W⟩
      try simp only [Act.put, List.setIfInBounds_toArray, List.set_cons_succ, List.set_cons_zero, List.nil_append, List.cons_append]
      apply wpGrowV_fix (.pointer (some ⟨g, o + i * 21, none⟩)) rfl rfl
      · intro W hb hF
        go_simp
        first | exact xrefl W | exact ⟨rfl, xrefl W⟩ | exact ⟨by omega, xrefl W⟩
      try simp only [Act.put, List.setIfInBounds_toArray, List.set_cons_succ, List.set_cons_zero, List.nil_append, List.cons_append]
      apply wpGrowV_fix (.agg (clearC x).toArray) rfl rfl
      · intro W hb hF
        rw [run_load_midV 65 _ rfl (g) (o + i * 21) rfl (clearC x) _ (fun j v hj => cbel hb (hr.out j v hj)) Tryz.underlying65 rfl (by rw [hlx.out]; kernel_rfl)]
        exact ⟨rfl, xrefl W⟩
      try simp only [Act.put, List.setIfInBounds_toArray, List.set_cons_succ, List.set_cons_zero, List.nil_append, List.cons_append]
      apply wpGrowV_fix (.pointer (some ⟨w.heap.size + 1, 1, none⟩)) rfl rfl
      · intro W hb hF
        go_simp
        first | exact xrefl W | exact ⟨rfl, xrefl W⟩ | exact ⟨by omega, xrefl W⟩
      try simp only [Act.put, List.setIfInBounds_toArray, List.set_cons_succ, List.set_cons_zero, List.nil_append, List.cons_append]
      apply wpGrowV_fix (.slice (some ⟨g2, o2, none⟩) p.clears.length c2) rfl rfl
      · intro W hb hF
        have c := cbel hb q1
        go_simp
        first | exact xrefl W | exact ⟨rfl, xrefl W⟩
      try simp only [Act.put, List.setIfInBounds_toArray, List.set_cons_succ, List.set_cons_zero, List.nil_append, List.cons_append]
      apply wpGrowV_fix (.int .i64 i) rfl rfl
      · intro W hb hF
        go_simp
        first | exact xrefl W | exact ⟨rfl, xrefl W⟩ | exact ⟨by omega, xrefl W⟩
      try simp only [Act.put, List.setIfInBounds_toArray, List.set_cons_succ, List.set_cons_zero, List.nil_append, List.cons_append]
      apply wpGrowV_fix (.pointer (some ⟨g2, o2 + i * 21, none⟩)) rfl rfl
      · intro W hb hF
        go_simp
        first | exact xrefl W | exact ⟨rfl, xrefl W⟩ | exact ⟨by omega, xrefl W⟩
      try simp only [Act.put, List.setIfInBounds_toArray, List.set_cons_succ, List.set_cons_zero, List.nil_append, List.cons_append]
      apply wpGrowV_fix (.agg (clearC x).toArray) rfl rfl
      · intro W hb hF
        rw [run_load_midV 65 _ rfl (g2) (o2 + i * 21) rfl (clearC x) _ (fun j v hj => cbel hb (hr2.out j v hj)) Tryz.underlying65 rfl (by rw [hlx.out]; kernel_rfl)]
        exact ⟨rfl, xrefl W⟩
      try simp only [Act.put, List.setIfInBounds_toArray, List.set_cons_succ, List.set_cons_zero, List.nil_append, List.cons_append]
      apply wpGrowV_fix (.bool false) rfl rfl
      · intro W hb hF
        exact grows_okP ((exec_neq_clearC _ _ rfl x x hx.out hx.out rfl rfl).trans (by rw [hd.out])) (xrefl W)
      try simp only [Act.put, List.setIfInBounds_toArray, List.set_cons_succ, List.set_cons_zero, List.nil_append, List.cons_append]
      refine wpGrowV_nil fun W3 hb3 _ => ?_
      replace hb3 := Lib.hid (xtrans hbw.out hb3)
      clear k1 q1 k2 q2
      go_wp2
      exact ⟨⟨i + 1, by first | rfl | simp, by omega, hb3⟩, by simp [intOf]; omega⟩
    · obtain rfl : i = p.clears.length := by omega
      clear hlt
      go_wp2
      clear k1 q1 k2 q2
      go_loopw [6] (fun iv wr2 => ∃ i : Nat, iv = .int .i64 i ∧ i ≤ p.rels.length ∧ Hid (Below w2.heap.size w2 wr2)) (fun iv _ => p.rels.length - (intOf iv).toNat)
      case atStart => exact ⟨0, rfl, by omega, hbw⟩
      case round =>
        clear hbw
        obtain ⟨i, rfl, hi, hbw⟩ := hrel
        obtain ⟨⟨k1, q1⟩, k2, q2⟩ := hcs.out wr hbw.out
        by_cases hlt : i < p.rels.length
        · have hltI : (i : Int) < p.rels.length := by omega
          obtain ⟨g, o, rfl, hr⟩ := (hp2.out.below hbw.out).re.elt i hlt
          obtain ⟨g2, o2, rfl, hr2⟩ := (hq2.out.below hbw.out).re.elt i hlt
          have hx := Lib.hid (haR.out _ (List.getElem_mem hlt))
          have hlx := Lib.hid (hadR.out _ (List.getElem_mem hlt))
          have hwi : IntKind.i64.wrap ((i : Int) + 1) = (i : Int) + 1 := by simp [IntKind.wrap, IntKind.bits, IntKind.signed]; omega
          generalize p.rels[i] = x at *
          have hd : Hid ((!decide (x = x)) = false) := Lib.hid (by simp)
          replace hr := Lib.hid hr
          replace hr2 := Lib.hid hr2
          go_upto_region 11 with fail
          refine' wp_region_growL 11 [fixd (.pointer (some ⟨w.heap.size, 2, none⟩)), fixd (.slice (some ⟨g, o, none⟩) p.rels.length d), fixd (.int .i64 i), fixd (.pointer (some ⟨g, o + i * 22, none⟩)), fixd (.agg (relC x).toArray), fixd (.pointer (some ⟨w.heap.size + 1, 2, none⟩)), fixd (.slice (some ⟨g2, o2, none⟩) p.rels.length d2), fixd (.int .i64 i), fixd (.pointer (some ⟨g2, o2 + i * 22, none⟩)), fixd (.agg (relC x).toArray), fixd (.bool false)] (by kernel_rfl) (by kernel_rfl) ?_
          simp only [List.take_succ_cons, List.take_zero, List.drop_succ_cons, List.drop_zero]
          try simp only [Act.put, List.setIfInBounds_toArray, List.set_cons_succ, List.set_cons_zero, List.nil_append, List.cons_append]
          apply wpGrowV_fix (.pointer (some ⟨w.heap.size, 2, none⟩)) rfl rfl
          · intro W hb hF
            go_simp
            first | exact xrefl W | exact ⟨rfl, xrefl W⟩ | exact ⟨by omega, xrefl W⟩
          try simp only [Act.put, List.setIfInBounds_toArray, List.set_cons_succ, List.set_cons_zero, List.nil_append, List.cons_append]
          apply wpGrowV_fix (.slice (some ⟨g, o, none⟩) p.rels.length d) rfl rfl
          · intro W hb hF
            have c := cbel hb k2
            go_simp
            first | exact xrefl W | exact ⟨rfl, xrefl W⟩
          try simp only [Act.put, List.setIfInBounds_toArray, List.set_cons_succ, List.set_cons_zero, List.nil_append, List.cons_append]
          apply wpGrowV_fix (.int .i64 i) rfl rfl
          · intro W hb hF
            go_simp
            first | exact xrefl W | exact ⟨rfl, xrefl W⟩ | exact ⟨by omega, xrefl W⟩
          try simp only [Act.put, List.setIfInBounds_toArray, List.set_cons_succ, List.set_cons_zero, List.nil_append, List.cons_append]
          apply wpGrowV_fix (.pointer (some ⟨g, o + i * 22, none⟩)) rfl rfl
          · intro W hb hF
            go_simp
            first | exact xrefl W | exact ⟨rfl, xrefl W⟩ | exact ⟨by omega, xrefl W⟩
          try simp only [Act.put, List.setIfInBounds_toArray, List.set_cons_succ, List.set_cons_zero, List.nil_append, List.cons_append]
          apply wpGrowV_fix (.agg (relC x).toArray) rfl rfl
          · intro W hb hF
            rw [run_load_midV 67 _ rfl (g) (o + i * 22) rfl (relC x) _ (fun j v hj => cbel hb (hr.out j v hj)) Tryz.underlying67 rfl (by rw [hlx.out]; kernel_rfl)]
            exact ⟨rfl, xrefl W⟩
          try simp only [Act.put, List.setIfInBounds_toArray, List.set_cons_succ, List.set_cons_zero, List.nil_append, List.cons_append]
          apply wpGrowV_fix (.pointer (some ⟨w.heap.size + 1, 2, none⟩)) rfl rfl
          · intro W hb hF
            go_simp
            first | exact xrefl W | exact ⟨rfl, xrefl W⟩ | exact ⟨by omega, xrefl W⟩
          try simp only [Act.put, List.setIfInBounds_toArray, List.set_cons_succ, List.set_cons_zero, List.nil_append, List.cons_append]
          apply wpGrowV_fix (.slice (some ⟨g2, o2, none⟩) p.rels.length d2) rfl rfl
          · intro W hb hF
            have c := cbel hb q2
            go_simp
            first | exact xrefl W | exact ⟨rfl, xrefl W⟩
          try simp only [Act.put, List.setIfInBounds_toArray, List.set_cons_succ, List.set_cons_zero, List.nil_append, List.cons_append]
          apply wpGrowV_fix (.int .i64 i) rfl rfl
          · intro W hb hF
            go_simp
            first | exact xrefl W | exact ⟨rfl, xrefl W⟩ | exact ⟨by omega, xrefl W⟩
          try simp only [Act.put, List.setIfInBounds_toArray, List.set_cons_succ, List.set_cons_zero, List.nil_append, List.cons_append]
          apply wpGrowV_fix (.pointer (some ⟨g2, o2 + i * 22, none⟩)) rfl rfl
          · intro W hb hF
            go_simp
            first | exact xrefl W | exact ⟨rfl, xrefl W⟩ | exact ⟨by omega, xrefl W⟩
          try simp only [Act.put, List.setIfInBounds_toArray, List.set_cons_succ, List.set_cons_zero, List.nil_append, List.cons_append]
          apply wpGrowV_fix (.agg (relC x).toArray) rfl rfl
          · intro W hb hF
            rw [run_load_midV 67 _ rfl (g2) (o2 + i * 22) rfl (relC x) _ (fun j v hj => cbel hb (hr2.out j v hj)) Tryz.underlying67 rfl (by rw [hlx.out]; kernel_rfl)]
            exact ⟨rfl, xrefl W⟩
          try simp only [Act.put, List.setIfInBounds_toArray, List.set_cons_succ, List.set_cons_zero, List.nil_append, List.cons_append]
          apply wpGrowV_fix (.bool false) rfl rfl
          · intro W hb hF
            exact grows_okP ((exec_neq_relC _ _ rfl x x hx.out hx.out rfl rfl).trans (by rw [hd.out])) (xrefl W)
          try simp only [Act.put, List.setIfInBounds_toArray, List.set_cons_succ, List.set_cons_zero, List.nil_append, List.cons_append]
          refine wpGrowV_nil fun W3 hb3 _ => ?_
          replace hb3 := Lib.hid (xtrans hbw.out hb3)
          clear k1 q1 k2 q2
          go_wp2
          exact ⟨⟨i + 1, by first | rfl | simp, by omega, hb3⟩, by simp [intOf]; omega⟩
        · obtain rfl : i = p.rels.length := by omega
          clear hlt
          go_wp2
          go_ret
          exact ⟨rfl, xtrans hb0.out hbw.out⟩
end Go.Proofs.YthpallkphamobaaGreatDoor
