/- Texts of this claim, merged; no condition. -/
import Derived.Test.YtijkdabmegbcjaaGreatDoorT48
import Derived.Test.YtijkdabmegbcjaaGreatDoorTA
set_option linter.all false
namespace Go.Proofs.YtijkdabmegbcjaaGreatDoor
open Go.RowKit Go.Shelf
set_option maxRecDepth 100000 in
set_option maxHeartbeats 8000000 in
theorem regionHolds_walk (a : Option Addr) (c : Nat) (zs : List Int) (x : Int) (a2 : Option Addr) (c2 : Nat) (ys : List Int) (w : World) (hl : zs.length ≤ c ∧ c ≤ 9223372036854775807) (hr : RowAt .u8 w a zs) (ha : a = none → c = 0) (hw : ∀ z ∈ zs, (Lit.int .u8 z).wf = true) (hx : -9223372036854775808 ≤ x ∧ x ≤ 9223372036854775807)
    (hl2 : ys.length ≤ c2 ∧ c2 ≤ 9223372036854775807) (hr2 : RowAt .u8 w a2 ys) (ha2 : a2 = none → c2 = 0) (hw2 : ∀ z ∈ ys, (Lit.int .u8 z).wf = true) (_ : TabF w) :
    Calls Tryz.prog 11 #[.slice a zs.length c, .int .i64 x, .slice a2 ys.length c2] w (Yes w) := by
  by_cases h : (zs.length : Int) > 80
  · clear hr ha hw hl hr2 ha2 hw2 hl2
    go_enter Tryz.func11, Tryz.ntmps11
    go_wp2_with (go_at_call 36; refine (works13_any _).mono ?_; rintro e w9 ⟨rfl, b9⟩)
    go_ret
    exact ⟨rfl, b9⟩
  by_cases h2 : (ys.length : Int) > 60
  · clear hr ha hw hl hr2 ha2 hw2 hl2
    go_enter Tryz.func11, Tryz.ntmps11
    go_wp2_with (go_at_call 36; refine (works13_any _).mono ?_; rintro e w9 ⟨rfl, b9⟩)
    go_ret
    exact ⟨rfl, b9⟩
  by_cases h3 : (ys.length : Int) = 0
  · clear hr ha hw hl hr2 ha2 hw2 hl2
    go_enter Tryz.func11, Tryz.ntmps11
    go_wp2_with (go_at_call 36; refine (works13_any _).mono ?_; rintro e w9 ⟨rfl, b9⟩)
    go_ret
    exact ⟨rfl, b9⟩
  obtain ⟨cs, rfl, hC⟩ := code_of hl hr ha hw (by omega)
  obtain ⟨ps, rfl, hC2⟩ := code_of hl2 hr2 ha2 hw2 (by omega)
  rw [natI_len] at h h2 h3 ⊢
  rw [natI_len]
  have hcl : cs.length ≤ 100 := by omega
  have hof := qh (ofR_any x w hC hcl)
  obtain ⟨i0, hi0, hz0, hz1, hz2⟩ := info_parts info_reg
  have hrg := Tryz.underlying59
  cases hro : regOf cs x with
  | none =>
    rw [hro] at hof
    unfold regL regC at hof
    clear hr ha hw hl hr2 ha2 hw2 hl2 hC hC2
    go_enter Tryz.func11, Tryz.ntmps11
    go_wp2_with (first
      | (go_at_call 38; refine hof.out.mono ?_; rintro e w1 ⟨rfl, b1⟩; replace b1 := qh b1)
      | (refine wpList_store_blkG rfl 59 _ _ rfl w1.heap.size rfl 59 r13Z r13Z (BlkG.new w1 _ _) rfl rfl (by kernel_rfl) rfl ?_; intro w2 hX2 ho2; have b2 := ho2.below (xalloc (xrefl w1) _) (xalloc (xrefl w1) _).size (by rintro k rfl; exact Nat.le_refl _); replace b2 := qh (xtrans b1.out b2); clear ho2 hX2)
      | (go_at_call 36; refine (works13_any _).mono ?_; rintro e w9 ⟨rfl, b9⟩; replace b9 := qh b9))
    go_ret
    exact ⟨rfl, xtrans b2.out b9.out⟩
  | some y =>
    obtain ⟨en, s, σ, hsn, rfl⟩ : ∃ (en : Nat) (s : StN) (σ : KnS), seenN cs x = some (en, s, σ) ∧ y = ((en : Int), s) := by
      unfold regOf at hro
      cases hsn : seenN cs x with
      | none => rw [hsn] at hro; cases hro
      | some z => rw [hsn] at hro; exact ⟨z.1, z.2.1, z.2.2, rfl, (Option.some.inj hro).symm⟩
    obtain ⟨first, hat, hfs, hne, hways⟩ := region_ways (by omega) hsn
    rw [hro] at hof
    unfold regL at hof
    simp only [Option.isSome_some] at hof
    have hnl := List.length_pos_iff.2 hne
    have hbl := blksN_len cs
    have hatC := qh fun W (hW : Below w.heap.size w W) => refAt_any cs x a c W (hC.below hW)
    rw [hat] at hatC
    unfold atV at hatC
    simp only [Option.getD_some, Option.isSome_some] at hatC
    have hbk := qh fun W (hW : Below w.heap.size w W) => refBlocks_any cs a c W (hC.below hW)
    have hgo0 := qh fun (k0 : Nat) (a3 : Option Addr) (c3 : Nat) (qs : List Nat) (t : StN) W (hW : Below w.heap.size w W) (hq : CodeAt W a3 c3 qs) (hg : goesF cs (blksN cs) en (pickN qs) 100 0 k0 zeroS = some t) => goes_any k0 en t W (hC.below hW) hcl hq hg
    have hps : 0 < ps.length := by omega
    obtain ⟨pb2, po2, rfl, hcp, hp256⟩ := hC2.get hps
    have hfd := qh fun (pb : Option Addr) (qb : Nat) (w3 : World) (hP : BlksAt w3 pb qb (blksN cs)) W' (hW : Below w3.heap.size w3 W') => refFindS_any (blksN cs) (first : Int) pb qb w3 W' hP hW (by omega)
    rw [findZ_nat, hfs] at hfd
    have hfg : (findB (blksN cs) first).getD blk0 = blkOf (blksN cs) first := rfl
    rw [hfg] at hfd
    generalize blkOf (blksN cs) first = X at *
    generalize blksN cs = bs at *
    obtain ⟨r, hr'⟩ : ∃ r, r = byN ps 0 % X.next.length := ⟨_, rfl⟩
    have hrl : r < X.next.length := by rw [hr']; exact Nat.mod_lt _ hnl
    have htm : Int.tmod (byN ps 0 : Int) (X.next.length : Int) = (r : Int) := by rw [hr', Int.natCast_emod]; exact Int.tmod_eq_emod_of_nonneg (by omega)
    obtain ⟨t, hg, q1, q2, q3, q4, q5⟩ := hways ps.tail r hrl
    have hwp : IntKind.i64.wrap (byN ps 0 : Int) = (byN ps 0 : Int) := by simp [IntKind.wrap, IntKind.bits, IntKind.signed]; omega
    have hcp0 := hcp
    simp only [Nat.add_zero] at hcp0
    have hq := qh fun W (hW : Below w.heap.size w W) => (show CodeAt W (sl2 (some ⟨pb2, po2, none⟩) 1 c2) (c2 - 1) ps.tail from by
      have hD := hC2.below hW
      have h1 := rowAt_drop hD.row 1 c2 (by rw [natI_len]; exact hD.cap.1)
      have e1 : (natI ps).drop 1 = natI ps.tail := by unfold natI; rw [← List.map_drop, List.drop_one]
      rw [e1] at h1
      exact ⟨h1, (fun h => by unfold sl2 at h; split at h <;> simp at h), by have := hD.len; simp; omega, fun b hb => hD.ok b (List.mem_of_mem_tail hb), by have := hD.cap; simp; omega⟩)
    have htl : ps.tail.length = ps.length - 1 := by simp
    have hsl := qh fun W => run_slice_lo (P := Tryz.prog) 22 5 (some ⟨pb2, po2, none⟩) ps.length c2 1 W Tryz.underlying22 (by kernel_rfl) (by omega) hC2.cap.1
    have hgo1 := qh fun W (hW : Below w.heap.size w W) => hgo0.out X.next[r] _ _ ps.tail t W hW (hq.out W hW) hg
    rw [htl] at hgo1
    have hu := Tryz.underlying51
    have hnI : ¬ (X.next.length : Int) = 0 := by omega
    have hnB : ((X.next.length : Int) == 0) = false := by simpa using hnI
    have hn3 : X.next ≠ [] := hne
    have hrI : (r : Int) < X.next.length := by omega
    have hpsI : (0 : Int) < ps.length := by omega
    have hps1 : (1 : Int) ≤ (ps.length : Int) := by omega
    have hq5 : (t.ht == s.ht) = true := by simpa using q5
    unfold blkV at hfd
    have hcpw := qh fun W (hW : Below w.heap.size w W) => cbel hW hcp0
    clear hgo0 hq hg hways hcp hC hC2 hr ha hw hl hr2 ha2 hw2 hl2 hr' hcp0
    generalize byN ps 0 = pk at *
    replace hn3 := qh hn3
    replace hne := qh hne
    replace htm := qh htm
    replace q1 := qh q1
    go_enter Tryz.func11, Tryz.ntmps11
    go_wp2_with (first
      | (go_at_call 38; refine hof.out.mono ?_; rintro e w1 ⟨rfl, b1⟩; replace b1 := qh b1)
      | (refine wpList_store_blkG rfl 59 _ _ rfl w1.heap.size rfl 59 r13Z (regC en s) (BlkG.new w1 _ _) rfl rfl (by kernel_rfl) rfl ?_; intro w2 hX2 ho2; have b2 := ho2.below (xalloc (xrefl w1) _) (xalloc (xrefl w1) _).size (by rintro k rfl; exact Nat.le_refl _); replace b2 := qh (xtrans b1.out b2); replace hX2 := qh hX2; clear ho2)
      | (go_at_call 17; refine (hatC.out _ b2.out).mono ?_; rintro e w3 ⟨rfl, b3⟩; have hX3 := qh (hX2.out.below b3); replace b3 := qh (xtrans b2.out b3))
      | (go_at_call 15; refine (hbk.out _ b3.out).mono ?_; rintro e w4 ⟨⟨pb, qb, rfl, hP, -⟩, b4⟩; have hX4 := qh (hX3.out.below b4); replace b4 := qh (xtrans b3.out b4); replace hP := qh hP)
      | (go_at_call 34; refine (hfd.out pb qb w4 hP.out w4 (xrefl _)).mono ?_; rintro e w5 ⟨⟨p, q, rfl, hI⟩, b5⟩; have hX5 := qh (hX4.out.below b5); have hI5 := qh (hI.below b5); replace b5 := qh (xtrans b4.out b5); clear hI)
      | (refine wpList_store_blkG rfl 51 _ _ rfl w5.heap.size rfl 51 [.int .i64 0, .int .i64 0, .slice none 0 0, .bool false] [.int .i64 X.first, .int .i64 X.last, .slice p X.next.length q, .bool X.exit] (BlkG.new w5 _ _) rfl rfl (by kernel_rfl) rfl ?_; intro w7 hB7 ho7; have b7 := ho7.below (xalloc (xrefl w5) _) (xalloc (xrefl w5) _).size (by rintro k rfl; exact Nat.le_refl _); have hX7 := hX5.out.below b7; have hI7 := hI5.out.below b7; have hb7 := qh (xtrans b5.out b7); have cN := hB7.cell 2 (by simp); have cM := hX7.cell 0 (by simp [regC]); simp only [regC, List.getElem_cons_succ, List.getElem_cons_zero] at cN cM; have cP := hcpw.out _ hb7.out; obtain ⟨nb, no, rfl, cX⟩ := hI7.get hrl; replace hX7 := qh hX7; clear ho7 b7))
    have hgo := qh fun W hW => hgo1.out W hW
    replace htm := htm.out
    replace hn3 := hn3.out
    generalize X.next[r] = kn at *
    have hX7l := hX7.out.lt
    have hb7s := hb7.out.size
    replace q1 := q1.out
    refine' wp_region_growY (goesN w7.heap.size 64 3 (hC3 t) 24 22 (by decide)) 26 [fixdS _, fixdS _, fixdS _, fixdS _, fixdS _, fixdS _, fixdS _, fixdS _, fixdS _, fixdS _, fixdS (.int .i64 (r : Nat)), fixdS _, fixdS _, fixdS _, fixdS _, fixdS _, fixdS (.slice (sl2 (some ⟨pb2, po2, none⟩) 1 c2) (ps.length - 1) (c2 - 1)), fixdS _, fixdS _, fixdS (.int .u64 t.g0), fixdS (.agg #[.int .i64 t.lo, .int .i64 t.hi, .int .i64 t.ht]), fixdS (.bool true), newTY, fixdS _, fixdS undef, fixdS _] (by kernel_rfl) (by kernel_rfl) (show 22 < 26 from by decide) (by kernel_rfl) (fun _ e => by cases e) (fun x ch W hd h => h.elim) ?_
    rotate_left 19
    simp only [List.take_succ_cons, List.take_zero, List.drop_succ_cons, List.drop_zero]
    try simp only [Act.put, zA, zB, zC, zD, zE]
    refine' wpGrowY_fix _ rfl rfl rfl (fun b v0 W hS hb _ => by go_simp; first | exact xrefl W | exact ⟨rfl, xrefl W⟩) ?_
    try simp only [Act.put, zA, zB, zC, zD, zE]
    refine' wpGrowY_fix _ rfl rfl rfl (fun b v0 W hS hb _ => by go_simp; first | exact xrefl W | exact ⟨rfl, xrefl W⟩) ?_
    try simp only [Act.put, zA, zB, zC, zD, zE]
    refine' wpGrowY_fix _ rfl rfl rfl (fun b v0 W hS hb _ => by have hb := hb.1 (Nat.le_refl _); have c := cbel hb cN; go_simp; first | exact xrefl W | exact ⟨rfl, xrefl W⟩) ?_
    try simp only [Act.put, zA, zB, zC, zD, zE]
    refine' wpGrowY_fix _ rfl rfl rfl (fun b v0 W hS hb _ => by go_simp; first | exact xrefl W | exact ⟨rfl, xrefl W⟩) ?_
    try simp only [Act.put, zA, zB, zC, zD, zE]
    refine' wpGrowY_fix _ rfl rfl rfl (fun b v0 W hS hb _ => by go_simp; first | exact xrefl W | exact ⟨rfl, xrefl W⟩) ?_
    try simp only [Act.put, zA, zB, zC, zD, zE]
    refine' wpGrowY_fix _ rfl rfl rfl (fun b v0 W hS hb _ => by have hb := hb.1 (Nat.le_refl _); have c := cbel hb cP; go_simp; first | exact xrefl W | exact ⟨rfl, xrefl W⟩) ?_
    try simp only [Act.put, zA, zB, zC, zD, zE]
    refine' wpGrowY_fix _ rfl rfl rfl (fun b v0 W hS hb _ => by go_simp; first | exact xrefl W | exact ⟨rfl, xrefl W⟩) ?_
    try simp only [Act.put, zA, zB, zC, zD, zE]
    refine' wpGrowY_fix _ rfl rfl rfl (fun b v0 W hS hb _ => by go_simp; first | exact xrefl W | exact ⟨rfl, xrefl W⟩) ?_
    try simp only [Act.put, zA, zB, zC, zD, zE]
    refine' wpGrowY_fix _ rfl rfl rfl (fun b v0 W hS hb _ => by have hb := hb.1 (Nat.le_refl _); have c := cbel hb cN; go_simp; first | exact xrefl W | exact ⟨rfl, xrefl W⟩) ?_
    try simp only [Act.put, zA, zB, zC, zD, zE]
    refine' wpGrowY_fix _ rfl rfl rfl (fun b v0 W hS hb _ => by go_simp; first | exact xrefl W | exact ⟨rfl, xrefl W⟩) ?_
    try simp only [Act.put, zA, zB, zC, zD, zE]
    refine wpGrowY_fix (.int .i64 (r : Nat)) rfl rfl rfl (fun b v0 W hS hb _ => by go_simp; first | exact xrefl W | exact ⟨rfl, xrefl W⟩) ?_
    try simp only [Act.put, zA, zB, zC, zD, zE]
    refine' wpGrowY_fix _ rfl rfl rfl (fun b v0 W hS hb _ => by go_simp; first | exact xrefl W | exact ⟨rfl, xrefl W⟩) ?_
    try simp only [Act.put, zA, zB, zC, zD, zE]
    refine' wpGrowY_fix _ rfl rfl rfl (fun b v0 W hS hb _ => by have hb := hb.1 (Nat.le_refl _); have c := cbel hb cX; go_simp; first | exact xrefl W | exact ⟨rfl, xrefl W⟩) ?_
    try simp only [Act.put, zA, zB, zC, zD, zE]
    refine' wpGrowY_fix _ rfl rfl rfl (fun b v0 W hS hb _ => by go_simp; first | exact xrefl W | exact ⟨rfl, xrefl W⟩) ?_
    try simp only [Act.put, zA, zB, zC, zD, zE]
    refine' wpGrowY_fix _ rfl rfl rfl (fun b v0 W hS hb _ => by have hb := hb.1 (Nat.le_refl _); have c := cbel hb cM; go_simp; first | exact xrefl W | exact ⟨rfl, xrefl W⟩) ?_
    try simp only [Act.put, zA, zB, zC, zD, zE]
    refine' wpGrowY_fix _ rfl rfl rfl (fun b v0 W hS hb _ => by go_simp; first | exact xrefl W | exact ⟨rfl, xrefl W⟩) ?_
    try simp only [Act.put, zA, zB, zC, zD, zE]
    refine wpGrowY_fix (.slice (sl2 (some ⟨pb2, po2, none⟩) 1 c2) (ps.length - 1) (c2 - 1)) rfl rfl rfl (fun b v0 W hS hb _ => ?_) ?_
    · go_simp
      refine ⟨?_, xrefl W⟩
      unfold sl2
      split <;> rfl
    try simp only [Act.put, zA, zB, zC, zD, zE]
    refine' wpGrowY_fix _ rfl rfl rfl (fun b v0 W hS hb hF => ?_) ?_
    · replace hb := hb.1 (Nat.le_refl _)
      clear hF
      go_simp
      go_at_call 39
      refine (hgo.out W (xtrans hb7.out hb)).mono ?_
      rintro e w' ⟨rfl, hb'⟩
      refine ⟨?_, hb'⟩
      exact rfl
    try simp only [Act.put, zA, zB, zC, zD, zE]
    refine' wpGrowY_fix _ rfl rfl rfl (fun b v0 W hS hb _ => by go_simp; first | exact xrefl W | exact ⟨rfl, xrefl W⟩) ?_
    try simp only [Act.put, zA, zB, zC, zD, zE]
    refine wpGrowY_fix (.int .u64 t.g0) rfl rfl rfl (fun b v0 W hS hb _ => by go_simp; first | exact xrefl W | exact ⟨rfl, xrefl W⟩) ?_
    try simp only [Act.put, zA, zB, zC, zD, zE]
    refine wpGrowY_fix (.agg #[.int .i64 t.lo, .int .i64 t.hi, .int .i64 t.ht]) rfl rfl rfl (fun b v0 W hS hb _ => by go_simp; first | exact xrefl W | exact ⟨rfl, xrefl W⟩) ?_
    try simp only [Act.put, zA, zB, zC, zD, zE]
    refine wpGrowY_fix (.bool true) rfl rfl rfl (fun b v0 W hS hb _ => by go_simp; first | exact xrefl W | exact ⟨rfl, xrefl W⟩) ?_
    try simp only [Act.put, zA, zB, zC, zD, zE]
    refine wpGrowY_alloc rfl rfl rfl (Nat.le_refl _) [.int .i64 0, .int .i64 0, .int .i64 0] rfl (fun W => by go_simp) (fun b14 => ?_)
    try simp only [Act.put, zA, zB, zC, zD, zE]
    refine' wpGrowY_fix _ rfl rfl rfl (fun b v0 W hS hb _ => by go_simp; first | exact xrefl W | exact ⟨rfl, xrefl W⟩) ?_
    try simp only [Act.put, zA, zB, zC, zD, zE]
    refine wpGrowY_store rfl rfl rfl 64 _ _ rfl b14 rfl rfl rfl (by kernel_rfl) rfl (Nat.le_refl _) rfl (by kernel_rfl) rfl ?_
    try simp only [Act.put, zA, zB, zC, zD, zE]
    refine' wpGrowY_fix _ rfl rfl rfl (fun b v0 W hS hb _ => by go_simp; first | exact xrefl W | exact ⟨rfl, xrefl W⟩) ?_
    try simp only [Act.put, zA, zB, zC, zD, zE]
    intro w8 hb8 hS8 hm8
    obtain ⟨hB8, hle8⟩ := hm8 22 (by decide) b14 rfl
    have hB9 : BlkG w8 b14 64 (hC3 t) := hS8 rfl b14 rfl
    replace hb8 := hb8.1 (Nat.le_refl _)
    have hX8 := hX7.out.below hb8
    have b9 := qh (xtrans hb7.out hb8)
    have e0 := hB9.cell 0 (by simp [hC3])
    have e1 := hB9.cell 1 (by simp [hC3])
    have e2 := hB9.cell 2 (by simp [hC3])
    have d1 := hX8.cell 1 (by simp [regC])
    have d2 := hX8.cell 2 (by simp [regC])
    have d3 := hX8.cell 3 (by simp [regC])
    have d4 := hX8.cell 4 (by simp [regC])
    have d5 := hX8.cell 5 (by simp [regC])
    simp only [hC3, regC, List.getElem_cons_succ, List.getElem_cons_zero] at e0 e1 e2 d1 d2 d3 d4 d5
    have q1' : t.g0 ≥ s.g0 := q1
    have q3' : t.lo ≥ s.lo := q3
    clear hb8 hm8 cP cN cX cM hgo hsl hS8 hB8 hB9 hX8
    refine wpAny_end (by kernel_rfl) ?_
    go_wp2_with (go_at_call 36; refine (works13_any _).mono ?_; rintro e w10 ⟨rfl, b10⟩; replace b10 := qh (xtrans b9.out b10))
    go_ret
    exact ⟨rfl, b10.out⟩
end Go.Proofs.YtijkdabmegbcjaaGreatDoor
