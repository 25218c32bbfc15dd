/- Layer 24, the document's answer: blocks, what is behind the bytes, the digest. -/
import Derived.Test.YtfafancacfjodaaRipD
namespace Go.Proofs.Ytfafancacfjodaa
open Go.RowKit

set_option maxRecDepth 100000 in
set_option maxHeartbeats 2000000 in
theorem refBlock24_any (bs : List (BitVec 8)) (a : Option Addr) (c at' : Nat) (w : World) (hrow : RowAt .u8 w a (bs.map iv8)) (hat : 64 * at' + 63 < bs.length) (hlen : bs.length < 4000000) :
    Calls Try.prog 16 #[.slice a bs.length c, .int .i64 at'] w fun e w' => e = .returned (arrV .u32 (rowI 16 (blockF (byteF bs at')))) ∧ Below w.heap.size w w' := by
  unfold arrV
  go_enter Try.func16, Try.ntmps16
  have hR := (Blk.new (q := .u32) w 30 (List.replicate 16 0)).alloc (Obj.cells ((List.replicate 16 0).map (Value.int .u32)).toArray 30)
  have hO := Blk.new' (q := .u32) (w.alloc (Obj.cells ((List.replicate 16 0).map (Value.int .u32)).toArray 30)) (w.heap.size + 1) 30 (List.replicate 16 0) (by simp)
  have hb := xalloc (xalloc (xrefl w) (Obj.cells ((List.replicate 16 0).map (Value.int .u32)).toArray 30)) (Obj.cells ((List.replicate 16 0).map (Value.int .u32)).toArray 30)
  replace hrow := Lib.hid hrow
  replace hR := Lib.hid hR
  replace hO := Lib.hid hO
  go_wp2
  go_loopw [6] (fun iv wx => ∃ i : Nat, i ≤ 64 ∧ iv = .int .i64 i ∧ Hid (Blk .u32 wx w.heap.size 30 (List.replicate 16 0)) ∧ Hid (Blk .u32 wx (w.heap.size + 1) 30 (rowI 16 (blockTo (byteF bs at') i))) ∧ Below w.heap.size w wx) (fun iv _ => 64 - (intOf iv).toNat)
  case atStart => exact ⟨0, by omega, rfl, hR, by rw [blockTo_zero]; exact hO, hb⟩
  case round =>
    clear hR hO hb
    obtain ⟨i, hi, rfl, hR, hO, hb⟩ := hrel
    by_cases hlt : i < 64
    · have hlt2 : (i : Int) < 64 := by omega
      obtain ⟨j, hj⟩ : ∃ j, j = i / 4 := ⟨_, rfl⟩
      obtain ⟨m, hm⟩ : ∃ m, m = i % 4 := ⟨_, rfl⟩
      have hset := blockTo_set (byteF bs at') i
      rw [← hj, ← hm] at hset
      have hj16 : j < 16 := by omega
      have hj2 : (j : Int) < 16 := by omega
      have hm2 : 8 * ((i : Int) % 4) < 32 := by omega
      have hm3 : 0 ≤ 8 * ((i : Int) % 4) := by omega
      have hjI : IntKind.i64.wrap ((i : Int) / 4) = (j : Int) := by rw [IntKind.wrap_i64]; omega
      have c1 := hO.out.cell j (by rw [rowI_len]; omega)
      rw [rowI_get] at c1
      have f1 := hO.out.frozen j
      obtain ⟨b, o, rfl, c2⟩ := (hrow.out.below hb) (64 * at' + i) (by simp; omega)
      simp only [List.getElem_map] at c2
      have hbv : bs[64 * at' + i]'(by omega) = bs.getD (64 * at' + i) 0 := by simp [show 64 * at' + i < bs.length by omega]
      rw [hbv, iv8_w8] at c2
      clear hbv
      replace c2 : wr.cell? ⟨b, o + (64 * at' + i), none⟩ = some (.int .u8 (iv32 (byteF bs at' i))) := c2
      generalize blockTo (byteF bs at') i j = acc at c1 hset
      have hb8 : iv32 (byteF bs at' i) < 256 := by
        show iv32 (w8 _) < 256
        rw [← iv8_w8]; exact (iv8_bd _).2
      have hbd := iv32_bd (byteF bs at' i)
      generalize byteF bs at' i = x at c2 hset hbd hb8
      have e0 : IntKind.i64.wrap (64 * (at' : Int)) = 64 * (at' : Int) := by rw [IntKind.wrap_i64]; omega
      have e3 : IntKind.i64.wrap (64 * (at' : Int) + (i : Int)) = 64 * (at' : Int) + (i : Int) := by rw [IntKind.wrap_i64]; omega
      have e4 : (64 * (at' : Int) + (i : Int)).toNat = 64 * at' + i := by omega
      have e5 : 64 * (at' : Int) + (i : Int) < (bs.length : Int) := by omega
      have e9 : 0 ≤ 64 * (at' : Int) + (i : Int) := by omega
      have e6 : IntKind.u32.wrap (iv32 x) = iv32 x := by rw [IntKind.wrap_u32]; omega
      have e7 : IntKind.i64.wrap (8 * ((i : Int) % 4)) = 8 * ((i : Int) % 4) := by rw [IntKind.wrap_i64]; omega
      have e8 : IntKind.u64.wrap (8 * ((i : Int) % 4)) = 8 * ((i : Int) % 4) := by rw [IntKind.wrap_u64]; omega
      have e10 : (8 * ((i : Int) % 4)).toNat = 8 * m := by omega
      replace hset := Lib.hid hset
      replace c1 := Lib.hid c1
      replace c2 := Lib.hid c2
      replace f1 := Lib.hid f1
      replace hj := Lib.hid hj
      replace hm := Lib.hid hm
      go_upto_region 5 with fail
      refine wp_region_growL 21 [fixd (.int .i64 i), fixd (.int .i64 j), fixd (.int .i64 i), fixd (.int .i64 j), fixd (.pointer (some ⟨w.heap.size + 1, j, none⟩)), fixd (.int .u32 (iv32 (acc))), fixd (.slice (some ⟨b, o, none⟩) bs.length c), fixd (.int .i64 at'), fixd (.int .i64 (64 * at')), fixd (.int .i64 i), fixd (.int .i64 (64 * at' + i)), fixd (.pointer (some ⟨b, o + (64 * at' + i), none⟩)), fixd (.int .u8 (iv32 x)), fixd (.int .u32 (iv32 (x))), fixd (.int .i64 i), fixd (.int .i64 ((i : Int) % 4)), fixd (.int .i64 (8 * ((i : Int) % 4))), fixd (.int .u64 (8 * ((i : Int) % 4))), fixd (.int .u32 (iv32 (shl32 x (8 * m)))), fixd (.int .u32 (iv32 (or32 acc (shl32 x (8 * m))))), fixd (.pointer (some ⟨w.heap.size + 1, j, none⟩))] (by kernel_rfl) (by kernel_rfl) ?_
      simp only [List.take_succ_cons, List.take_zero, List.drop_succ_cons, List.drop_zero]
      try simp only [Act.put, List.setIfInBounds_toArray, List.set_cons_succ, List.set_cons_zero, List.nil_append, List.cons_append]
      refine wpGrowV_fix _ rfl rfl (fun W hb _ => by go_simp; first | exact xrefl W | exact ⟨rfl, xrefl W⟩) ?_
      try simp only [Act.put, List.setIfInBounds_toArray, List.set_cons_succ, List.set_cons_zero, List.nil_append, List.cons_append]
      refine wpGrowV_fix _ rfl rfl (fun W hb _ => by go_simp; first | exact xrefl W | exact ⟨rfl, xrefl W⟩) ?_
      try simp only [Act.put, List.setIfInBounds_toArray, List.set_cons_succ, List.set_cons_zero, List.nil_append, List.cons_append]
      refine wpGrowV_fix _ rfl rfl (fun W hb _ => by go_simp; first | exact xrefl W | exact ⟨rfl, xrefl W⟩) ?_
      try simp only [Act.put, List.setIfInBounds_toArray, List.set_cons_succ, List.set_cons_zero, List.nil_append, List.cons_append]
      refine wpGrowV_fix _ rfl rfl (fun W hb _ => by go_simp; first | exact xrefl W | exact ⟨rfl, xrefl W⟩) ?_
      try simp only [Act.put, List.setIfInBounds_toArray, List.set_cons_succ, List.set_cons_zero, List.nil_append, List.cons_append]
      refine wpGrowV_fix _ rfl rfl (fun W hb _ => by go_simp; first | exact xrefl W | exact ⟨rfl, xrefl W⟩) ?_
      try simp only [Act.put, List.setIfInBounds_toArray, List.set_cons_succ, List.set_cons_zero, List.nil_append, List.cons_append]
      refine wpGrowV_fix _ rfl rfl (fun W hb _ => by have c := cbel hb c1.out; go_simp; first | exact xrefl W | exact ⟨rfl, xrefl W⟩) ?_
      try simp only [Act.put, List.setIfInBounds_toArray, List.set_cons_succ, List.set_cons_zero, List.nil_append, List.cons_append]
      refine wpGrowV_fix _ rfl rfl (fun W hb _ => by go_simp; first | exact xrefl W | exact ⟨rfl, xrefl W⟩) ?_
      try simp only [Act.put, List.setIfInBounds_toArray, List.set_cons_succ, List.set_cons_zero, List.nil_append, List.cons_append]
      refine wpGrowV_fix _ rfl rfl (fun W hb _ => by go_simp; first | exact xrefl W | exact ⟨rfl, xrefl W⟩) ?_
      try simp only [Act.put, List.setIfInBounds_toArray, List.set_cons_succ, List.set_cons_zero, List.nil_append, List.cons_append]
      refine wpGrowV_fix _ rfl rfl (fun W hb _ => by go_simp; first | exact xrefl W | exact ⟨rfl, xrefl W⟩) ?_
      try simp only [Act.put, List.setIfInBounds_toArray, List.set_cons_succ, List.set_cons_zero, List.nil_append, List.cons_append]
      refine wpGrowV_fix _ rfl rfl (fun W hb _ => by go_simp; first | exact xrefl W | exact ⟨rfl, xrefl W⟩) ?_
      try simp only [Act.put, List.setIfInBounds_toArray, List.set_cons_succ, List.set_cons_zero, List.nil_append, List.cons_append]
      refine wpGrowV_fix _ rfl rfl (fun W hb _ => by go_simp; first | exact xrefl W | exact ⟨rfl, xrefl W⟩) ?_
      try simp only [Act.put, List.setIfInBounds_toArray, List.set_cons_succ, List.set_cons_zero, List.nil_append, List.cons_append]
      refine wpGrowV_fix _ rfl rfl (fun W hb _ => by go_simp; first | exact xrefl W | exact ⟨rfl, xrefl W⟩) ?_
      try simp only [Act.put, List.setIfInBounds_toArray, List.set_cons_succ, List.set_cons_zero, List.nil_append, List.cons_append]
      refine wpGrowV_fix _ rfl rfl (fun W hb _ => by have c := cbel hb c2.out; go_simp; first | exact xrefl W | exact ⟨rfl, xrefl W⟩) ?_
      try simp only [Act.put, List.setIfInBounds_toArray, List.set_cons_succ, List.set_cons_zero, List.nil_append, List.cons_append]
      refine wpGrowV_fix _ rfl rfl (fun W hb _ => by go_simp; first | exact xrefl W | exact ⟨rfl, xrefl W⟩) ?_
      try simp only [Act.put, List.setIfInBounds_toArray, List.set_cons_succ, List.set_cons_zero, List.nil_append, List.cons_append]
      refine wpGrowV_fix _ rfl rfl (fun W hb _ => by go_simp; first | exact xrefl W | exact ⟨rfl, xrefl W⟩) ?_
      try simp only [Act.put, List.setIfInBounds_toArray, List.set_cons_succ, List.set_cons_zero, List.nil_append, List.cons_append]
      refine wpGrowV_fix _ rfl rfl (fun W hb _ => by go_simp; first | exact xrefl W | exact ⟨rfl, xrefl W⟩) ?_
      try simp only [Act.put, List.setIfInBounds_toArray, List.set_cons_succ, List.set_cons_zero, List.nil_append, List.cons_append]
      refine wpGrowV_fix _ rfl rfl (fun W hb _ => by go_simp; first | exact xrefl W | exact ⟨rfl, xrefl W⟩) ?_
      try simp only [Act.put, List.setIfInBounds_toArray, List.set_cons_succ, List.set_cons_zero, List.nil_append, List.cons_append]
      refine wpGrowV_fix _ rfl rfl (fun W hb _ => by go_simp; first | exact xrefl W | exact ⟨rfl, xrefl W⟩) ?_
      try simp only [Act.put, List.setIfInBounds_toArray, List.set_cons_succ, List.set_cons_zero, List.nil_append, List.cons_append]
      refine wpGrowV_fix _ rfl rfl (fun W hb _ => by go_simp; first | exact xrefl W | exact ⟨rfl, xrefl W⟩) ?_
      try simp only [Act.put, List.setIfInBounds_toArray, List.set_cons_succ, List.set_cons_zero, List.nil_append, List.cons_append]
      refine wpGrowV_fix _ rfl rfl (fun W hb _ => by go_simp; first | exact xrefl W | exact ⟨rfl, xrefl W⟩) ?_
      try simp only [Act.put, List.setIfInBounds_toArray, List.set_cons_succ, List.set_cons_zero, List.nil_append, List.cons_append]
      refine wpGrowV_fix _ rfl rfl (fun W hb _ => by go_simp; first | exact xrefl W | exact ⟨rfl, xrefl W⟩) ?_
      try simp only [Act.put, List.setIfInBounds_toArray, List.set_cons_succ, List.set_cons_zero, List.nil_append, List.cons_append]
      refine wpGrowV_nil fun Wa hba _ => ?_
      clear hjI hm2 hm3 e0 e3 e4 e5 e6 e7 e8 e9 e10
      have c1' := cbel hba c1.out
      have f1' := fbel hba c1.out f1.out
      have hs2 := (hO.out.below hba).set j (iv32 (or32 acc (shl32 x (8 * m))))
      rw [hset.out] at hs2
      have hRa := Lib.hid ((hR.out.below hba).oth (c := w.heap.size + 1) (i := j) (.int .u32 (iv32 (or32 acc (shl32 x (8 * m))))) (by omega))
      have hba2 := Lib.hid (xsetb (xtrans hb hba) (c := w.heap.size + 1) (i := j) (by omega) (.int .u32 (iv32 (or32 acc (shl32 x (8 * m))))))
      replace hs2 := Lib.hid hs2
      clear c1 f1 c2 hO hR hb hba
      go_wp2
      exact ⟨⟨i + 1, by omega, rfl, hRa, hs2, hba2.out⟩, by simp [intOf]; omega⟩
    · have hi64 : i = 64 := by omega
      subst hi64
      rw [blockTo_all] at hO
      clear hlt
      have hLl : (rowI 16 (blockF (byteF bs at'))).length = 16 := rowI_len _ _
      generalize hLF : rowI 16 (blockF (byteF bs at')) = LF at hO hLl
      replace hLF := Lib.hid hLF
      have hinf : (Try.prog.info? 30).map (·.size) = some LF.length := by rw [hLl]; kernel_rfl
      have hrl : LF.length = (List.replicate 16 (0 : Int)).length := by rw [hLl, List.length_replicate]
      replace hinf := Lib.hid hinf
      replace hrl := Lib.hid hrl
      go_wp2_with (first
        | (refine wpList_load_blk rfl 30 _ rfl (w.heap.size + 1) rfl .u32 30 LF _ _ hO.out Try.underlying30 hinf.out ?_)
        | (refine wpList_store_blk rfl 30 _ _ rfl w.heap.size rfl .u32 30 (List.replicate 16 0) LF hR.out rfl hrl.out hinf.out ?_; intro w7 h7 ho7))
      refine ret_blk rfl w.heap.size .u32 30 LF _ _ rfl h7 Try.underlying30 hinf.out rfl ⟨by rw [hLF.out], ?_⟩
      exact ho7.below hb hb.size (by rintro i rfl; omega)

set_option maxRecDepth 100000 in
set_option maxHeartbeats 1000000 in
theorem refPadded24_any (bs : List (BitVec 8)) (a : Option Addr) (c : Nat) (w : World) (hrow : RowAt .u8 w a (bs.map iv8)) (hn : a = none → c = 0) (hlen : bs.length < 1000000) :
    Calls Try.prog 14 #[.slice a bs.length c] w fun e w' => ∃ v, e = .returned v ∧ w'.ownsRow w.heap.size 5 1 v (padL bs).length (((padL bs).map iv8).map (Value.int .u8)) ∧ Below w.heap.size w w' := by
  obtain ⟨i0, hi, hz0, hz1, hz2⟩ := info_parts Try.infoU8
  obtain ⟨zs, hzs⟩ : ∃ zs, zs = bs.map iv8 := ⟨_, rfl⟩
  rw [← hzs] at hrow
  have hzl : bs.length = zs.length := by rw [hzs]; simp
  rw [hzl]
  have hlz : zs.length < 1000000 := by omega
  replace hzl := Lib.hid hzl
  replace hrow := Lib.hid hrow
  replace hzs := Lib.hid hzs
  go_enter Try.func14, Try.ntmps14
  have hown0 := own_empty w 5
  go_wp2_with (first
    | (at_builtin; refine wpList_append_row _ rfl _ _ 22 rfl w.heap.size 5 i0 (.int .u8 0) 1 Try.underlying22 hi hz0 hz1 hz2 rfl _ _ _ rfl hown0 a c .u8 zs rfl hn (hrow.out.below (xalloc (xrefl w) _)) (by unfold maxLen; omega) (by omega) (by simp) ?_; intro v1 w1 ho1 hg1; replace hg1 : (w.alloc (Obj.cells #[] 5)).grownBy w1 (some w.heap.size) := hg1; have hsb1 : w.heap.size ≤ (w1.alloc (.cells #[.int .u8 128] 5)).heap.size := by (have hgs := hg1.size; rw [World.size_alloc] at hgs ⊢; omega))
    | (at_builtin; refine wpList_append_row (w1.alloc (.cells #[.int .u8 128] 5)) rfl _ _ 22 rfl w.heap.size 5 i0 (.int .u8 0) 1 Try.underlying22 hi hz0 hz1 hz2 rfl v1 (0 + zs.length) _ rfl (ho1.alloc _) (some ⟨w1.heap.size, 0, none⟩) 1 .u8 [128] rfl (by simp) (rowAt_one w1 5 128) (by unfold maxLen; simp; omega) (by simp; omega) hsb1 ?_; intro v2 w2 ho2 hg2))
  have hb1 : Below w.heap.size w w1 := (xalloc (xrefl w) _).grown hg1 (by simp) (by simp)
  have hb2 : Below w.heap.size w w2 := (xalloc hb1 _).grown hg2 (by have := hb1.size; simp; omega) (fun k hk => (ho1.lt k hk).1)
  have hown : w2.ownsRow w.heap.size 5 1 v2 (padTo bs 0).length (((padTo bs 0).map iv8).map (Value.int .u8)) := by
    have e : ((padTo bs 0).map iv8).map (Value.int .u8) = [] ++ zs.map (Value.int .u8) ++ [128].map (Value.int .u8) := by rw [hzs.out]; simp [padTo]; rfl
    rw [e, padTo_len, hzl.out]
    simpa using ho2
  clear ho2 hg2 ho1 hb1 hg1 hown0
  have hpl := padN_lt bs.length
  have hpo := padN_ok bs.length
  generalize hzz : padN bs.length = z at hpl hpo
  replace hzz := Lib.hid hzz
  go_loopw [3] (fun v wx => ∃ k : Nat, k ≤ z ∧ lenOf v = (padTo bs k).length ∧ wx.ownsRow w.heap.size 5 1 v (padTo bs k).length (((padTo bs k).map iv8).map (Value.int .u8)) ∧ Below w.heap.size w wx) (fun v _ => bs.length + 1 + z - lenOf v)
  case atStart => exact ⟨0, by omega, by obtain ⟨a2, c2, rfl, _⟩ := rowAt_own hown; simp [lenOf], hown, hb2⟩
  case round =>
    clear hown hb2
    obtain ⟨k, hk, hvl, hown, hb⟩ := hrel
    obtain ⟨a2, c2, rfl, hr2, hn2, _, _⟩ := rowAt_own hown
    clear hvl hr2 hn2
    have hkl := padTo_len bs k
    have hs1 := Lib.hid (padTo_succ bs k)
    have hs2 := Lib.hid (padTo_len bs (k + 1))
    have hfin : k = z → padK bs 0 = padTo bs k := fun e => by rw [padK_zero, e, hzz.out]
    replace hfin := Lib.hid hfin
    simp only [List.length_map] at hown ⊢
    generalize padTo bs k = pl at hown hkl hs1 hfin
    generalize hL : pl.length = L at hown hkl
    replace hL := Lib.hid hL
    by_cases hlt : k < z
    · have hne : ((L : Int) % 64 == 56) = false := by simp; omega
      have hsb2 : w.heap.size ≤ (wr.alloc (.cells #[.int .u8 0] 5)).heap.size := by have := hb.size; simp; omega
      go_wp2_with (at_builtin; refine wpList_append_row (wr.alloc (.cells #[.int .u8 0] 5)) rfl _ _ 22 rfl w.heap.size 5 i0 (.int .u8 0) 1 Try.underlying22 hi hz0 hz1 hz2 rfl _ L _ rfl (hown.alloc _) (some ⟨wr.heap.size, 0, none⟩) 1 .u8 [0] rfl (by simp) (rowAt_one wr 5 0) (by unfold maxLen; simp; omega) (by simp; omega) hsb2 ?_; intro v3 w3 ho3 hg3)
      have hb3 : Below w.heap.size w w3 := (xalloc hb _).grown hg3 hsb2 (fun j hj => (hown.lt j hj).1)
      have hown3 : w3.ownsRow w.heap.size 5 1 v3 (padTo bs (k + 1)).length (((padTo bs (k + 1)).map iv8).map (Value.int .u8)) := by
        rw [hs2.out, hs1.out, show bs.length + 1 + (k + 1) = L + 1 by omega]
        simpa [show iv8 (0#8) = 0 from rfl] using ho3
      clear ho3 hg3 hown
      go_wp2
      go_roundw
      case rel => exact ⟨k + 1, by omega, by obtain ⟨a4, c4, rfl, _⟩ := rowAt_own hown3; simp [lenOf], hown3, hb3⟩
      case measure => obtain ⟨a4, c4, rfl, _⟩ := rowAt_own hown3; simp [lenOf]; rw [hs2.out]; omega
    · have hkz : k = z := by omega
      have heq : ((L : Int) % 64 == 56) = true := by simp; omega
      have hown0 : wr.ownsRow w.heap.size 5 1 (.slice a2 L c2) (padK bs 0).length (((padK bs 0).map iv8).map (Value.int .u8)) := by rw [hfin.out hkz, hL.out]; exact hown
      have hL0 : L = (padK bs 0).length := by rw [hfin.out hkz, hL.out]
      obtain ⟨M, hM⟩ : ∃ M, M = 8 * zs.length := ⟨_, rfl⟩
      have hM2 : 8 * (zs.length : Int) = (M : Int) := by omega
      have hMl : M < 18446744073709551616 := by omega
      have hbz : Hid (M = 8 * bs.length) := Lib.hid (by rw [hM, hzl.out])
      have hbl : bs.length < 1000000 := hlen
      replace hM := Lib.hid hM
      clear hL0 hown
      replace hown0 := Lib.hid hown0
      clear hkl hfin hs1 hs2 hlt hk
      have hne2 : ((L : Int) % 64 != 56) = false := by rw [bne, heq]; rfl
      replace hne2 := Lib.hid hne2
      go_wp2
      try rw [hne2.out]
      clear heq
      go_loopw [3, 5] (fun v iv wx => ∃ t : Nat, t ≤ 8 ∧ iv = .int .i64 t ∧ Hid (wx.ownsRow w.heap.size 5 1 v (padK bs t).length (((padK bs t).map iv8).map (Value.int .u8))) ∧ Below w.heap.size w wx) (fun _ iv _ => 8 - (intOf iv).toNat)
      case atStart => exact ⟨0, by omega, rfl, hown0, hb⟩
      case round =>
        clear hown0 hb
        obtain ⟨t, ht, rfl, hown, hb⟩ := hrel
        by_cases hlt : t < 8
        · have ht2 : (t : Int) < 8 := by omega
          have hpk := Lib.hid (padK_succ bs t hlt)
          have hpl := Lib.hid (padK_len bs t (by omega))
          have hpl2 := Lib.hid (padK_len bs (t + 1) (by omega))
          have f0 : (8 * (t : Int)).toNat = 8 * t := by omega
          have f1 : IntKind.i64.wrap (8 * (t : Int)) = 8 * (t : Int) := by rw [IntKind.wrap_i64]; omega
          have f2 : IntKind.u64.wrap (8 * (t : Int)) = 8 * (t : Int) := by rw [IntKind.wrap_u64]; omega
          have f3 : 8 * (t : Int) < 64 := by omega
          have f4 : 0 ≤ 8 * (t : Int) := by omega
          obtain ⟨a3, c3, rfl⟩ := own_slice hown.out
          have hby : ((M : Int) / 2 ^ (8 * t) % 256) = iv8 (BitVec.ofNat 8 (8 * bs.length / 256 ^ t)) := by
            rw [← hbz.out]
            unfold iv8
            rw [BitVec.toNat_ofNat, show (256 : Nat) ^ t = 2 ^ (8 * t) by rw [Nat.pow_mul]]
            simp
          obtain ⟨X, hX⟩ : ∃ X, X = iv8 (BitVec.ofNat 8 (8 * bs.length / 256 ^ t)) := ⟨_, rfl⟩
          rw [← hX] at hby
          have hx1 : (padK bs t).length + [X].length ≤ maxLen := by unfold maxLen; rw [hpl.out]; simp; have := padN_lt bs.length; omega
          have hx2 : ((padK bs t).length + [X].length) * 1 ≤ 140737488355328 := by rw [hpl.out]; simp; have := padN_lt bs.length; omega
          have hx3 : w.heap.size ≤ (wr.alloc (.cells #[.int .u8 X] 5)).heap.size := by rw [World.size_alloc]; have := hb.size; omega
          obtain ⟨PL, hPL⟩ : ∃ n, n = (padK bs t).length := ⟨_, rfl⟩
          rw [← hPL] at hx1 hx2 hown ⊢
          replace hX := Lib.hid hX
          replace hx1 := Lib.hid hx1
          replace hx2 := Lib.hid hx2
          replace hx3 := Lib.hid hx3
          replace hPL := Lib.hid hPL
          go_wp2_with (at_builtin; rw [hby]; refine wpList_append_row (wr.alloc (.cells #[.int .u8 X] 5)) rfl _ _ 22 rfl w.heap.size 5 i0 (.int .u8 0) 1 Try.underlying22 hi hz0 hz1 hz2 rfl (.slice a3 PL c3) PL _ rfl (hown.out.alloc _) (some ⟨wr.heap.size, 0, none⟩) 1 .u8 [X] rfl (by simp) (rowAt_one wr 5 X) hx1.out hx2.out hx3.out ?_; intro v5 w5 ho5 hg5)
          have hb5 : Below w.heap.size w w5 := (xalloc hb _).grown hg5 hx3.out (fun k hk => (hown.out.lt k hk).1)
          have hown5 : w5.ownsRow w.heap.size 5 1 v5 (padK bs (t + 1)).length (((padK bs (t + 1)).map iv8).map (Value.int .u8)) := by
            rw [hpk.out, List.length_append, List.map_append, List.map_append, ← hPL.out]
            rw [hX.out] at ho5
            exact ho5
          go_wp2
          go_roundw
          case rel => exact ⟨t + 1, by omega, by go_num, Lib.hid hown5, hb5⟩
          case measure => simp [intOf]; omega
        · obtain rfl : t = 8 := by omega
          have hown8 := hown.out
          rw [padK_all] at hown8
          obtain ⟨a3, c3, rfl⟩ := own_slice hown8
          clear hlt
          go_wp2
          go_ret
          exact ⟨_, rfl, hown8, hb⟩
end Go.Proofs.Ytfafancacfjodaa
