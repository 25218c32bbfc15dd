/- Texts of this claim, merged; no condition. -/
import Derived.Test.YtijkdabmegbcjaaGreatDoorU09
set_option linter.all false
namespace Go.Proofs.YtijkdabmegbcjaaGreatDoor
open Go.RowKit

theorem info_u8 : (Tryz.prog.info? 5).map (fun i => (i.zero, i.size, i.bytes)) = some (some (Value.int .u8 0), 1, 1) := by kernel_rfl
set_option maxRecDepth 100000 in
set_option maxHeartbeats 1000000 in
theorem refRead_any (l : List Nat) (a : Option Addr) (c : Nat) (w : World) (h : RowAt .u8 w a (natI l)) (hl : l.length ≤ 32) (h256 : ∀ x ∈ l, x < 256) :
    Calls Tryz.prog 85 #[.slice a l.length c] w fun e w' => e = .returned (.tuple #[wordV (numN l), .int .i64 0]) ∧ Below w.heap.size w w' := by
  have hlI : (l.length : Int) ≤ 32 := by omega
  have hall := Lib.hid (readL_all l hl h256)
  have hset := Lib.hid (readL_set l)
  have hz := Lib.hid (readL_zero l)
  replace h := Lib.hid h
  replace h256 := Lib.hid h256
  go_enter Tryz.func85, Tryz.ntmps85
  go_wp2
  go_loopw [5] (fun i wr => ∃ k : Nat, k ≤ l.length ∧ i = .int .i64 k ∧ Hid (Blk .u64 wr w.heap.size 32 [0, 0, 0, 0]) ∧ Hid (Blk .u8 wr (w.heap.size + 1) 164 (readL l k)) ∧ Hid (Below w.heap.size w wr)) (fun i _ => 32 - (intOf i).toNat)
  case atStart => exact ⟨0, by omega, rfl, Lib.hid ((Blk.new w _ [0, 0, 0, 0]).alloc _), Lib.hid (by rw [hz.out]; exact Blk.new' (w.alloc _) (w.heap.size + 1) _ (List.replicate 32 0) (World.size_alloc _ _).symm), Lib.hid (xalloc (xalloc (xrefl _) _) _)⟩
  case round =>
    obtain ⟨k, hk, rfl, hR, hB, hb⟩ := hrel
    by_cases hlt : k < l.length
    · have hlt2 : (k : Int) < l.length := by omega
      obtain ⟨b, o, rfl, hc⟩ := (h.out.below hb.out) k (by rw [natI_len]; exact hlt)
      rw [natI_get] at hc
      have h1 := Lib.hid (hset.out k hl hlt)
      have ej : (32 : Int) - (l.length : Int) + (k : Int) = ((32 - l.length + k : Nat) : Int) := by omega
      have hj : 32 - l.length + k < 32 := by omega
      have hc2 := hB.out.cell (32 - l.length + k) (by rw [readL_len]; exact hj)
      have hf2 := hB.out.frozen (32 - l.length + k)
      have hS := hB.out.set (32 - l.length + k) (l[k] : Int)
      rw [h1.out] at hS
      have hR2 := hR.out.oth (c := w.heap.size + 1) (i := 32 - l.length + k) (.int .u8 (l[k] : Int)) (by omega)
      have hb2 := xsetb hb.out (c := w.heap.size + 1) (i := 32 - l.length + k) (by omega) (.int .u8 (l[k] : Int))
      have hx : l[k] < 256 := h256.out _ (List.getElem_mem hlt)
      replace hS := Lib.hid hS
      replace hR2 := Lib.hid hR2
      replace hb2 := Lib.hid hb2
      generalize l[k] = x at *
      generalize 32 - l.length + k = j at *
      generalize (readL l k)[j]'_ = y at *
      clear hB hR hb h1
      go_wp2
      exact ⟨⟨k + 1, by omega, rfl, hR2, hS, hb2⟩, by simp [intOf]; omega⟩
    · obtain rfl : k = l.length := by omega
      rw [hall.out] at hB
      clear hlt
      have hfrom := Lib.hid (refFrom_any (numN l))
      go_wp2_with (first
        | (refine wpList_load_blk rfl 164 _ rfl (w.heap.size + 1) rfl .u8 164 (bytesL (numN l)) _ _ hB.out Tryz.underlying164 (by rw [show (bytesL (numN l)).length = 32 by simp [bytesL]]; kernel_rfl) ?_)
        | (go_at_call 115; refine (hfrom.out _).mono ?_; rintro e w5 ⟨rfl, hb5⟩; have hR5 := Lib.hid (hR.out.below hb5))
        | (refine wpList_store_blk rfl 32 _ _ rfl w.heap.size rfl .u64 32 [0, 0, 0, 0] (wordL (numN l)) hR5.out rfl rfl (by kernel_rfl) ?_; intro w6 hB6 ho6))
      refine bodyPost_ret (results_blkG2 (p := 2) rfl _ _ w.heap.size 32 ((wordL (numN l)).map (Value.int .u64)) _ rfl hB6 Tryz.underlying32 rfl (by kernel_rfl)) rfl ⟨rfl, ?_⟩
      exact ho6.below (xtrans hb.out hb5) (Nat.le_trans hb.out.size hb5.size) (by rintro i rfl; omega)
/-- The bytes behind an op, the first k laid. -/
def behL (cs : List Nat) (i k : Nat) : List Int := (List.range (szN (byN cs i))).map fun j => if j < k then ((byN cs (i + 1 + j) : Nat) : Int) else 0
theorem behL_len (cs : List Nat) (i k : Nat) : (behL cs i k).length = szN (byN cs i) := by simp [behL]
theorem behL_zero (cs : List Nat) (i : Nat) : behL cs i 0 = List.replicate (szN (byN cs i)) 0 := by
  apply List.ext_getElem
  · simp [behL]
  · intro j h1 h2
    rw [List.getElem_replicate]
    simp [behL]
theorem behL_set (cs : List Nat) (i k : Nat) (hk : k < szN (byN cs i)) : (behL cs i k).set k ((byN cs (i + 1 + k) : Nat) : Int) = behL cs i (k + 1) := by
  apply List.ext_getElem
  · simp [behL]
  · intro j h1 h2
    rw [List.getElem_set]
    simp only [behL, List.getElem_map, List.getElem_range]
    by_cases e : k = j
    · subst e; rw [if_pos rfl, if_pos (by omega)]
    · rw [if_neg e]
      by_cases h3 : j < k
      · rw [if_pos h3, if_pos (by omega)]
      · rw [if_neg h3, if_neg (by omega)]
theorem behL_out (cs : List Nat) (i k : Nat) (hk : cs.length ≤ i + 1 + k) : behL cs i (k + 1) = behL cs i k := by
  apply List.ext_getElem
  · simp [behL]
  · intro j h1 h2
    simp only [behL, List.getElem_map, List.getElem_range]
    by_cases e : j = k
    · subst e
      rw [if_pos (by omega), if_neg (by omega)]
      unfold byN
      rw [List.getD_eq_getElem?_getD, List.getElem?_eq_none (by omega)]; rfl
    · by_cases h3 : j < k
      · rw [if_pos h3, if_pos (by omega)]
      · rw [if_neg h3, if_neg (by omega)]
theorem behL_all (cs : List Nat) (i : Nat) : behL cs i (szN (byN cs i)) = natI (restN cs i) := by
  apply List.ext_getElem
  · simp [behL, natI, restN]
  · intro j h1 h2
    have : j < szN (byN cs i) := by simpa [behL] using h1
    simp [behL, natI, restN, this]
set_option maxRecDepth 100000 in
set_option maxHeartbeats 1000000 in
theorem refBehind_anyL (cs : List Nat) (i : Nat) (a : Option Addr) (c : Nat) (w : World) (h : CodeL w a c cs) (hlt : i < cs.length) :
    Calls Tryz.prog 86 #[.slice a cs.length c, .int .i64 i] w fun e w' => (∃ b n, e = .returned (.slice (some ⟨b, 0, none⟩) (restN cs i).length n) ∧ RowAt .u8 w' (some ⟨b, 0, none⟩) (natI (restN cs i))) ∧ Below w.heap.size w w' := by
  obtain ⟨i0, hi0, hz0, hz1, hz2⟩ := info_parts info_u8
  have hsz := szN_le (byN cs i)
  have hmk : Hid (∀ W, (Instr.makeSlice 22 (.int .i64 (szN (byN cs i) : Int)) (.int .i64 (szN (byN cs i) : Int))).run Tryz.prog W = .ok (.slice (some ⟨W.heap.size, 0, none⟩) (szN (byN cs i)) (szN (byN cs i))) (W.alloc (.cells ((List.replicate (szN (byN cs i)) (0 : Int)).map (Value.int .u8)).toArray 5))) := Lib.hid fun W =>
    run_mk_ints 22 5 i0 .u8 1 Tryz.underlying22 hi0 hz0 hz1 hz2 (szN (byN cs i)) _ rfl (by omega) (by omega) W
  have hcl := h.len
  have hltI : (i : Int) < cs.length := by omega
  have hrl := restN_len cs i
  have hcells : Hid (∀ W, Below w.heap.size w W → ∃ b o, a = some ⟨b, o, none⟩ ∧ ∀ k, k < cs.length → W.cell? ⟨b, o + k, none⟩ = some (.int .u8 (byN cs k))) := Lib.hid fun W hW => by
    obtain ⟨b, o, e, -, -⟩ := (h.below hW).get hlt
    refine ⟨b, o, e, fun k hk => ?_⟩
    obtain ⟨b', o', e', hc, -⟩ := (h.below hW).get hk
    rw [e] at e'; cases e'; exact hc
  have h256 : Hid (∀ k, byN cs k < 256) := Lib.hid fun k => byN_lt h.ok k
  obtain ⟨b, o, rfl, hc0⟩ := hcells.out w (xrefl w)
  have hc1 := hc0 i hlt
  have hinf := Lib.hid (refSize_any (byN cs i) w (h256.out i))
  have hzero := behL_zero cs i
  have hall := behL_all cs i
  have hset := Lib.hid (behL_set cs i)
  have hout := Lib.hid (behL_out cs i)
  have hlen := Lib.hid (behL_len cs i)
  replace hc0 := Lib.hid hc0
  generalize hsN : szN (byN cs i) = sz at *
  generalize hxN : byN cs i = x at *
  replace hsN := Lib.hid hsN
  replace hxN := Lib.hid hxN
  replace hzero := Lib.hid hzero
  replace hall := Lib.hid hall
  replace hrl := Lib.hid hrl
  clear hi0 hz0 hz1 hz2 h hc0
  go_enter Tryz.func86, Tryz.ntmps86
  go_wp2_with (go_at_call 70; refine hinf.out.mono ?_; rintro e w1 ⟨⟨nm, ii, oo, g, q, rfl⟩, hb1⟩; replace hb1 := Lib.hid hb1)
  rw [hmk.out]
  have hB0 : Hid (Blk .u8 (w1.alloc (.cells ((List.replicate sz (0 : Int)).map (Value.int .u8)).toArray 5)) w1.heap.size 5 (List.replicate sz 0)) := Lib.hid (Blk.new w1 _ _)
  have hb0 : Hid (Below w.heap.size w (w1.alloc (.cells ((List.replicate sz (0 : Int)).map (Value.int .u8)).toArray 5))) := Lib.hid (xalloc hb1.out _)
  have hgw : w.heap.size ≤ w1.heap.size := hb1.out.size
  generalize w1.alloc (.cells ((List.replicate sz (0 : Int)).map (Value.int .u8)).toArray 5) = w2 at hB0 hb0 ⊢
  generalize w1.heap.size = gb at hB0 hgw ⊢
  clear hmk hb1 hinf
  go_wp2
  go_loopw [6] (fun iv wx => ∃ k : Nat, k ≤ sz ∧ iv = .int .i64 k ∧ Hid (Blk .u8 wx gb 5 (behL cs i k)) ∧ Hid (Below w.heap.size w wx)) (fun iv _ => 32 - (intOf iv).toNat)
  case atStart => exact ⟨0, by omega, rfl, by rw [hzero.out]; exact hB0, hb0⟩
  case round =>
    clear hB0 hb0
    obtain ⟨k, hk, rfl, hB, hb⟩ := hrel
    by_cases hk2 : k < sz
    · have hkI : (k : Int) < sz := by omega
      have hkN : ¬ (sz : Int) ≤ k := by omega
      by_cases hin : i + 1 + k < cs.length
      · have hinI : (i : Int) + 1 + (k : Int) < cs.length := by omega
        obtain ⟨b', o', e', hc⟩ := hcells.out wr hb.out
        cases e'
        have hc2 := hc (i + 1 + k) hin
        have ej : (i : Int) + 1 + (k : Int) = ((i + 1 + k : Nat) : Int) := by omega
        have hc3 := hB.out.cell k (by rw [hlen.out]; exact hk2)
        have hf3 := hB.out.frozen k
        have hS := hB.out.set k ((byN cs (i + 1 + k) : Nat) : Int)
        rw [hset.out k hk2] at hS
        have hb2 := xsetb hb.out (c := gb) (i := k) hgw (.int .u8 ((byN cs (i + 1 + k) : Nat) : Int))
        have hy := h256.out (i + 1 + k)
        replace hS := Lib.hid hS
        replace hb2 := Lib.hid hb2
        generalize (behL cs i k)[k]'_ = y0 at *
        rw [ej] at hinI
        generalize hJ : i + 1 + k = j at *
        replace hJ := Lib.hid hJ
        generalize byN cs j = y at *
        clear hc hB hb hin
        go_wp2
        exact ⟨⟨k + 1, by omega, rfl, hS, hb2⟩, by simp [intOf]; omega⟩
      · have hinI : ¬ (i : Int) + 1 + (k : Int) < cs.length := by omega
        have e := hout.out k (by omega)
        rw [← e] at hB
        clear hin e
        go_wp2
        exact ⟨⟨k + 1, by omega, rfl, hB, hb⟩, by simp [intOf]; omega⟩
    · obtain rfl : k = sz := by omega
      rw [hall.out] at hB
      have hR : RowAt .u8 wr (some ⟨gb, 0, none⟩) (natI (restN cs i)) := by have := hB.out.row 0; simpa using this
      have hkN : (k : Int) ≤ k := by omega
      replace hR := Lib.hid hR
      clear hB hk2
      go_wp2
      go_ret
      exact ⟨⟨gb, k, by rw [hrl.out]; rfl, hR.out⟩, hb.out⟩
end Go.Proofs.YtijkdabmegbcjaaGreatDoor
namespace Go.Proofs.YtijkdabmegbcjaaGreatDoor
open Go.RowKit

theorem inN_true {l : List Nat} {n : Int} (h : inN l n = true) : ∃ k ∈ l, (k : Int) = n := by
  unfold inN at h
  rw [List.any_eq_true] at h
  obtain ⟨k, h1, h2⟩ := h
  exact ⟨k, h1, by simpa using h2⟩
/-- What a PUSH at a place puts; none. -/
def pushZ (cs : List Nat) (n : Int) : Option Nat := if inN (opsL cs) n = true then pushV cs n.toNat else none
theorem pushZ_nat (cs : List Nat) (n : Nat) : pushZ cs n = pushN cs n := by
  unfold pushZ pushN
  rw [inN_nat, Int.toNat_natCast]
  simp
theorem wrap64_small' (n : Nat) (h : n < 9223372036854775808) : wrap64 (n : Int) = n := by rw [wrap64]; omega
def optV (r : Option Nat) : Value := .tuple #[wordV (r.getD 0), .bool r.isSome]
theorem wordV_L (N : Nat) : wordV N = .agg ((wordL N).map (Value.int .u64)).toArray := rfl
set_option maxRecDepth 100000 in
set_option maxHeartbeats 1000000 in
theorem refPush_anyL (cs : List Nat) (n : Int) (a : Option Addr) (c : Nat) (w : World) (h : CodeL w a c cs) :
    Calls Tryz.prog 51 #[.slice a cs.length c, .int .i64 n] w fun e w' => e = .returned (optV (pushZ cs n)) ∧ Below w.heap.size w w' := by
  have hcl := h.len
  have hol := opsL_len cs
  have hR0 : Hid (Blk .u64 (w.alloc (.cells #[.int .u64 0, .int .u64 0, .int .u64 0, .int .u64 0] 32)) w.heap.size 32 [0, 0, 0, 0]) := Lib.hid (Blk.new w _ [0, 0, 0, 0])
  have hb0 : Hid (Below w.heap.size w (w.alloc (.cells #[.int .u64 0, .int .u64 0, .int .u64 0, .int .u64 0] 32))) := Lib.hid (xalloc (xrefl _) _)
  have hops := Lib.hid (refOps_anyL cs a c _ (h.below (xalloc (xrefl w) (.cells #[.int .u64 0, .int .u64 0, .int .u64 0, .int .u64 0] 32))))
  have hpz : pushZ cs n = if inN (opsL cs) n = true then pushV cs n.toNat else none := rfl
  have hin := Lib.hid fun a1 c1 W (hI : IntsAt W a1 c1 (opsL cs)) => refIn_any (opsL cs) n a1 c1 W hI (by omega)
  have hpush : Hid (∀ i, pushV cs i = if 95 ≤ byN cs i ∧ byN cs i ≤ 127 then some (numN (restN cs i)) else none) := Lib.hid fun i => rfl
  have hu := Tryz.underlying32
  cases hI : inN (opsL cs) n with
  | false =>
    rw [hI] at hin hpz
    rw [if_neg (by decide)] at hpz
    rw [hpz]
    clear hpz hpush
    replace hI := Lib.hid hI
    go_enter Tryz.func51, Tryz.ntmps51
    go_wp2_with (first
      | (go_at_call 48; refine hops.out.mono ?_; rintro e w1 ⟨⟨v, rfl, hv⟩, hb1⟩; obtain ⟨a1, c1, rfl, hI1, -⟩ := hv.at; replace hI1 := Lib.hid hI1; clear hv hops; replace hb1 := Lib.hid hb1; replace hR0 := Lib.hid (hR0.out.below hb1.out))
      | (go_at_call 47; refine (hin.out a1 c1 _ hI1.out).mono ?_; rintro e w2 ⟨rfl, rfl⟩)
      | (refine wpList_store_blk rfl 32 _ _ rfl w.heap.size rfl .u64 32 [0, 0, 0, 0] [0, 0, 0, 0] hR0.out rfl rfl (by kernel_rfl) ?_; intro w6 hB6 ho6; replace hB6 := Lib.hid hB6; replace ho6 := Lib.hid ho6))
    refine bodyPost_ret (results_blkG2 (p := 4) rfl _ _ w.heap.size 32 _ _ rfl hB6.out hu rfl (by kernel_rfl)) rfl ⟨rfl, ?_⟩
    exact ho6.out.below (xtrans hb0.out hb1.out) (xtrans hb0.out hb1.out).size (by rintro i rfl; omega)
  | true =>
    rw [hI] at hin hpz
    rw [if_pos rfl] at hpz
    obtain ⟨k, hk, rfl⟩ := inN_true hI
    rw [Int.toNat_natCast] at hpz
    have hlt := opsL_lt hk
    have hltI : (k : Int) < cs.length := by omega
    obtain ⟨b, o, rfl, hc, h256⟩ := h.get hlt
    have hrl := restN_len cs k
    have hsz := szN_le (byN cs k)
    have hrlt := Lib.hid (restN_lt h.ok k)
    have hbeh := Lib.hid fun W (hW : Below w.heap.size w W) => refBehind_anyL cs k _ c W (h.below hW) hlt
    have hread := fun W b2 n2 (hr : RowAt .u8 W (some ⟨b2, 0, none⟩) (natI (restN cs k))) => refRead_any (restN cs k) (some ⟨b2, 0, none⟩) n2 W hr (by omega) hrlt.out
    unfold wordV at hread
    replace hread := Lib.hid hread
    rw [hpz, hpush.out]
    clear hpz hpush h hrl
    replace hI := Lib.hid hI
    replace hk := Lib.hid hk
    have hcc : Hid (∀ W, Below w.heap.size w W → W.cell? ⟨b, o + k, none⟩ = some (.int .u8 (byN cs k))) := Lib.hid fun W hW => cbel hW hc
    generalize byN cs k = x at *
    clear hc
    by_cases x1 : x < 95
    · rw [if_neg (by omega)]
      have x2 : (x : Int) < 95 := by omega
      go_enter Tryz.func51, Tryz.ntmps51
      go_wp2_with (first
        | (go_at_call 48; refine hops.out.mono ?_; rintro e w1 ⟨⟨v, rfl, hv⟩, hb1⟩; obtain ⟨a1, c1, rfl, hI1, -⟩ := hv.at; replace hI1 := Lib.hid hI1; clear hv hops; replace hb1 := Lib.hid hb1; replace hR0 := Lib.hid (hR0.out.below hb1.out); have hcl := hcc.out w1 (xtrans hb0.out hb1.out))
        | (go_at_call 47; refine (hin.out a1 c1 _ hI1.out).mono ?_; rintro e w2 ⟨rfl, rfl⟩)
        | (refine wpList_store_blk rfl 32 _ _ rfl w.heap.size rfl .u64 32 [0, 0, 0, 0] [0, 0, 0, 0] hR0.out rfl rfl (by kernel_rfl) ?_; intro w6 hB6 ho6; replace hB6 := Lib.hid hB6; replace ho6 := Lib.hid ho6))
      refine bodyPost_ret (results_blkG2 (p := 4) rfl _ _ w.heap.size 32 _ _ rfl hB6.out hu rfl (by kernel_rfl)) rfl ⟨rfl, ?_⟩
      exact ho6.out.below (xtrans hb0.out hb1.out) (xtrans hb0.out hb1.out).size (by rintro i rfl; omega)
    · have x2 : ¬ (x : Int) < 95 := by omega
      by_cases x3 : 127 < x
      · rw [if_neg (by omega)]
        have x4 : (127 : Int) < x := by omega
        go_enter Tryz.func51, Tryz.ntmps51
        go_wp2_with (first
          | (go_at_call 48; refine hops.out.mono ?_; rintro e w1 ⟨⟨v, rfl, hv⟩, hb1⟩; obtain ⟨a1, c1, rfl, hI1, -⟩ := hv.at; replace hI1 := Lib.hid hI1; clear hv hops; replace hb1 := Lib.hid hb1; replace hR0 := Lib.hid (hR0.out.below hb1.out); have hcl := hcc.out w1 (xtrans hb0.out hb1.out))
          | (go_at_call 47; refine (hin.out a1 c1 _ hI1.out).mono ?_; rintro e w2 ⟨rfl, rfl⟩)
          | (refine wpList_store_blk rfl 32 _ _ rfl w.heap.size rfl .u64 32 [0, 0, 0, 0] [0, 0, 0, 0] hR0.out rfl rfl (by kernel_rfl) ?_; intro w6 hB6 ho6; replace hB6 := Lib.hid hB6; replace ho6 := Lib.hid ho6))
        refine bodyPost_ret (results_blkG2 (p := 4) rfl _ _ w.heap.size 32 _ _ rfl hB6.out hu rfl (by kernel_rfl)) rfl ⟨rfl, ?_⟩
        exact ho6.out.below (xtrans hb0.out hb1.out) (xtrans hb0.out hb1.out).size (by rintro i rfl; omega)
      · rw [if_pos (by omega)]
        have x4 : ¬ (127 : Int) < x := by omega
        generalize hW : numN (restN cs k) = W at *
        replace hW := Lib.hid hW
        generalize restN cs k = rest at *
        go_enter Tryz.func51, Tryz.ntmps51
        go_wp2_with (first
          | (go_at_call 48; refine hops.out.mono ?_; rintro e w1 ⟨⟨v, rfl, hv⟩, hb1⟩; obtain ⟨a1, c1, rfl, hI1, -⟩ := hv.at; replace hI1 := Lib.hid hI1; clear hv hops; replace hR0 := Lib.hid (hR0.out.below hb1); replace hb1 := Lib.hid (xtrans hb0.out hb1); have hcl := hcc.out w1 hb1.out)
          | (go_at_call 47; refine (hin.out a1 c1 _ hI1.out).mono ?_; rintro e w2 ⟨rfl, rfl⟩)
          | (go_at_call 86; refine (hbeh.out _ hb1.out).mono ?_; rintro e w3 ⟨⟨b3, n3, rfl, hr3⟩, hb3⟩; replace hr3 := Lib.hid hr3; replace hb3 := Lib.hid hb3)
          | (go_at_call 85; refine (hread.out _ _ _ (by exact hr3.out)).mono ?_; rintro e w4 ⟨rfl, hb4⟩; replace hb4 := Lib.hid (xtrans hb3.out hb4))
          | (refine wpList_store_blk rfl 32 _ _ rfl w.heap.size rfl .u64 32 [0, 0, 0, 0] (wordL W) ((hR0.out.below hb4.out).alloc _) rfl rfl (by kernel_rfl) ?_; intro w6 hB6 ho6; replace hB6 := Lib.hid hB6; replace ho6 := Lib.hid ho6))
        refine bodyPost_ret (results_blkG2 (p := 4) rfl _ _ w.heap.size 32 _ _ rfl hB6.out hu rfl (by kernel_rfl)) rfl ⟨rfl, ?_⟩
        exact ho6.out.below (xalloc (xtrans hb1.out hb4.out) _) (xalloc (xtrans hb1.out hb4.out) _).size (by rintro i rfl; omega)
set_option maxRecDepth 100000 in
set_option maxHeartbeats 1000000 in
theorem refMark_anyL (cs : List Nat) (N : Nat) (a : Option Addr) (c : Nat) (w : World) (h : CodeL w a c cs) (hN : N < 2 ^ 256) :
    Calls Tryz.prog 82 #[.slice a cs.length c, wordV N] w fun e w' => e = .returned (.bool (markN cs N)) ∧ Below w.heap.size w w' := by
  have hcl := h.len
  have hB0 : Hid (BlkG (w.alloc (.cells ((wordL N).map (Value.int .u64)).toArray 32)) w.heap.size 32 ((wordL N).map (Value.int .u64))) := Lib.hid (BlkG.new w _ _)
  have hb0 : Hid (Below w.heap.size w (w.alloc (.cells ((wordL N).map (Value.int .u64)).toArray 32))) := Lib.hid (xalloc (xrefl _) _)
  have hsmall := Lib.hid fun W => refSmall_any N W hN
  have hmarks := Lib.hid fun W (hW : Below w.heap.size w W) => refMarks_anyL cs a c W (h.below hW)
  have hml : (marksL cs).length ≤ 1048576 := by
    have h1 := List.length_filter_le (fun i => byN cs i == 91) (opsL cs)
    have h2 := opsL_len cs
    unfold marksL; omega
  have hin := Lib.hid fun a1 c1 W (hI : IntsAt W a1 c1 (marksL cs)) => refIn_any (marksL cs) N a1 c1 W hI (by omega)
  rw [inN_nat] at hin
  have hu := Tryz.underlying32
  rw [wordV_L] at *
  by_cases h1 : N < 18446744073709551616
  · have e : smallN N = (N, true) := by unfold smallN; rw [if_pos h1]
    rw [e] at hsmall
    by_cases h2 : N < cs.length
    · have em : markN cs N = decide (N ∈ marksL cs) := by unfold markN; simp [h2]
      rw [em]
      have h3 : (N : Int) < cs.length := by omega
      have hw1 : IntKind.u64.wrap (cs.length : Int) = cs.length := by simp [IntKind.wrap, IntKind.bits, IntKind.signed]; omega
      have hw2 : wrap64 (N : Int) = N := by rw [wrap64_small' N (by omega)]
      generalize decide (N ∈ marksL cs) = r at *
      generalize hL : (wordL N).map (Value.int .u64) = L at *
      replace hL := Lib.hid hL
      clear e em h1 h2
      go_enter Tryz.func82, Tryz.ntmps82
      go_wp2_with (first
        | (refine wpList_load_blkG rfl 32 _ rfl w.heap.size rfl 32 _ _ hB0.out hu rfl (by rw [← hL.out]; kernel_rfl) ?_)
        | (go_at_call 81; refine (hsmall.out _).mono ?_; rintro e w1 ⟨rfl, hb1⟩; replace hb1 := Lib.hid (xtrans hb0.out hb1))
        | (go_at_call 80; refine (hmarks.out _ hb1.out).mono ?_; rintro e w2 ⟨⟨v, rfl, hv⟩, hb2⟩; obtain ⟨a1, c1, rfl, hI1, -⟩ := hv.at; replace hI1 := Lib.hid hI1; clear hv; replace hb2 := Lib.hid hb2)
        | (go_at_call 47; refine (hin.out a1 c1 _ hI1.out).mono ?_; rintro e w3 ⟨rfl, rfl⟩))
      go_ret
      exact ⟨rfl, xtrans hb1.out hb2.out⟩
    · have em : markN cs N = false := by unfold markN; simp [h2]
      rw [em]
      have h3 : ¬ (N : Int) < cs.length := by omega
      have hw1 : IntKind.u64.wrap (cs.length : Int) = cs.length := by simp [IntKind.wrap, IntKind.bits, IntKind.signed]; omega
      generalize hL : (wordL N).map (Value.int .u64) = L at *
      replace hL := Lib.hid hL
      clear e em h1 h2 hin hmarks
      go_enter Tryz.func82, Tryz.ntmps82
      go_wp2_with (first
        | (refine wpList_load_blkG rfl 32 _ rfl w.heap.size rfl 32 _ _ hB0.out hu rfl (by rw [← hL.out]; kernel_rfl) ?_)
        | (go_at_call 81; refine (hsmall.out _).mono ?_; rintro e w1 ⟨rfl, hb1⟩; replace hb1 := Lib.hid (xtrans hb0.out hb1)))
      go_ret
      exact ⟨rfl, hb1.out⟩
  · have e : smallN N = (0, false) := by unfold smallN; rw [if_neg h1]
    rw [e] at hsmall
    have em : markN cs N = false := by unfold markN; rw [decide_eq_false (by omega)]; rfl
    rw [em]
    generalize hL : (wordL N).map (Value.int .u64) = L at *
    replace hL := Lib.hid hL
    clear e em h1 hin hmarks
    go_enter Tryz.func82, Tryz.ntmps82
    go_wp2_with (first
      | (refine wpList_load_blkG rfl 32 _ rfl w.heap.size rfl 32 _ _ hB0.out hu rfl (by rw [← hL.out]; kernel_rfl) ?_)
      | (go_at_call 81; refine (hsmall.out _).mono ?_; rintro e w1 ⟨rfl, hb1⟩; replace hb1 := Lib.hid (xtrans hb0.out hb1)))
    go_ret
    exact ⟨rfl, hb1.out⟩
end Go.Proofs.YtijkdabmegbcjaaGreatDoor
namespace Go.Proofs.YtijkdabmegbcjaaGreatDoor
open Go.RowKit

@[go_sem high] theorem field_name (v0 v1 v2 v3 v4 v5 : Value) (w : World) : (Instr.field 113 (.agg #[v0, v1, v2, v3, v4, v5]) 0).run Tryz.prog w = .ok v0 w := by kernel_rfl
theorem refEnds_is (c : Nat) (w : World) (h : c = 0 ∨ c = 243 ∨ c = 253 ∨ c = 254 ∨ c = 255) : Calls Tryz.prog 79 #[.int .u8 c] w fun e w' => e = .returned (.bool true) ∧ Below w.heap.size w w' := by
  rcases h with rfl | rfl | rfl | rfl | rfl
  all_goals
    go_enter Tryz.func79, Tryz.ntmps79
    go_wp2
    go_ret
    exact ⟨rfl, xrefl _⟩
theorem refEnds_not (z : Int) (m : List UInt8) (i o g q s : Value) (w : World) (h0 : ¬ z = 0) (h1 : ¬ z = 243) (h2 : ¬ z = 253) (h3 : ¬ z = 254) (h4 : ¬ z = 255)
    (hi : Calls Tryz.prog 70 #[.int .u8 z] w fun e w' => e = .returned (.agg #[.string ⟨m.toArray⟩, i, o, g, q, s]) ∧ Below w.heap.size w w') :
    Calls Tryz.prog 79 #[.int .u8 z] w fun e w' => e = .returned (.bool m.isEmpty) ∧ Below w.heap.size w w' := by
  replace hi := Lib.hid hi
  go_enter Tryz.func79, Tryz.ntmps79
  go_wp2_with (go_at_call 70; refine hi.out.mono ?_; rintro e w1 ⟨rfl, hb1⟩)
  go_ret
  refine ⟨?_, hb1⟩
  have b0 : (z == 0) = false := by simpa using h0
  have b1 : (z == 243) = false := by simpa using h1
  have b2 : (z == 253) = false := by simpa using h2
  have b3 : (z == 254) = false := by simpa using h3
  have b4 : (z == 255) = false := by simpa using h4
  show Ending.returned (Value.bool (z == 0 || z == 243 || z == 253 || z == 254 || z == 255 || m.isEmpty)) = _
  rw [b0, b1, b2, b3, b4]
  rfl
theorem refEnds_any (c : Nat) (w : World) (hc : c < 256) : Calls Tryz.prog 79 #[.int .u8 c] w fun e w' => e = .returned (.bool (endN c)) ∧ Below w.heap.size w w' := by
  by_cases h : c = 0 ∨ c = 243 ∨ c = 253 ∨ c = 254 ∨ c = 255
  · have e : endN c = true := by rcases h with rfl | rfl | rfl | rfl | rfl <;> decide
    rw [e]
    exact refEnds_is c w h
  · have e : endN c = (infoN c).name.isEmpty := by
      rw [info_named c hc]
      simp only [not_or] at h
      unfold endN
      simp [h.1, h.2.1, h.2.2.1, h.2.2.2.1, h.2.2.2.2]
    rw [e]
    exact refEnds_not c _ _ _ _ _ _ w (by omega) (by omega) (by omega) (by omega) (by omega) (refInfo_any c w hc)
set_option maxRecDepth 100000 in
set_option maxHeartbeats 1000000 in
theorem refInts_any (l l' : List Nat) (a a' : Option Addr) (c c' : Nat) (w : World) (h : IntsAt w a c l) (h' : IntsAt w a' c' l') (hl : l.length ≤ 1000) (hl' : l'.length ≤ 1000) :
    Calls Tryz.prog 22 #[.slice a l.length c, .slice a' l'.length c'] w fun e w' => e = .returned (.bool (decide (l = l'))) ∧ ∃ k, w' = w.drewN k := by
  by_cases hn : l.length = l'.length
  · have hn2 : (l.length : Int) = (l'.length : Int) := by omega
    have hyes : Hid ((∀ j, (h : j < l.length) → l[j] = l'[j]'(by omega)) → decide (l = l') = true) := Lib.hid fun h => decide_eq_true (List.ext_getElem hn fun j h1 h2 => h j h1)
    have hno : Hid (∀ j, (h : j < l.length) → l[j] ≠ l'[j]'(by omega) → decide (l = l') = false) := Lib.hid fun j h hne => decide_eq_false (by rintro rfl; exact hne rfl)
    generalize decide (l = l') = r at *
    have hg : Hid (∀ j, (hj : j < l.length) → ∀ k, ∃ b o b' o', a = some ⟨b, o, none⟩ ∧ a' = some ⟨b', o', none⟩ ∧ (w.drewN k).cell? ⟨b, o + j, none⟩ = some (.int .i64 (l[j] : Int)) ∧ (w.drewN k).cell? ⟨b', o' + j, none⟩ = some (.int .i64 ((l'[j]'(by omega) : Nat) : Int))) := Lib.hid fun j hj k => by
      obtain ⟨b, o, e1, h1⟩ := (h.below (xdrewN (xrefl w) k)).get hj
      obtain ⟨b', o', e2, h2⟩ := (h'.below (xdrewN (xrefl w) k)).get (show j < l'.length by omega)
      exact ⟨b, o, b', o', e1, e2, h1, h2⟩
    clear h h'
    go_enter Tryz.func22, Tryz.ntmps22
    go_wp2
    go_loopw [5] (fun i wr => ∃ k m : Nat, k ≤ l.length ∧ i = .int .i64 k ∧ Hid (wr = w.drewN m) ∧ Hid (∀ j, (h : j < l.length) → j < k → l[j] = l'[j]'(by omega))) (fun i _ => l.length - (intOf i).toNat)
    case atStart => exact ⟨0, 0, by omega, rfl, Lib.hid rfl, Lib.hid fun j _ h => by omega⟩
    case round =>
      obtain ⟨k, m, hk, rfl, hw, hs⟩ := hrel
      by_cases hlt : k < l.length
      · have hlt2 : (k : Int) < l.length := by omega
        have hlt3 : (k : Int) < l'.length := by omega
        obtain ⟨b, o, b', o', rfl, rfl, c1, c2⟩ := hg.out k hlt m
        rw [← hw.out] at c1 c2
        have hn3 : Hid (∀ x : Prop, x → x) := Lib.hid fun _ h => h
        by_cases e : l[k] = l'[k]'(by omega)
        · have hs2 : Hid (∀ j, (h : j < l.length) → j < k + 1 → l[j] = l'[j]'(by omega)) := Lib.hid fun j h hj => by
            by_cases e2 : j = k
            · subst e2; exact e
            · exact hs.out j h (by omega)
          rw [← e] at c2
          generalize l[k] = y at *
          clear e
          go_wp2
          go_region
          go_wp2
          go_roundw
          case rel => exact ⟨k + 1, m + 1, by omega, rfl, Lib.hid (by rw [hw.out]; rfl), hs2⟩
          case measure => simp [intOf]; omega
        · have hr := hno.out k hlt e
          subst hr
          have e2 : ¬ (l[k] : Int) = ((l'[k]'(by omega) : Nat) : Int) := by omega
          generalize (l[k] : Int) = y at *
          generalize ((l'[k]'(by omega) : Nat) : Int) = y' at *
          clear e
          go_wp2
          go_region
          go_wp2
          go_ret
          exact ⟨rfl, m + 1, by rw [hw.out]; rfl⟩
      · obtain rfl : k = l.length := by omega
        have hr := hyes.out fun j h => hs.out j h h
        subst hr
        clear hlt
        go_wp2
        go_ret
        exact ⟨rfl, m, hw.out⟩
  · have e : decide (l = l') = false := decide_eq_false (by rintro rfl; exact hn rfl)
    rw [e]
    have hn2 : ¬ (l.length : Int) = (l'.length : Int) := by omega
    go_enter Tryz.func22, Tryz.ntmps22
    go_wp2
    go_ret
    exact ⟨rfl, 0, rfl⟩
theorem tw_take (n : Nat) (l : List Nat) : l.takeWhile (fun y => decide (y < n)) = l.take (l.takeWhile (fun y => decide (y < n))).length := by
  have h := List.takeWhile_append_dropWhile (p := fun y => decide (y < n)) (l := l)
  have e : (l.takeWhile (fun y => decide (y < n)) ++ l.dropWhile (fun y => decide (y < n))).take (l.takeWhile (fun y => decide (y < n))).length = l.takeWhile (fun y => decide (y < n)) := List.take_left
  rw [h] at e
  exact e.symm
theorem dw_drop (n : Nat) (l : List Nat) : l.dropWhile (fun y => decide (y < n)) = l.drop (l.takeWhile (fun y => decide (y < n))).length := by
  have h := List.takeWhile_append_dropWhile (p := fun y => decide (y < n)) (l := l)
  have e : (l.takeWhile (fun y => decide (y < n)) ++ l.dropWhile (fun y => decide (y < n))).drop (l.takeWhile (fun y => decide (y < n))).length = l.dropWhile (fun y => decide (y < n)) := List.drop_left
  rw [h] at e
  exact e.symm
theorem tw_facts (n : Nat) : ∀ l : List Nat, (∀ i, i < (l.takeWhile (fun y => decide (y < n))).length → ∀ h : i < l.length, l[i] < n) ∧ (∀ h : (l.takeWhile (fun y => decide (y < n))).length < l.length, n ≤ l[(l.takeWhile (fun y => decide (y < n))).length])
  | [] => by simp
  | x :: l => by
    obtain ⟨h1, h2⟩ := tw_facts n l
    by_cases e : x < n
    · have ew : (x :: l).takeWhile (fun y => decide (y < n)) = x :: l.takeWhile (fun y => decide (y < n)) := by simp [e]
      constructor
      · intro i hi h
        rw [ew] at hi
        cases i with
        | zero => exact e
        | succ i => exact h1 i (by simpa using hi) (by simpa using h)
      · intro h
        simp only [ew] at h ⊢
        simp only [List.length_cons, List.getElem_cons_succ]
        exact h2 (by simpa using h)
    · have ew : (x :: l).takeWhile (fun y => decide (y < n)) = [] := by simp [e]
      constructor
      · intro i hi; rw [ew] at hi; simp at hi
      · intro h
        simp only [ew, List.length_nil, List.getElem_cons_zero]
        omega
/-- What 'with' has built behind the number. -/
def withTo (l : List Nat) (n K i : Nat) : List Nat := l.take K ++ n :: ((l.drop K).take (i - K)).filter (fun y => y ≠ n)
theorem withTo_zero (l : List Nat) (n K : Nat) : withTo l n K K = l.take K ++ [n] := by unfold withTo; simp
theorem withTo_all (l : List Nat) (n : Nat) : withTo l n (l.takeWhile (fun y => decide (y < n))).length l.length = insW n l := by
  unfold withTo
  rw [insW_parts, ← tw_take, dw_drop]
  congr 3
  rw [List.take_of_length_le (by rw [List.length_drop]; omega)]
theorem withTo_step (l : List Nat) (n K i : Nat) (h : i < l.length) (hK : K ≤ i) : withTo l n K (i + 1) = withTo l n K i ++ if l[i] ≠ n then [l[i]] else [] := by
  unfold withTo
  have e : (l.drop K).take (i + 1 - K) = (l.drop K).take (i - K) ++ [l[i]] := by
    rw [show i + 1 - K = (i - K) + 1 by omega, List.take_succ_eq_append_getElem (by rw [List.length_drop]; omega), List.getElem_drop]
    simp only [show K + (i - K) = i by omega]
  rw [e, List.filter_append]
  by_cases e2 : l[i] = n
  · simp [e2]
  · simp [e2]
theorem withTo_len (l : List Nat) (n K i : Nat) : (withTo l n K i).length ≤ 2 * l.length + 1 := by
  unfold withTo
  have h1 := List.length_filter_le (fun y => decide (y ≠ n)) ((l.drop K).take (i - K))
  simp only [List.length_append, List.length_cons, List.length_take, List.length_drop] at h1 ⊢
  omega
end Go.Proofs.YtijkdabmegbcjaaGreatDoor
