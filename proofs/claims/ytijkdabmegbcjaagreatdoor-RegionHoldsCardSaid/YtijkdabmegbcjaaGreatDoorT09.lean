/- Texts of this claim, merged; no condition. -/
import Derived.Test.YtijkdabmegbcjaaGreatDoorT08
import Derived.Test.YtijkdabmegbcjaaGreatDoorTA
set_option linter.all false
namespace Go.Proofs.YtijkdabmegbcjaaGreatDoor
section
open Go.RowKit
theorem marks_step {cs : List Nat} {k : Nat} (h : k < (opsL cs).length) : ((opsL cs).take (k + 1)).filter (fun i => byN cs i == 91) = ((opsL cs).take k).filter (fun i => byN cs i == 91) ++ if byN cs (opsL cs)[k] = 91 then [(opsL cs)[k]] else [] := by
  rw [List.take_succ_eq_append_getElem h, List.filter_append]
  congr 1
  by_cases e : byN cs (opsL cs)[k] = 91
  · simp [e]
  · simp [e]
set_option maxRecDepth 100000 in
set_option maxHeartbeats 1000000 in
theorem refMarks_anyL (cs : List Nat) (a : Option Addr) (c : Nat) (w : World) (h : CodeL w a c cs) :
    Calls Tryz.prog 80 #[.slice a cs.length c] w fun e w' => (∃ v, e = .returned v ∧ OwnI w w' v (marksL cs)) ∧ Below w.heap.size w w' := by
  obtain ⟨i0, hi, hz0, hz1, hz2⟩ := info_parts info_int
  have hcl := h.len
  have hol := opsL_len cs
  have hops := qh (refOps_anyL cs a c w h)
  replace h := qh h
  go_enter Tryz.func80, Tryz.ntmps80
  go_wp2_with (go_at_call 48; refine hops.out.mono ?_; rintro e w1 ⟨⟨v, rfl, hv⟩, hb1⟩; obtain ⟨a1, c1, rfl, hI, -⟩ := hv.at; replace hI := qh hI; clear hv hops; replace hb1 := qh hb1)
  go_loopw [3, 5] (fun v i wx => ∃ (k : Nat), k ≤ (opsL cs).length ∧ i = .int .i64 k ∧ Hid (OwnI w1 wx v (((opsL cs).take k).filter fun i => byN cs i == 91)) ∧ Hid (Below w1.heap.size w1 wx)) (fun _ i _ => 1048700 - (intOf i).toNat)
  case atStart => exact ⟨0, by omega, rfl, qh (OwnI.nil w1), qh (xrefl w1)⟩
  case round =>
    obtain ⟨k, hk, rfl, hown, hb⟩ := hrel
    by_cases hlt : k < (opsL cs).length
    · have hlt2 : (k : Int) < (opsL cs).length := by omega
      obtain ⟨b1, o1, rfl, -⟩ := hI.out.get hlt
      have hcell1 : Hid (∀ W, Below w1.heap.size w1 W → W.cell? ⟨b1, o1 + k, none⟩ = some (.int .i64 ((opsL cs)[k] : Int))) := qh fun W hW => by
        obtain ⟨b', o', e, hc⟩ := (hI.out.below hW).get hlt
        cases e; exact hc
      have hx : (opsL cs)[k] < cs.length := opsL_lt (List.getElem_mem hlt)
      obtain ⟨b, o, rfl, -, h256⟩ := h.out.get hx
      have hcell : Hid (∀ W, Below w1.heap.size w1 W → W.cell? ⟨b, o + (opsL cs)[k], none⟩ = some (.int .u8 (byN cs (opsL cs)[k]))) := qh fun W hW => by
        obtain ⟨b', o', e, hc, -⟩ := ((h.out.below hb1.out).below hW).get hx
        cases e; exact hc
      have hstep := marks_step hlt
      have hlen : (((opsL cs).take k).filter fun i => byN cs i == 91).length ≤ 1048576 := by
        have := List.length_filter_le (fun i => byN cs i == 91) ((opsL cs).take k)
        rw [List.length_take] at this
        omega
      have hx2 : ((opsL cs)[k] : Int) < cs.length := by omega
      generalize hP : (((opsL cs).take k).filter fun i => byN cs i == 91) = pre at *
      replace hP := qh hP
      have c1 := hcell1.out wr hb.out
      have c2 := hcell.out wr hb.out
      have hsb : w1.heap.size ≤ (wr.alloc (.cells #[.int .i64 ((opsL cs)[k] : Int)] 3)).heap.size := by rw [World.size_alloc]; have := hb.out.size; omega
      by_cases e : byN cs (opsL cs)[k] = 91
      · rw [if_pos e] at hstep
        rw [e] at c2
        clear e hcell1 hcell h256
        replace hstep := qh hstep
        generalize (opsL cs)[k] = x at *
        go_wp2_with (at_builtin; refine wpList_append_row (wr.alloc (.cells #[.int .i64 (x : Int)] 3)) rfl _ _ 42 rfl w1.heap.size 3 i0 (.int .i64 0) 8 Tryz.underlying42 hi hz0 hz1 hz2 rfl _ pre.length _ rfl (hown.out.alloc _) (some ⟨wr.heap.size, 0, none⟩) 1 .i64 [(x : Int)] rfl (by simp) (rowAt_one wr 3 (x : Int)) (by unfold maxLen; simp; omega) (by simp; omega) hsb ?_; intro v3 w3 ho3 hg3; have hb3 := (xalloc hb.out _).grown hg3 hsb (fun j hj => (hown.out.lt j hj).1); replace hb3 := qh hb3; replace ho3 := qh ho3; clear hg3)
        refine ⟨⟨k + 1, by omega, rfl, qh ?_, hb3⟩, by simp [intOf]; omega⟩
        rw [hstep.out]
        unfold OwnI
        rw [List.length_append, natI_app, List.map_append]
        exact ho3.out
      · rw [if_neg e, List.append_nil] at hstep
        have e2 : ¬ ((byN cs (opsL cs)[k] : Nat) : Int) = 91 := by omega
        clear e hcell1 hcell
        replace hstep := qh hstep
        generalize (opsL cs)[k] = x at *
        generalize ((byN cs x : Nat) : Int) = y at *
        go_wp2
        exact ⟨⟨k + 1, by omega, rfl, by rw [hstep.out]; exact hown, hb⟩, by simp [intOf]; omega⟩
    · have e : k = (opsL cs).length := by omega
      rw [e, List.take_length] at hown
      have hlt2 : ((opsL cs).length : Int) ≤ k := by omega
      clear hlt e
      go_wp2
      go_ret
      exact ⟨⟨_, rfl, hown.out.base hb1.out.size⟩, xtrans hb1.out hb.out⟩
def smallN (N : Nat) : Nat × Bool := if N < 18446744073709551616 then (N, true) else (0, false)
theorem refSmall_any (N : Nat) (w : World) (h : N < 2 ^ 256) : Calls Tryz.prog 81 #[wordV N] w fun e w' => e = .returned (.tuple #[.int .u64 (smallN N).1, .bool (smallN N).2]) ∧ Below w.heap.size w w' := by
  have hv := val_limbs N h
  have l0 := limb_lt N 0
  unfold wordV
  unfold smallN
  by_cases z1 : limb N 1 = 0
  · by_cases z2 : limb N 2 = 0
    · by_cases z3 : limb N 3 = 0
      · have e : N = limb N 0 := by rw [z1, z2, z3] at hv; omega
        rw [if_pos (by omega), z1, z2, z3, ← e]
        clear e hv z1 z2 z3 l0
        go_enter Tryz.func81, Tryz.ntmps81
        go_wp2
        go_ret2
        exact ⟨rfl, xalloc (xrefl _) _⟩
      · rw [if_neg (by have : 1 ≤ limb N 3 := by omega
                       have : 2 ^ 192 ≤ limb N 3 * 2 ^ 192 := Nat.le_mul_of_pos_left _ this
                       omega), z1, z2]
        have z : ¬ ((limb N 3 : Nat) : Int) = 0 := by omega
        clear hv z3 l0
        generalize ((limb N 3 : Nat) : Int) = y at *
        generalize ((limb N 0 : Nat) : Int) = y0 at *
        go_enter Tryz.func81, Tryz.ntmps81
        go_wp2
        go_ret2
        exact ⟨rfl, xalloc (xrefl _) _⟩
    · rw [if_neg (by have : 1 ≤ limb N 2 := by omega
                     have : 2 ^ 128 ≤ limb N 2 * 2 ^ 128 := Nat.le_mul_of_pos_left _ this
                     omega), z1]
      have z : ¬ ((limb N 2 : Nat) : Int) = 0 := by omega
      clear hv z2 l0
      generalize ((limb N 2 : Nat) : Int) = y at *
      generalize ((limb N 0 : Nat) : Int) = y0 at *
      generalize ((limb N 3 : Nat) : Int) = y3 at *
      go_enter Tryz.func81, Tryz.ntmps81
      go_wp2
      go_ret2
      exact ⟨rfl, xalloc (xrefl _) _⟩
  · rw [if_neg (by have : 1 ≤ limb N 1 := by omega
                   have : 2 ^ 64 ≤ limb N 1 * 2 ^ 64 := Nat.le_mul_of_pos_left _ this
                   omega)]
    have z : ¬ ((limb N 1 : Nat) : Int) = 0 := by omega
    clear hv z1 l0
    generalize ((limb N 1 : Nat) : Int) = y at *
    generalize ((limb N 0 : Nat) : Int) = y0 at *
    generalize ((limb N 2 : Nat) : Int) = y2 at *
    generalize ((limb N 3 : Nat) : Int) = y3 at *
    go_enter Tryz.func81, Tryz.ntmps81
    go_wp2
    go_ret2
    exact ⟨rfl, xalloc (xrefl _) _⟩
theorem numN_byte : ∀ (r : List Nat) (i : Nat), (∀ x ∈ r, x < 256) → byteAt (numN r.reverse) i = r.getD i 0
  | [], i, _ => by simp [numN, byteAt]
  | b :: r, 0, h => by
    have := h b (by simp)
    rw [List.reverse_cons, numN_snoc]
    unfold byteAt
    simp
    omega
  | b :: r, i + 1, h => by
    have hb := h b (by simp)
    rw [List.reverse_cons, numN_snoc]
    have e : byteAt (numN r.reverse * 256 + b) (i + 1) = byteAt (numN r.reverse) i := by
      unfold byteAt
      rw [Nat.pow_succ, Nat.mul_comm (256 ^ i), ← Nat.div_div_eq_div_mul]
      congr 2
      omega
    rw [e, numN_byte r i fun x hx => h x (by simp [hx])]
    simp
def readL (l : List Nat) (k : Nat) : List Int := (List.range 32).map fun j => if 32 ≤ j + l.length ∧ j + l.length < 32 + k then ((l.getD (j + l.length - 32) 0 : Nat) : Int) else 0
theorem readL_len (l : List Nat) (k : Nat) : (readL l k).length = 32 := by simp [readL]
theorem readL_zero (l : List Nat) : readL l 0 = List.replicate 32 0 := by
  apply List.ext_getElem
  · simp [readL]
  · intro i h1 h2
    rw [List.getElem_replicate]
    simp only [readL, List.getElem_map, List.getElem_range]
    rw [if_neg (by omega)]
theorem readL_set (l : List Nat) (k : Nat) (hl : l.length ≤ 32) (hk : k < l.length) : (readL l k).set (32 - l.length + k) (l[k] : Int) = readL l (k + 1) := by
  apply List.ext_getElem
  · simp [readL]
  · intro i h1 h2
    simp [readL] at h1
    rw [List.getElem_set]
    simp only [readL, List.getElem_map, List.getElem_range]
    by_cases e : 32 - l.length + k = i
    · rw [if_pos e, if_pos (by omega)]
      rw [show i + l.length - 32 = k by omega, List.getD_eq_getElem?_getD, List.getElem?_eq_getElem hk]; rfl
    · rw [if_neg e]
      by_cases h3 : 32 ≤ i + l.length ∧ i + l.length < 32 + k
      · rw [if_pos h3, if_pos (by omega)]
      · rw [if_neg h3, if_neg (by omega)]
theorem readL_all (l : List Nat) (hl : l.length ≤ 32) (h : ∀ x ∈ l, x < 256) : readL l l.length = bytesL (numN l) := by
  apply List.ext_getElem
  · simp [readL, bytesL]
  · intro j h1 h2
    have hj : j < 32 := by simpa [readL] using h1
    have e := numN_byte l.reverse (31 - j) (by simpa using h)
    rw [List.reverse_reverse] at e
    rw [bytesL_get, e]
    simp only [readL, List.getElem_map, List.getElem_range, List.getD_eq_getElem?_getD]
    by_cases hc : 32 ≤ j + l.length
    · rw [if_pos (by omega), List.getElem?_reverse (by omega), show l.length - 1 - (31 - j) = j + l.length - 32 by omega]
    · rw [if_neg (by omega), List.getElem?_eq_none (by simp; omega)]
      rfl
end
section
open Go.RowKit
theorem info_u8 : (Tryz.prog.info? 5).map (fun i => (i.zero, i.size, i.bytes)) = some (some (Value.int .u8 0), 1, 1) := by kernel_rfl
set_option maxRecDepth 100000 in
set_option maxHeartbeats 1000000 in
theorem refRead_any (l : List Nat) (a : Option Addr) (c : Nat) (w : World) (h : RowAt .u8 w a (natI l)) (hl : l.length ≤ 32) (h256 : ∀ x ∈ l, x < 256) :
    Calls Tryz.prog 85 #[.slice a l.length c] w fun e w' => e = .returned (.tuple #[wordV (numN l), .int .i64 0]) ∧ Below w.heap.size w w' := by
  have hlI : (l.length : Int) ≤ 32 := by omega
  have hall := qh (readL_all l hl h256)
  have hset := qh (readL_set l)
  have hz := qh (readL_zero l)
  replace h := qh h
  replace h256 := qh h256
  go_enter Tryz.func85, Tryz.ntmps85
  go_wp2
  go_loopw [5] (fun i wr => ∃ k : Nat, k ≤ l.length ∧ i = .int .i64 k ∧ Hid (Blk .u64 wr w.heap.size 32 [0, 0, 0, 0]) ∧ Hid (Blk .u8 wr (w.heap.size + 1) 164 (readL l k)) ∧ Hid (Below w.heap.size w wr)) (fun i _ => 32 - (intOf i).toNat)
  case atStart => exact ⟨0, by omega, rfl, qh ((Blk.new w _ [0, 0, 0, 0]).alloc _), qh (by rw [hz.out]; exact Blk.new' (w.alloc _) (w.heap.size + 1) _ (List.replicate 32 0) (World.size_alloc _ _).symm), qh (xalloc (xalloc (xrefl _) _) _)⟩
  case round =>
    obtain ⟨k, hk, rfl, hR, hB, hb⟩ := hrel
    by_cases hlt : k < l.length
    · have hlt2 : (k : Int) < l.length := by omega
      obtain ⟨b, o, rfl, hc⟩ := (h.out.below hb.out) k (by rw [natI_len]; exact hlt)
      rw [natI_get] at hc
      have h1 := qh (hset.out k hl hlt)
      have ej : (32 : Int) - (l.length : Int) + (k : Int) = ((32 - l.length + k : Nat) : Int) := by omega
      have hj : 32 - l.length + k < 32 := by omega
      have hc2 := hB.out.cell (32 - l.length + k) (by rw [readL_len]; exact hj)
      have hf2 := hB.out.frozen (32 - l.length + k)
      have hS := hB.out.set (32 - l.length + k) (l[k] : Int)
      rw [h1.out] at hS
      have hR2 := hR.out.oth (c := w.heap.size + 1) (i := 32 - l.length + k) (.int .u8 (l[k] : Int)) (by omega)
      have hb2 := xsetb hb.out (c := w.heap.size + 1) (i := 32 - l.length + k) (by omega) (.int .u8 (l[k] : Int))
      have hx : l[k] < 256 := h256.out _ (List.getElem_mem hlt)
      replace hS := qh hS
      replace hR2 := qh hR2
      replace hb2 := qh hb2
      generalize l[k] = x at *
      generalize 32 - l.length + k = j at *
      generalize (readL l k)[j]'_ = y at *
      clear hB hR hb h1
      go_wp2
      exact ⟨⟨k + 1, by omega, rfl, hR2, hS, hb2⟩, by simp [intOf]; omega⟩
    · obtain rfl : k = l.length := by omega
      rw [hall.out] at hB
      clear hlt
      have hfrom := qh (refFrom_any (numN l))
      go_wp2_with (first
        | (refine wpList_load_blk rfl 164 _ rfl (w.heap.size + 1) rfl .u8 164 (bytesL (numN l)) _ _ hB.out Tryz.underlying164 (by rw [show (bytesL (numN l)).length = 32 by simp [bytesL]]; kernel_rfl) ?_)
        | (go_at_call 115; refine (hfrom.out _).mono ?_; rintro e w5 ⟨rfl, hb5⟩; have hR5 := qh (hR.out.below hb5))
        | (refine wpList_store_blk rfl 32 _ _ rfl w.heap.size rfl .u64 32 [0, 0, 0, 0] (wordL (numN l)) hR5.out rfl rfl (by kernel_rfl) ?_; intro w6 hB6 ho6))
      refine bodyPost_ret (results_blkG2 (p := 2) rfl _ _ w.heap.size 32 ((wordL (numN l)).map (Value.int .u64)) _ rfl hB6 Tryz.underlying32 rfl (by kernel_rfl)) rfl ⟨rfl, ?_⟩
      exact ho6.below (xtrans hb.out hb5) (Nat.le_trans hb.out.size hb5.size) (by rintro i rfl; omega)
def behL (cs : List Nat) (i k : Nat) : List Int := (List.range (szN (byN cs i))).map fun j => if j < k then ((byN cs (i + 1 + j) : Nat) : Int) else 0
theorem behL_len (cs : List Nat) (i k : Nat) : (behL cs i k).length = szN (byN cs i) := by simp [behL]
theorem behL_zero (cs : List Nat) (i : Nat) : behL cs i 0 = List.replicate (szN (byN cs i)) 0 := by
  apply List.ext_getElem
  · simp [behL]
  · intro j h1 h2
    rw [List.getElem_replicate]
    simp [behL]
theorem behL_set (cs : List Nat) (i k : Nat) (hk : k < szN (byN cs i)) : (behL cs i k).set k ((byN cs (i + 1 + k) : Nat) : Int) = behL cs i (k + 1) := by
  apply List.ext_getElem
  · simp [behL]
  · intro j h1 h2
    rw [List.getElem_set]
    simp only [behL, List.getElem_map, List.getElem_range]
    by_cases e : k = j
    · subst e; rw [if_pos rfl, if_pos (by omega)]
    · rw [if_neg e]
      by_cases h3 : j < k
      · rw [if_pos h3, if_pos (by omega)]
      · rw [if_neg h3, if_neg (by omega)]
theorem behL_out (cs : List Nat) (i k : Nat) (hk : cs.length ≤ i + 1 + k) : behL cs i (k + 1) = behL cs i k := by
  apply List.ext_getElem
  · simp [behL]
  · intro j h1 h2
    simp only [behL, List.getElem_map, List.getElem_range]
    by_cases e : j = k
    · subst e
      rw [if_pos (by omega), if_neg (by omega)]
      unfold byN
      rw [List.getD_eq_getElem?_getD, List.getElem?_eq_none (by omega)]; rfl
    · by_cases h3 : j < k
      · rw [if_pos h3, if_pos (by omega)]
      · rw [if_neg h3, if_neg (by omega)]
theorem behL_all (cs : List Nat) (i : Nat) : behL cs i (szN (byN cs i)) = natI (restN cs i) := by
  apply List.ext_getElem
  · simp [behL, natI, restN]
  · intro j h1 h2
    have : j < szN (byN cs i) := by simpa [behL] using h1
    simp [behL, natI, restN, this]
set_option maxRecDepth 100000 in
set_option maxHeartbeats 1000000 in
theorem refBehind_anyL (cs : List Nat) (i : Nat) (a : Option Addr) (c : Nat) (w : World) (h : CodeL w a c cs) (hlt : i < cs.length) :
    Calls Tryz.prog 86 #[.slice a cs.length c, .int .i64 i] w fun e w' => (∃ b n, e = .returned (.slice (some ⟨b, 0, none⟩) (restN cs i).length n) ∧ RowAt .u8 w' (some ⟨b, 0, none⟩) (natI (restN cs i))) ∧ Below w.heap.size w w' := by
  obtain ⟨i0, hi0, hz0, hz1, hz2⟩ := info_parts info_u8
  have hsz := szN_le (byN cs i)
  have hmk : Hid (∀ W, (Instr.makeSlice 22 (.int .i64 (szN (byN cs i) : Int)) (.int .i64 (szN (byN cs i) : Int))).run Tryz.prog W = .ok (.slice (some ⟨W.heap.size, 0, none⟩) (szN (byN cs i)) (szN (byN cs i))) (W.alloc (.cells ((List.replicate (szN (byN cs i)) (0 : Int)).map (Value.int .u8)).toArray 5))) := qh fun W =>
    run_mk_ints 22 5 i0 .u8 1 Tryz.underlying22 hi0 hz0 hz1 hz2 (szN (byN cs i)) _ rfl (by omega) (by omega) W
  have hcl := h.len
  have hltI : (i : Int) < cs.length := by omega
  have hrl := restN_len cs i
  have hcells : Hid (∀ W, Below w.heap.size w W → ∃ b o, a = some ⟨b, o, none⟩ ∧ ∀ k, k < cs.length → W.cell? ⟨b, o + k, none⟩ = some (.int .u8 (byN cs k))) := qh fun W hW => by
    obtain ⟨b, o, e, -, -⟩ := (h.below hW).get hlt
    refine ⟨b, o, e, fun k hk => ?_⟩
    obtain ⟨b', o', e', hc, -⟩ := (h.below hW).get hk
    rw [e] at e'; cases e'; exact hc
  have h256 : Hid (∀ k, byN cs k < 256) := qh fun k => byN_lt h.ok k
  obtain ⟨b, o, rfl, hc0⟩ := hcells.out w (xrefl w)
  have hc1 := hc0 i hlt
  have hinf := qh (refSize_any (byN cs i) w (h256.out i))
  have hzero := behL_zero cs i
  have hall := behL_all cs i
  have hset := qh (behL_set cs i)
  have hout := qh (behL_out cs i)
  have hlen := qh (behL_len cs i)
  replace hc0 := qh hc0
  generalize hsN : szN (byN cs i) = sz at *
  generalize hxN : byN cs i = x at *
  replace hsN := qh hsN
  replace hxN := qh hxN
  replace hzero := qh hzero
  replace hall := qh hall
  replace hrl := qh hrl
  clear hi0 hz0 hz1 hz2 h hc0
  go_enter Tryz.func86, Tryz.ntmps86
  go_wp2_with (go_at_call 70; refine hinf.out.mono ?_; rintro e w1 ⟨⟨nm, ii, oo, g, q, rfl⟩, hb1⟩; replace hb1 := qh hb1)
  rw [hmk.out]
  have hB0 : Hid (Blk .u8 (w1.alloc (.cells ((List.replicate sz (0 : Int)).map (Value.int .u8)).toArray 5)) w1.heap.size 5 (List.replicate sz 0)) := qh (Blk.new w1 _ _)
  have hb0 : Hid (Below w.heap.size w (w1.alloc (.cells ((List.replicate sz (0 : Int)).map (Value.int .u8)).toArray 5))) := qh (xalloc hb1.out _)
  have hgw : w.heap.size ≤ w1.heap.size := hb1.out.size
  generalize w1.alloc (.cells ((List.replicate sz (0 : Int)).map (Value.int .u8)).toArray 5) = w2 at hB0 hb0 ⊢
  generalize w1.heap.size = gb at hB0 hgw ⊢
  clear hmk hb1 hinf
  go_wp2
  go_loopw [6] (fun iv wx => ∃ k : Nat, k ≤ sz ∧ iv = .int .i64 k ∧ Hid (Blk .u8 wx gb 5 (behL cs i k)) ∧ Hid (Below w.heap.size w wx)) (fun iv _ => 32 - (intOf iv).toNat)
  case atStart => exact ⟨0, by omega, rfl, by rw [hzero.out]; exact hB0, hb0⟩
  case round =>
    clear hB0 hb0
    obtain ⟨k, hk, rfl, hB, hb⟩ := hrel
    by_cases hk2 : k < sz
    · have hkI : (k : Int) < sz := by omega
      have hkN : ¬ (sz : Int) ≤ k := by omega
      by_cases hin : i + 1 + k < cs.length
      · have hinI : (i : Int) + 1 + (k : Int) < cs.length := by omega
        obtain ⟨b', o', e', hc⟩ := hcells.out wr hb.out
        cases e'
        have hc2 := hc (i + 1 + k) hin
        have ej : (i : Int) + 1 + (k : Int) = ((i + 1 + k : Nat) : Int) := by omega
        have hc3 := hB.out.cell k (by rw [hlen.out]; exact hk2)
        have hf3 := hB.out.frozen k
        have hS := hB.out.set k ((byN cs (i + 1 + k) : Nat) : Int)
        rw [hset.out k hk2] at hS
        have hb2 := xsetb hb.out (c := gb) (i := k) hgw (.int .u8 ((byN cs (i + 1 + k) : Nat) : Int))
        have hy := h256.out (i + 1 + k)
        replace hS := qh hS
        replace hb2 := qh hb2
        generalize (behL cs i k)[k]'_ = y0 at *
        rw [ej] at hinI
        generalize hJ : i + 1 + k = j at *
        replace hJ := qh hJ
        generalize byN cs j = y at *
        clear hc hB hb hin
        go_wp2
        exact ⟨⟨k + 1, by omega, rfl, hS, hb2⟩, by simp [intOf]; omega⟩
      · have hinI : ¬ (i : Int) + 1 + (k : Int) < cs.length := by omega
        have e := hout.out k (by omega)
        rw [← e] at hB
        clear hin e
        go_wp2
        exact ⟨⟨k + 1, by omega, rfl, hB, hb⟩, by simp [intOf]; omega⟩
    · obtain rfl : k = sz := by omega
      rw [hall.out] at hB
      have hR : RowAt .u8 wr (some ⟨gb, 0, none⟩) (natI (restN cs i)) := by have := hB.out.row 0; simpa using this
      have hkN : (k : Int) ≤ k := by omega
      replace hR := qh hR
      clear hB hk2
      go_wp2
      go_ret
      exact ⟨⟨gb, k, by rw [hrl.out]; rfl, hR.out⟩, hb.out⟩
end
section
open Go.RowKit
theorem inN_true {l : List Nat} {n : Int} (h : inN l n = true) : ∃ k ∈ l, (k : Int) = n := by
  unfold inN at h
  rw [List.any_eq_true] at h
  obtain ⟨k, h1, h2⟩ := h
  exact ⟨k, h1, by simpa using h2⟩
def pushZ (cs : List Nat) (n : Int) : Option Nat := if inN (opsL cs) n = true then pushV cs n.toNat else none
theorem pushZ_nat (cs : List Nat) (n : Nat) : pushZ cs n = pushN cs n := by
  unfold pushZ pushN
  rw [inN_nat, Int.toNat_natCast]
  simp
theorem wrap64_small' (n : Nat) (h : n < 9223372036854775808) : wrap64 (n : Int) = n := by rw [wrap64]; omega
def optV (r : Option Nat) : Value := .tuple #[wordV (r.getD 0), .bool r.isSome]
theorem wordV_L (N : Nat) : wordV N = .agg ((wordL N).map (Value.int .u64)).toArray := rfl
set_option maxRecDepth 100000 in
set_option maxHeartbeats 1000000 in
theorem refPush_anyL (cs : List Nat) (n : Int) (a : Option Addr) (c : Nat) (w : World) (h : CodeL w a c cs) :
    Calls Tryz.prog 51 #[.slice a cs.length c, .int .i64 n] w fun e w' => e = .returned (optV (pushZ cs n)) ∧ Below w.heap.size w w' := by
  have hcl := h.len
  have hol := opsL_len cs
  have hR0 : Hid (Blk .u64 (w.alloc (.cells #[.int .u64 0, .int .u64 0, .int .u64 0, .int .u64 0] 32)) w.heap.size 32 [0, 0, 0, 0]) := qh (Blk.new w _ [0, 0, 0, 0])
  have hb0 : Hid (Below w.heap.size w (w.alloc (.cells #[.int .u64 0, .int .u64 0, .int .u64 0, .int .u64 0] 32))) := qh (xalloc (xrefl _) _)
  have hops := qh (refOps_anyL cs a c _ (h.below (xalloc (xrefl w) (.cells #[.int .u64 0, .int .u64 0, .int .u64 0, .int .u64 0] 32))))
  have hpz : pushZ cs n = if inN (opsL cs) n = true then pushV cs n.toNat else none := rfl
  have hin := qh fun a1 c1 W (hI : IntsAt W a1 c1 (opsL cs)) => refIn_any (opsL cs) n a1 c1 W hI (by omega)
  have hpush : Hid (∀ i, pushV cs i = if 95 ≤ byN cs i ∧ byN cs i ≤ 127 then some (numN (restN cs i)) else none) := qh fun i => rfl
  have hu := Tryz.underlying32
  cases hI : inN (opsL cs) n with
  | false =>
    rw [hI] at hin hpz
    rw [if_neg (by decide)] at hpz
    rw [hpz]
    clear hpz hpush
    replace hI := qh hI
    go_enter Tryz.func51, Tryz.ntmps51
    go_wp2_with (first
      | (go_at_call 48; refine hops.out.mono ?_; rintro e w1 ⟨⟨v, rfl, hv⟩, hb1⟩; obtain ⟨a1, c1, rfl, hI1, -⟩ := hv.at; replace hI1 := qh hI1; clear hv hops; replace hb1 := qh hb1; replace hR0 := qh (hR0.out.below hb1.out))
      | (go_at_call 47; refine (hin.out a1 c1 _ hI1.out).mono ?_; rintro e w2 ⟨rfl, rfl⟩)
      | (refine wpList_store_blk rfl 32 _ _ rfl w.heap.size rfl .u64 32 [0, 0, 0, 0] [0, 0, 0, 0] hR0.out rfl rfl (by kernel_rfl) ?_; intro w6 hB6 ho6; replace hB6 := qh hB6; replace ho6 := qh ho6))
    refine bodyPost_ret (results_blkG2 (p := 4) rfl _ _ w.heap.size 32 _ _ rfl hB6.out hu rfl (by kernel_rfl)) rfl ⟨rfl, ?_⟩
    exact ho6.out.below (xtrans hb0.out hb1.out) (xtrans hb0.out hb1.out).size (by rintro i rfl; omega)
  | true =>
    rw [hI] at hin hpz
    rw [if_pos rfl] at hpz
    obtain ⟨k, hk, rfl⟩ := inN_true hI
    rw [Int.toNat_natCast] at hpz
    have hlt := opsL_lt hk
    have hltI : (k : Int) < cs.length := by omega
    obtain ⟨b, o, rfl, hc, h256⟩ := h.get hlt
    have hrl := restN_len cs k
    have hsz := szN_le (byN cs k)
    have hrlt := qh (restN_lt h.ok k)
    have hbeh := qh fun W (hW : Below w.heap.size w W) => refBehind_anyL cs k _ c W (h.below hW) hlt
    have hread := fun W b2 n2 (hr : RowAt .u8 W (some ⟨b2, 0, none⟩) (natI (restN cs k))) => refRead_any (restN cs k) (some ⟨b2, 0, none⟩) n2 W hr (by omega) hrlt.out
    unfold wordV at hread
    replace hread := qh hread
    rw [hpz, hpush.out]
    clear hpz hpush h hrl
    replace hI := qh hI
    replace hk := qh hk
    have hcc : Hid (∀ W, Below w.heap.size w W → W.cell? ⟨b, o + k, none⟩ = some (.int .u8 (byN cs k))) := qh fun W hW => cbel hW hc
    generalize byN cs k = x at *
    clear hc
    by_cases x1 : x < 95
    · rw [if_neg (by omega)]
      have x2 : (x : Int) < 95 := by omega
      go_enter Tryz.func51, Tryz.ntmps51
      go_wp2_with (first
        | (go_at_call 48; refine hops.out.mono ?_; rintro e w1 ⟨⟨v, rfl, hv⟩, hb1⟩; obtain ⟨a1, c1, rfl, hI1, -⟩ := hv.at; replace hI1 := qh hI1; clear hv hops; replace hb1 := qh hb1; replace hR0 := qh (hR0.out.below hb1.out); have hcl := hcc.out w1 (xtrans hb0.out hb1.out))
        | (go_at_call 47; refine (hin.out a1 c1 _ hI1.out).mono ?_; rintro e w2 ⟨rfl, rfl⟩)
        | (refine wpList_store_blk rfl 32 _ _ rfl w.heap.size rfl .u64 32 [0, 0, 0, 0] [0, 0, 0, 0] hR0.out rfl rfl (by kernel_rfl) ?_; intro w6 hB6 ho6; replace hB6 := qh hB6; replace ho6 := qh ho6))
      refine bodyPost_ret (results_blkG2 (p := 4) rfl _ _ w.heap.size 32 _ _ rfl hB6.out hu rfl (by kernel_rfl)) rfl ⟨rfl, ?_⟩
      exact ho6.out.below (xtrans hb0.out hb1.out) (xtrans hb0.out hb1.out).size (by rintro i rfl; omega)
    · have x2 : ¬ (x : Int) < 95 := by omega
      by_cases x3 : 127 < x
      · rw [if_neg (by omega)]
        have x4 : (127 : Int) < x := by omega
        go_enter Tryz.func51, Tryz.ntmps51
        go_wp2_with (first
          | (go_at_call 48; refine hops.out.mono ?_; rintro e w1 ⟨⟨v, rfl, hv⟩, hb1⟩; obtain ⟨a1, c1, rfl, hI1, -⟩ := hv.at; replace hI1 := qh hI1; clear hv hops; replace hb1 := qh hb1; replace hR0 := qh (hR0.out.below hb1.out); have hcl := hcc.out w1 (xtrans hb0.out hb1.out))
          | (go_at_call 47; refine (hin.out a1 c1 _ hI1.out).mono ?_; rintro e w2 ⟨rfl, rfl⟩)
          | (refine wpList_store_blk rfl 32 _ _ rfl w.heap.size rfl .u64 32 [0, 0, 0, 0] [0, 0, 0, 0] hR0.out rfl rfl (by kernel_rfl) ?_; intro w6 hB6 ho6; replace hB6 := qh hB6; replace ho6 := qh ho6))
        refine bodyPost_ret (results_blkG2 (p := 4) rfl _ _ w.heap.size 32 _ _ rfl hB6.out hu rfl (by kernel_rfl)) rfl ⟨rfl, ?_⟩
        exact ho6.out.below (xtrans hb0.out hb1.out) (xtrans hb0.out hb1.out).size (by rintro i rfl; omega)
      · rw [if_pos (by omega)]
        have x4 : ¬ (127 : Int) < x := by omega
        generalize hW : numN (restN cs k) = W at *
        replace hW := qh hW
        generalize restN cs k = rest at *
        go_enter Tryz.func51, Tryz.ntmps51
        go_wp2_with (first
          | (go_at_call 48; refine hops.out.mono ?_; rintro e w1 ⟨⟨v, rfl, hv⟩, hb1⟩; obtain ⟨a1, c1, rfl, hI1, -⟩ := hv.at; replace hI1 := qh hI1; clear hv hops; replace hR0 := qh (hR0.out.below hb1); replace hb1 := qh (xtrans hb0.out hb1); have hcl := hcc.out w1 hb1.out)
          | (go_at_call 47; refine (hin.out a1 c1 _ hI1.out).mono ?_; rintro e w2 ⟨rfl, rfl⟩)
          | (go_at_call 86; refine (hbeh.out _ hb1.out).mono ?_; rintro e w3 ⟨⟨b3, n3, rfl, hr3⟩, hb3⟩; replace hr3 := qh hr3; replace hb3 := qh hb3)
          | (go_at_call 85; refine (hread.out _ _ _ (by exact hr3.out)).mono ?_; rintro e w4 ⟨rfl, hb4⟩; replace hb4 := qh (xtrans hb3.out hb4))
          | (refine wpList_store_blk rfl 32 _ _ rfl w.heap.size rfl .u64 32 [0, 0, 0, 0] (wordL W) ((hR0.out.below hb4.out).alloc _) rfl rfl (by kernel_rfl) ?_; intro w6 hB6 ho6; replace hB6 := qh hB6; replace ho6 := qh ho6))
        refine bodyPost_ret (results_blkG2 (p := 4) rfl _ _ w.heap.size 32 _ _ rfl hB6.out hu rfl (by kernel_rfl)) rfl ⟨rfl, ?_⟩
        exact ho6.out.below (xalloc (xtrans hb1.out hb4.out) _) (xalloc (xtrans hb1.out hb4.out) _).size (by rintro i rfl; omega)
set_option maxRecDepth 100000 in
set_option maxHeartbeats 1000000 in
theorem refMark_anyL (cs : List Nat) (N : Nat) (a : Option Addr) (c : Nat) (w : World) (h : CodeL w a c cs) (hN : N < 2 ^ 256) :
    Calls Tryz.prog 82 #[.slice a cs.length c, wordV N] w fun e w' => e = .returned (.bool (markN cs N)) ∧ Below w.heap.size w w' := by
  have hcl := h.len
  have hB0 : Hid (BlkG (w.alloc (.cells ((wordL N).map (Value.int .u64)).toArray 32)) w.heap.size 32 ((wordL N).map (Value.int .u64))) := qh (BlkG.new w _ _)
  have hb0 : Hid (Below w.heap.size w (w.alloc (.cells ((wordL N).map (Value.int .u64)).toArray 32))) := qh (xalloc (xrefl _) _)
  have hsmall := qh fun W => refSmall_any N W hN
  have hmarks := qh fun W (hW : Below w.heap.size w W) => refMarks_anyL cs a c W (h.below hW)
  have hml : (marksL cs).length ≤ 1048576 := by
    have h1 := List.length_filter_le (fun i => byN cs i == 91) (opsL cs)
    have h2 := opsL_len cs
    unfold marksL; omega
  have hin := qh fun a1 c1 W (hI : IntsAt W a1 c1 (marksL cs)) => refIn_any (marksL cs) N a1 c1 W hI (by omega)
  rw [inN_nat] at hin
  have hu := Tryz.underlying32
  rw [wordV_L] at *
  by_cases h1 : N < 18446744073709551616
  · have e : smallN N = (N, true) := by unfold smallN; rw [if_pos h1]
    rw [e] at hsmall
    by_cases h2 : N < cs.length
    · have em : markN cs N = decide (N ∈ marksL cs) := by unfold markN; simp [h2]
      rw [em]
      have h3 : (N : Int) < cs.length := by omega
      have hw1 : IntKind.u64.wrap (cs.length : Int) = cs.length := by simp [IntKind.wrap, IntKind.bits, IntKind.signed]; omega
      have hw2 : wrap64 (N : Int) = N := by rw [wrap64_small' N (by omega)]
      generalize decide (N ∈ marksL cs) = r at *
      generalize hL : (wordL N).map (Value.int .u64) = L at *
      replace hL := qh hL
      clear e em h1 h2
      go_enter Tryz.func82, Tryz.ntmps82
      go_wp2_with (first
        | (refine wpList_load_blkG rfl 32 _ rfl w.heap.size rfl 32 _ _ hB0.out hu rfl (by rw [← hL.out]; kernel_rfl) ?_)
        | (go_at_call 81; refine (hsmall.out _).mono ?_; rintro e w1 ⟨rfl, hb1⟩; replace hb1 := qh (xtrans hb0.out hb1))
        | (go_at_call 80; refine (hmarks.out _ hb1.out).mono ?_; rintro e w2 ⟨⟨v, rfl, hv⟩, hb2⟩; obtain ⟨a1, c1, rfl, hI1, -⟩ := hv.at; replace hI1 := qh hI1; clear hv; replace hb2 := qh hb2)
        | (go_at_call 47; refine (hin.out a1 c1 _ hI1.out).mono ?_; rintro e w3 ⟨rfl, rfl⟩))
      go_ret
      exact ⟨rfl, xtrans hb1.out hb2.out⟩
    · have em : markN cs N = false := by unfold markN; simp [h2]
      rw [em]
      have h3 : ¬ (N : Int) < cs.length := by omega
      have hw1 : IntKind.u64.wrap (cs.length : Int) = cs.length := by simp [IntKind.wrap, IntKind.bits, IntKind.signed]; omega
      generalize hL : (wordL N).map (Value.int .u64) = L at *
      replace hL := qh hL
      clear e em h1 h2 hin hmarks
      go_enter Tryz.func82, Tryz.ntmps82
      go_wp2_with (first
        | (refine wpList_load_blkG rfl 32 _ rfl w.heap.size rfl 32 _ _ hB0.out hu rfl (by rw [← hL.out]; kernel_rfl) ?_)
        | (go_at_call 81; refine (hsmall.out _).mono ?_; rintro e w1 ⟨rfl, hb1⟩; replace hb1 := qh (xtrans hb0.out hb1)))
      go_ret
      exact ⟨rfl, hb1.out⟩
  · have e : smallN N = (0, false) := by unfold smallN; rw [if_neg h1]
    rw [e] at hsmall
    have em : markN cs N = false := by unfold markN; rw [decide_eq_false (by omega)]; rfl
    rw [em]
    generalize hL : (wordL N).map (Value.int .u64) = L at *
    replace hL := qh hL
    clear e em h1 hin hmarks
    go_enter Tryz.func82, Tryz.ntmps82
    go_wp2_with (first
      | (refine wpList_load_blkG rfl 32 _ rfl w.heap.size rfl 32 _ _ hB0.out hu rfl (by rw [← hL.out]; kernel_rfl) ?_)
      | (go_at_call 81; refine (hsmall.out _).mono ?_; rintro e w1 ⟨rfl, hb1⟩; replace hb1 := qh (xtrans hb0.out hb1)))
    go_ret
    exact ⟨rfl, hb1.out⟩
end
end Go.Proofs.YtijkdabmegbcjaaGreatDoor
