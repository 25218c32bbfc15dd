/- The program's digest (layer 24): turns, a step. -/
import Derived.Test.YtfafancacfjodaaRipF
namespace Go.Proofs.Ytfafancacfjodaa
open Go.RowKit

theorem low_bits : ∀ n : Nat, n < 32 → bits .and .u64 (IntKind.u64.wrap (n : Int)) 31 = (n : Int) := by decide +kernel
theorem rotl_any (a : BitVec 32) (n : Nat) (w : World) (h1 : 0 < n) (h2 : n < 32) :
    Calls Try.prog 46 #[.int .u32 (iv32 a), .int .i64 n] w fun e w' => e = .returned (.int .u32 (iv32 (rol32 a n))) ∧ w = w' := by
  go_enter Try.func46, Try.ntmps46
  have hbit := low_bits n h2
  have e1 : (32 : Int) - (n : Int) = ((32 - n : Nat) : Int) := by omega
  have e2 : ((32 - n : Nat) : Int) < 32 := by omega
  have e3 : (n : Int) < 32 := by omega
  have e4 : IntKind.u64.wrap (n : Int) = (n : Int) := by rw [IntKind.wrap_u64]; omega
  rw [e4] at hbit
  have e5 : IntKind.u64.wrap ((32 : Int) - (n : Int)) = ((32 - n : Nat) : Int) := by rw [IntKind.wrap_u64]; omega
  go_wp2
  go_ret
  unfold rol32
  exact ⟨rfl, rfl⟩

theorem turned_any (l : List Int) (i n : Nat) (x : BitVec 32) (w : World) (hl : l.length = 5) (hi : i < 5) (hx : l[i]'(by omega) = iv32 x) (h1 : 0 < n) (h2 : n < 32) :
    Calls Try.prog 47 #[.agg (l.map (Value.int .u32)).toArray, .int .i64 i, .int .i64 n] w fun e w' => e = .returned (.int .u32 (iv32 (rol32 x n))) ∧ Below w.heap.size w w' := by
  have hi2 : (i : Int) < 5 := by omega
  have hc := (Blk.new (q := .u32) w 54 l).cell i (by omega)
  rw [hx] at hc
  replace hx := Lib.hid hx
  replace hl := Lib.hid hl
  go_enter Try.func47, Try.ntmps47
  go_wp2_with (go_at_call 46; refine (rotl_any x n _ h1 h2).mono ?_; rintro e w' ⟨rfl, rfl⟩)
  go_ret
  exact ⟨rfl, xalloc (xrefl w) _⟩

def stepP (ad : BitVec 32) (n : Nat) (s : Nat → BitVec 32) : List Int := [iv32 (s 4), iv32 (add32 (rol32 (add32 (s 0) ad) n) (s 4)), iv32 (s 1), iv32 (rol32 (s 2) 10), iv32 (s 3)]
set_option maxRecDepth 100000 in
set_option maxHeartbeats 1000000 in
theorem step_any (b : Nat) (ad : BitVec 32) (by' : Nat) (s : Nat → BitVec 32) (w : World) (hB : Blk .u32 w b 69 (rowI 5 s)) (h1 : 0 < by') (h2 : by' < 32) :
    Calls Try.prog 36 #[.pointer (some ⟨b, 0, none⟩), .int .u32 (iv32 ad), .int .i64 by'] w fun e w' => e = .returned (.tuple #[]) ∧ Blk .u32 w' b 69 (stepP ad by' s) ∧ Only (· = b) w w' := by
  unfold stepP
  have hR1 := fun W => keep_below (rotl_any (add32 (s 0) ad) by' W h1 h2)
  obtain ⟨ls, hls⟩ : ∃ l, l = rowI 5 s := ⟨_, rfl⟩
  have hls2 : ∀ i (h : i < ls.length), ls[i] = iv32 (s i) := fun i h => by subst hls; exact rowI_get _ _ _ _
  rw [← hls] at hB
  have nl : ls.length = 5 := by rw [hls, rowI_len]
  have hR2 := fun W => turned_any ls 2 10 (s 2) W nl (by decide) (hls2 2 (by omega)) (by decide) (by decide)
  have hz := Lib.hid (Blk.new (q := .u32) w 54 (List.replicate 5 0))
  replace nl := Lib.hid nl
  replace hls := Lib.hid hls
  replace hR1 := Lib.hid hR1
  replace hR2 := Lib.hid hR2
  go_enter Try.func36, Try.ntmps36
  go_wp2_with (first
    | (refine wpList_load_blk rfl 54 _ rfl b rfl .u32 69 ls _ _ hB Try.underlying54 (by rw [nl.out]; kernel_rfl) ?_)
    | (refine wpList_store_blk rfl 54 _ _ rfl w.heap.size rfl .u32 54 (List.replicate 5 0) ls hz.out rfl (by rw [nl.out, List.length_replicate]) (by rw [nl.out]; kernel_rfl) ?_; intro w1 h1 ho1))
  have hlt := hB.lt
  have hB1 : Blk .u32 w1 b 69 ls := (hB.alloc _).only ho1 (by omega)
  have hon1 : Only (· = b) w w1 := ⟨ho1.os, ho1.tape, ho1.output, by have := ho1.size; rw [World.size_alloc] at this; omega, fun i hi _ => (ho1.same i (by rw [World.size_alloc]; omega) (by omega)).trans (Below.heap_alloc w _ i hi)⟩
  have hn1 : b ≠ w.heap.size := by omega
  clear ho1 hz hlt hB
  generalize w.heap.size = nb at h1 hn1 ⊢
  have hc : ∀ i, (hi : i < 5) → w1.cell? ⟨nb, i, none⟩ = some (.int .u32 (iv32 (s i))) := fun i hi => by
    rw [h1.cell i (by rw [nl.out]; exact hi), hls2 i (by rw [nl.out]; exact hi)]
  have c0 := Lib.hid (hc 0 (by decide))
  have c1 := Lib.hid (hc 1 (by decide))
  have c2 := Lib.hid (hc 2 (by decide))
  have c3 := Lib.hid (hc 3 (by decide))
  have c4 := Lib.hid (hc 4 (by decide))
  clear hc hls2
  generalize e0 : s 0 = x0 at *
  replace e0 := Lib.hid e0
  generalize e1 : s 1 = x1 at *
  replace e1 := Lib.hid e1
  generalize e2 : s 2 = x2 at *
  replace e2 := Lib.hid e2
  generalize e3 : s 3 = x3 at *
  replace e3 := Lib.hid e3
  generalize e4 : s 4 = x4 at *
  replace e4 := Lib.hid e4
  replace hB1 := Lib.hid hB1
  replace h1 := Lib.hid h1
  refine wp_region_growL 9 [fixd (.pointer (some ⟨nb, 0, none⟩)), fixd (.int .u32 (iv32 (x0))), fixd (.int .u32 (iv32 (ad))), fixd (.int .u32 (iv32 (add32 x0 ad))), fixd (.int .i64 by'), fixd (.int .u32 (iv32 (rol32 (add32 x0 ad) by'))), fixd (.pointer (some ⟨nb, 4, none⟩)), fixd (.int .u32 (iv32 (x4))), fixd (.int .u32 (iv32 (add32 (rol32 (add32 x0 ad) by') x4)))] (by kernel_rfl) (by kernel_rfl) ?_
  simp only [List.take_succ_cons, List.take_zero, List.drop_succ_cons, List.drop_zero]
  try simp only [Act.put, List.setIfInBounds_toArray, List.set_cons_succ, List.set_cons_zero, List.nil_append, List.cons_append]
  refine wpGrowV_fix _ rfl rfl (fun W hb _ => by go_simp; first | exact xrefl W | exact ⟨rfl, xrefl W⟩) ?_
  try simp only [Act.put, List.setIfInBounds_toArray, List.set_cons_succ, List.set_cons_zero, List.nil_append, List.cons_append]
  refine wpGrowV_fix _ rfl rfl (fun W hb _ => by have c := cbel hb c0.out; go_simp; first | exact xrefl W | exact ⟨rfl, xrefl W⟩) ?_
  try simp only [Act.put, List.setIfInBounds_toArray, List.set_cons_succ, List.set_cons_zero, List.nil_append, List.cons_append]
  refine wpGrowV_fix _ rfl rfl (fun W hb _ => by go_simp; first | exact xrefl W | exact ⟨rfl, xrefl W⟩) ?_
  try simp only [Act.put, List.setIfInBounds_toArray, List.set_cons_succ, List.set_cons_zero, List.nil_append, List.cons_append]
  refine wpGrowV_fix _ rfl rfl (fun W hb _ => by go_simp; first | exact xrefl W | exact ⟨rfl, xrefl W⟩) ?_
  try simp only [Act.put, List.setIfInBounds_toArray, List.set_cons_succ, List.set_cons_zero, List.nil_append, List.cons_append]
  refine wpGrowV_fix _ rfl rfl (fun W hb _ => by go_simp; first | exact xrefl W | exact ⟨rfl, xrefl W⟩) ?_
  try simp only [Act.put, List.setIfInBounds_toArray, List.set_cons_succ, List.set_cons_zero, List.nil_append, List.cons_append]
  refine wpGrowV_fix (.int .u32 (iv32 (rol32 (add32 x0 ad) by'))) rfl rfl (fun W hb _ => ?_) ?_
  · go_simp
    go_at_call 46
    refine (hR1.out W).mono ?_
    rintro e w' ⟨rfl, hb'⟩
    exact ⟨rfl, hb'⟩
  try simp only [Act.put, List.setIfInBounds_toArray, List.set_cons_succ, List.set_cons_zero, List.nil_append, List.cons_append]
  refine wpGrowV_fix _ rfl rfl (fun W hb _ => by go_simp; first | exact xrefl W | exact ⟨rfl, xrefl W⟩) ?_
  try simp only [Act.put, List.setIfInBounds_toArray, List.set_cons_succ, List.set_cons_zero, List.nil_append, List.cons_append]
  refine wpGrowV_fix _ rfl rfl (fun W hb _ => by have c := cbel hb c4.out; go_simp; first | exact xrefl W | exact ⟨rfl, xrefl W⟩) ?_
  try simp only [Act.put, List.setIfInBounds_toArray, List.set_cons_succ, List.set_cons_zero, List.nil_append, List.cons_append]
  refine wpGrowV_fix _ rfl rfl (fun W hb _ => by go_simp; first | exact xrefl W | exact ⟨rfl, xrefl W⟩) ?_
  try simp only [Act.put, List.setIfInBounds_toArray, List.set_cons_succ, List.set_cons_zero, List.nil_append, List.cons_append]
  refine wpGrowV_nil fun Wa hba _ => ?_
  obtain ⟨tv, htv⟩ : ∃ tv, tv = add32 (rol32 (add32 x0 ad) by') x4 := ⟨_, rfl⟩
  rw [← htv]
  have d1 := Lib.hid (cbel hba c1.out)
  have d3 := Lib.hid (cbel hba c3.out)
  have d4 := Lib.hid (cbel hba c4.out)
  have hBa := Lib.hid (hB1.out.below hba)
  have hona : Only (· = b) w Wa := hon1.trans (Below.only hba)
  replace htv := Lib.hid htv
  clear c0 c1 c2 c3 c4 hB1 h1 hon1 hba
  have hB1 := hBa
  clear hBa
  go_upto_region 2 with fail
  refine wp_region_growL 16 [fixd (.pointer (some ⟨b, 0, none⟩)), fixd (.pointer (some ⟨nb, 4, none⟩)), fixd (.int .u32 (iv32 (x4))), fixd (.int .u32 (iv32 (tv))), fixd (.pointer (some ⟨nb, 1, none⟩)), fixd (.int .u32 (iv32 (x1))), fixd (.pointer (some ⟨b, 0, none⟩)), fixd (.pointer (some ⟨b, 0, none⟩)), fixd (.pointer (some ⟨b, 0, none⟩)), fixd (.agg ((ls).map (Value.int .u32)).toArray), fixd (.int .u32 (iv32 (rol32 x2 10))), fixd (.pointer (some ⟨nb, 3, none⟩)), fixd (.int .u32 (iv32 (x3))), fixd (.agg #[.int .u32 (iv32 x4), .int .u32 (iv32 tv), .int .u32 (iv32 x1), .int .u32 (iv32 (rol32 x2 10)), .int .u32 (iv32 x3)]), fixd (.pointer (some ⟨b, 0, none⟩)), fixd (.pointer (some ⟨b, 0, none⟩))] (by kernel_rfl) (by kernel_rfl) ?_
  simp only [List.take_succ_cons, List.take_zero, List.drop_succ_cons, List.drop_zero]
  try simp only [Act.put, List.setIfInBounds_toArray, List.set_cons_succ, List.set_cons_zero, List.nil_append, List.cons_append]
  refine wpGrowV_fix _ rfl rfl (fun W hb _ => by go_simp; first | exact xrefl W | exact ⟨rfl, xrefl W⟩) ?_
  try simp only [Act.put, List.setIfInBounds_toArray, List.set_cons_succ, List.set_cons_zero, List.nil_append, List.cons_append]
  refine wpGrowV_fix _ rfl rfl (fun W hb _ => by go_simp; first | exact xrefl W | exact ⟨rfl, xrefl W⟩) ?_
  try simp only [Act.put, List.setIfInBounds_toArray, List.set_cons_succ, List.set_cons_zero, List.nil_append, List.cons_append]
  refine wpGrowV_fix _ rfl rfl (fun W hb _ => by have c := cbel hb d4.out; go_simp; first | exact xrefl W | exact ⟨rfl, xrefl W⟩) ?_
  try simp only [Act.put, List.setIfInBounds_toArray, List.set_cons_succ, List.set_cons_zero, List.nil_append, List.cons_append]
  refine wpGrowV_fix _ rfl rfl (fun W hb _ => by go_simp; first | exact xrefl W | exact ⟨rfl, xrefl W⟩) ?_
  try simp only [Act.put, List.setIfInBounds_toArray, List.set_cons_succ, List.set_cons_zero, List.nil_append, List.cons_append]
  refine wpGrowV_fix _ rfl rfl (fun W hb _ => by go_simp; first | exact xrefl W | exact ⟨rfl, xrefl W⟩) ?_
  try simp only [Act.put, List.setIfInBounds_toArray, List.set_cons_succ, List.set_cons_zero, List.nil_append, List.cons_append]
  refine wpGrowV_fix _ rfl rfl (fun W hb _ => by have c := cbel hb d1.out; go_simp; first | exact xrefl W | exact ⟨rfl, xrefl W⟩) ?_
  try simp only [Act.put, List.setIfInBounds_toArray, List.set_cons_succ, List.set_cons_zero, List.nil_append, List.cons_append]
  refine wpGrowV_fix _ rfl rfl (fun W hb _ => by go_simp; first | exact xrefl W | exact ⟨rfl, xrefl W⟩) ?_
  try simp only [Act.put, List.setIfInBounds_toArray, List.set_cons_succ, List.set_cons_zero, List.nil_append, List.cons_append]
  refine wpGrowV_fix _ rfl rfl (fun W hb _ => by go_simp; first | exact xrefl W | exact ⟨rfl, xrefl W⟩) ?_
  try simp only [Act.put, List.setIfInBounds_toArray, List.set_cons_succ, List.set_cons_zero, List.nil_append, List.cons_append]
  refine wpGrowV_fix _ rfl rfl (fun W hb _ => by go_simp; first | exact xrefl W | exact ⟨rfl, xrefl W⟩) ?_
  try simp only [Act.put, List.setIfInBounds_toArray, List.set_cons_succ, List.set_cons_zero, List.nil_append, List.cons_append]
  refine wpGrowV_load_blk rfl 54 _ rfl b rfl .u32 69 (ls) _ _ hB1.out Try.underlying54 (by rw [nl.out]; kernel_rfl) rfl ?_
  try simp only [Act.put, List.setIfInBounds_toArray, List.set_cons_succ, List.set_cons_zero, List.nil_append, List.cons_append]
  refine wpGrowV_fix (.int .u32 (iv32 (rol32 x2 10))) rfl rfl (fun W hb _ => ?_) ?_
  · go_simp
    go_at_call 47
    refine (hR2.out W).mono ?_
    rintro e w' ⟨rfl, hb'⟩
    exact ⟨rfl, hb'⟩
  try simp only [Act.put, List.setIfInBounds_toArray, List.set_cons_succ, List.set_cons_zero, List.nil_append, List.cons_append]
  refine wpGrowV_fix _ rfl rfl (fun W hb _ => by go_simp; first | exact xrefl W | exact ⟨rfl, xrefl W⟩) ?_
  try simp only [Act.put, List.setIfInBounds_toArray, List.set_cons_succ, List.set_cons_zero, List.nil_append, List.cons_append]
  refine wpGrowV_fix _ rfl rfl (fun W hb _ => by have c := cbel hb d3.out; go_simp; first | exact xrefl W | exact ⟨rfl, xrefl W⟩) ?_
  try simp only [Act.put, List.setIfInBounds_toArray, List.set_cons_succ, List.set_cons_zero, List.nil_append, List.cons_append]
  refine wpGrowV_fix _ rfl rfl (fun W hb _ => by go_simp; first | exact xrefl W | exact ⟨rfl, xrefl W⟩) ?_
  try simp only [Act.put, List.setIfInBounds_toArray, List.set_cons_succ, List.set_cons_zero, List.nil_append, List.cons_append]
  refine wpGrowV_fix _ rfl rfl (fun W hb _ => by go_simp; first | exact xrefl W | exact ⟨rfl, xrefl W⟩) ?_
  try simp only [Act.put, List.setIfInBounds_toArray, List.set_cons_succ, List.set_cons_zero, List.nil_append, List.cons_append]
  refine wpGrowV_fix _ rfl rfl (fun W hb _ => by go_simp; first | exact xrefl W | exact ⟨rfl, xrefl W⟩) ?_
  try simp only [Act.put, List.setIfInBounds_toArray, List.set_cons_succ, List.set_cons_zero, List.nil_append, List.cons_append]
  refine wpGrowV_nil fun Wb hbb _ => ?_
  have hBb := Lib.hid (hB1.out.below hbb)
  have honb : Only (· = b) w Wb := hona.trans (Below.only hbb)
  obtain ⟨NE, hNE⟩ : ∃ l, l = ([iv32 x4, iv32 tv, iv32 x1, iv32 (rol32 x2 10), iv32 x3] : List Int) := ⟨_, rfl⟩
  have nn : NE.length = 5 := by rw [hNE]; rfl
  have hnl : NE.length = ls.length := by rw [nn, nl.out]
  have hinf : (Try.prog.info? 54).map (·.size) = some NE.length := by rw [nn]; kernel_rfl
  replace hNE := Lib.hid hNE
  replace hnl := Lib.hid hnl
  replace hinf := Lib.hid hinf
  clear d1 d3 d4 hB1 hona hbb
  go_wp2_with (refine wpList_store_blk rfl 54 _ _ rfl b rfl .u32 69 ls NE hBb.out (by rw [hNE.out]; rfl) hnl.out hinf.out ?_; intro w3 h3 ho3)
  rw [hNE.out, htv.out, ← e0.out, ← e1.out, ← e2.out, ← e3.out, ← e4.out] at h3
  go_end0
  exact ⟨rfl, h3, honb.trans ho3⟩
end Go.Proofs.Ytfafancacfjodaa
