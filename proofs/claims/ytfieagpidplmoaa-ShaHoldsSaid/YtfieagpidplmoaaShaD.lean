/- The program's digest (layer 23): a step. -/
import Derived.Test.YtfieagpidplmoaaShaC
namespace Go.Proofs.Ytfieagpidplmoaa
open Go.RowKit

def oneP (k w : BitVec 32) (s : Nat → BitVec 32) : BitVec 32 := add32 (add32 (add32 (add32 (s 7) (laidF (s 4) [6, 11, 25])) (pickF s)) k) w
def twoP (s : Nat → BitVec 32) : BitVec 32 := add32 (laidF (s 0) [2, 13, 22]) (mostF s)
def stepP (k w : BitVec 32) (s : Nat → BitVec 32) : List Int := [iv32 (add32 (oneP k w s) (twoP s)), iv32 (s 0), iv32 (s 1), iv32 (s 2), iv32 (add32 (s 3) (oneP k w s)), iv32 (s 4), iv32 (s 5), iv32 (s 6)]

set_option maxRecDepth 100000 in
set_option maxHeartbeats 1000000 in
theorem step_any (b : Nat) (k wt : BitVec 32) (s : Nat → BitVec 32) (w : World) (hB : Blk .u32 w b 61 (rowI 8 s)) :
    Calls Try.prog 26 #[.pointer (some ⟨b, 0, none⟩), .int .u32 (iv32 k), .int .u32 (iv32 wt)] w fun e w' => e = .returned (.tuple #[]) ∧ Blk .u32 w' b 61 (stepP k wt s) ∧ Only (· = b) w w' := by
  go_enter Try.func26, Try.ntmps26
  have hz := Lib.hid (Blk.new (q := .u32) w 59 (List.replicate 8 0))
  go_wp2_with (first
    | (refine wpList_load_blk rfl 59 _ rfl b rfl .u32 61 (rowI 8 s) _ _ hB Try.underlying59 (by rw [rowI_len]; kernel_rfl) ?_)
    | (refine wpList_store_blk rfl 59 _ _ rfl w.heap.size rfl .u32 59 (List.replicate 8 0) (rowI 8 s) hz.out rfl (by rw [rowI_len, List.length_replicate]) (by rw [rowI_len]; kernel_rfl) ?_; intro w1 h1 ho1))
  have hlt := hB.lt
  have hB1 : Blk .u32 w1 b 61 (rowI 8 s) := (hB.alloc _).only ho1 (by omega)
  have hon1 : Only (· = b) w w1 := ⟨ho1.os, ho1.tape, ho1.output, by have := ho1.size; rw [World.size_alloc] at this; omega, fun i hi _ => (ho1.same i (by rw [World.size_alloc]; omega) (by omega)).trans (Below.heap_alloc w _ i hi)⟩
  have hn1 : b ≠ w.heap.size := by omega
  clear ho1 hz hlt
  generalize w.heap.size = nb at h1 hn1 ⊢
  have hc : ∀ i, i < 8 → w1.cell? ⟨nb, i, none⟩ = some (.int .u32 (iv32 (s i))) := fun i hi => by
    rw [h1.cell i (by rw [rowI_len]; exact hi), rowI_get]
  have hc0 := hc 0 (by decide)
  have hc1 := hc 1 (by decide)
  have hc2 := hc 2 (by decide)
  have hc3 := hc 3 (by decide)
  have hc4 := hc 4 (by decide)
  have hc5 := hc 5 (by decide)
  have hc6 := hc 6 (by decide)
  have hc7 := hc 7 (by decide)
  clear hc
  refine wp_region_growL 18 [fixd (.pointer (some ⟨nb, 7, none⟩)), fixd (.int .u32 (iv32 (s 7))), fixd (.pointer (some ⟨nb, 4, none⟩)), fixd (.int .u32 (iv32 (s 4))), fixd (.func (.func 25) #[.int .u32 (iv32 (s 4))] #[]), rowT .i64 [6, 11, 25], fixd (.int .u32 (iv32 (laidF (s 4) [6, 11, 25]))), fixd (.int .u32 (iv32 (add32 (s 7) (laidF (s 4) [6, 11, 25])))), fixd (.pointer (some ⟨b, 0, none⟩)), fixd (.pointer (some ⟨b, 0, none⟩)), fixd (.pointer (some ⟨b, 0, none⟩)), fixd (.agg ((rowI 8 s).map (Value.int .u32)).toArray), fixd (.int .u32 (iv32 (pickF s))), fixd (.int .u32 (iv32 (add32 (add32 (s 7) (laidF (s 4) [6, 11, 25])) (pickF s)))), fixd (.int .u32 (iv32 (k))), fixd (.int .u32 (iv32 (add32 (add32 (add32 (s 7) (laidF (s 4) [6, 11, 25])) (pickF s)) k))), fixd (.int .u32 (iv32 (wt))), fixd (.int .u32 (iv32 (oneP k wt s)))] (by kernel_rfl) (by kernel_rfl) ?_
  simp only [List.take_succ_cons, List.take_zero, List.drop_succ_cons, List.drop_zero]
  try simp only [Act.put, List.setIfInBounds_toArray, List.set_cons_succ, List.set_cons_zero, List.nil_append, List.cons_append]
  refine wpGrowV_fix _ rfl rfl (fun W hb _ => by go_simp; first | exact xrefl W | exact ⟨rfl, xrefl W⟩) ?_
  try simp only [Act.put, List.setIfInBounds_toArray, List.set_cons_succ, List.set_cons_zero, List.nil_append, List.cons_append]
  refine wpGrowV_fix _ rfl rfl (fun W hb _ => by have c := cbel hb hc7; go_simp; first | exact xrefl W | exact ⟨rfl, xrefl W⟩) ?_
  try simp only [Act.put, List.setIfInBounds_toArray, List.set_cons_succ, List.set_cons_zero, List.nil_append, List.cons_append]
  refine wpGrowV_fix _ rfl rfl (fun W hb _ => by go_simp; first | exact xrefl W | exact ⟨rfl, xrefl W⟩) ?_
  try simp only [Act.put, List.setIfInBounds_toArray, List.set_cons_succ, List.set_cons_zero, List.nil_append, List.cons_append]
  refine wpGrowV_fix _ rfl rfl (fun W hb _ => by have c := cbel hb hc4; go_simp; first | exact xrefl W | exact ⟨rfl, xrefl W⟩) ?_
  try simp only [Act.put, List.setIfInBounds_toArray, List.set_cons_succ, List.set_cons_zero, List.nil_append, List.cons_append]
  refine wpGrowV_fix _ rfl rfl (fun W hb _ => by go_simp; first | exact xrefl W | exact ⟨rfl, xrefl W⟩) ?_
  try simp only [Act.put, List.setIfInBounds_toArray, List.set_cons_succ, List.set_cons_zero, List.nil_append, List.cons_append]
  refine wpGrowV_any (rowT .i64 [6, 11, 25]) rfl rfl (fun W hb _ => ?_) (fun v hv => ?_)
  · go_simp
    exact ⟨⟨⟨_, rfl⟩, fun b e => by cases e; exact rowAt_new W _ _⟩, xalloc (xrefl W) _⟩
  obtain ⟨q1, rfl⟩ := hv
  try simp only [Act.put, List.setIfInBounds_toArray, List.set_cons_succ, List.set_cons_zero, List.nil_append, List.cons_append]
  refine wpGrowV_fix (.int .u32 (iv32 (laidF (s 4) [6, 11, 25]))) rfl rfl (fun W hb hF => ?_) ?_
  · have hq := hF 5 (by kernel_rfl) (by simp) q1 rfl
    clear hF
    go_simp
    go_at_call 24
    refine (laid_any (s 4) q1 [6, 11, 25] _ (by decide) hq (by decide)).mono ?_
    rintro e w' ⟨rfl, rfl⟩
    exact ⟨rfl, xrefl _⟩
  try simp only [Act.put, List.setIfInBounds_toArray, List.set_cons_succ, List.set_cons_zero, List.nil_append, List.cons_append]
  refine wpGrowV_fix _ rfl rfl (fun W hb _ => by go_simp; first | exact xrefl W | exact ⟨rfl, xrefl W⟩) ?_
  try simp only [Act.put, List.setIfInBounds_toArray, List.set_cons_succ, List.set_cons_zero, List.nil_append, List.cons_append]
  refine wpGrowV_fix _ rfl rfl (fun W hb _ => by go_simp; first | exact xrefl W | exact ⟨rfl, xrefl W⟩) ?_
  try simp only [Act.put, List.setIfInBounds_toArray, List.set_cons_succ, List.set_cons_zero, List.nil_append, List.cons_append]
  refine wpGrowV_fix _ rfl rfl (fun W hb _ => by go_simp; first | exact xrefl W | exact ⟨rfl, xrefl W⟩) ?_
  try simp only [Act.put, List.setIfInBounds_toArray, List.set_cons_succ, List.set_cons_zero, List.nil_append, List.cons_append]
  refine wpGrowV_fix _ rfl rfl (fun W hb _ => by go_simp; first | exact xrefl W | exact ⟨rfl, xrefl W⟩) ?_
  try simp only [Act.put, List.setIfInBounds_toArray, List.set_cons_succ, List.set_cons_zero, List.nil_append, List.cons_append]
  refine wpGrowV_load_blk rfl 59 _ rfl b rfl .u32 61 (rowI 8 s) _ _ hB1 Try.underlying59 (by rw [rowI_len]; kernel_rfl) rfl ?_
  try simp only [Act.put, List.setIfInBounds_toArray, List.set_cons_succ, List.set_cons_zero, List.nil_append, List.cons_append]
  refine wpGrowV_fix (.int .u32 (iv32 (pickF s))) rfl rfl (fun W hb _ => ?_) ?_
  · go_simp
    go_at_call 41
    refine (pick_any s _).mono ?_
    rintro e w' ⟨rfl, hb'⟩
    exact ⟨rfl, hb'⟩
  try simp only [Act.put, List.setIfInBounds_toArray, List.set_cons_succ, List.set_cons_zero, List.nil_append, List.cons_append]
  refine wpGrowV_fix _ rfl rfl (fun W hb _ => by go_simp; first | exact xrefl W | exact ⟨rfl, xrefl W⟩) ?_
  try simp only [Act.put, List.setIfInBounds_toArray, List.set_cons_succ, List.set_cons_zero, List.nil_append, List.cons_append]
  refine wpGrowV_fix _ rfl rfl (fun W hb _ => by go_simp; first | exact xrefl W | exact ⟨rfl, xrefl W⟩) ?_
  try simp only [Act.put, List.setIfInBounds_toArray, List.set_cons_succ, List.set_cons_zero, List.nil_append, List.cons_append]
  refine wpGrowV_fix _ rfl rfl (fun W hb _ => by go_simp; first | exact xrefl W | exact ⟨rfl, xrefl W⟩) ?_
  try simp only [Act.put, List.setIfInBounds_toArray, List.set_cons_succ, List.set_cons_zero, List.nil_append, List.cons_append]
  refine wpGrowV_fix _ rfl rfl (fun W hb _ => by go_simp; first | exact xrefl W | exact ⟨rfl, xrefl W⟩) ?_
  try simp only [Act.put, List.setIfInBounds_toArray, List.set_cons_succ, List.set_cons_zero, List.nil_append, List.cons_append]
  refine wpGrowV_fix _ rfl rfl (fun W hb _ => by go_simp; first | exact xrefl W | exact ⟨rfl, xrefl W⟩) ?_
  try simp only [Act.put, List.setIfInBounds_toArray, List.set_cons_succ, List.set_cons_zero, List.nil_append, List.cons_append]
  refine wpGrowV_nil fun W1 hbW1 _ => ?_
  go_wp2_with fail
  have hB1' := hB1.below hbW1
  have h1' := h1.below hbW1
  have hon2 : Only (· = b) w W1 := hon1.trans (Below.only hbW1)
  have hc0' := cbel hbW1 hc0
  have hc1' := cbel hbW1 hc1
  have hc2' := cbel hbW1 hc2
  have hc3' := cbel hbW1 hc3
  have hc4' := cbel hbW1 hc4
  have hc5' := cbel hbW1 hc5
  have hc6' := cbel hbW1 hc6
  clear hbW1 hB1 h1 hon1 hc0 hc1 hc2 hc3 hc4 hc5 hc6 hc7
  revert hB1' h1' hon2 hc0' hc1' hc2' hc3' hc4' hc5' hc6'
  generalize W1 = w2
  intro hB1 h1 hon1 hc0 hc1 hc2 hc3 hc4 hc5 hc6
  refine wp_region_growL 11 [fixd (.pointer (some ⟨nb, 0, none⟩)), fixd (.int .u32 (iv32 (s 0))), fixd (.func (.func 25) #[.int .u32 (iv32 (s 0))] #[]), rowT .i64 [2, 13, 22], fixd (.int .u32 (iv32 (laidF (s 0) [2, 13, 22]))), fixd (.pointer (some ⟨b, 0, none⟩)), fixd (.pointer (some ⟨b, 0, none⟩)), fixd (.pointer (some ⟨b, 0, none⟩)), fixd (.agg ((rowI 8 s).map (Value.int .u32)).toArray), fixd (.int .u32 (iv32 (mostF s))), fixd (.int .u32 (iv32 (twoP s)))] (by kernel_rfl) (by kernel_rfl) ?_
  simp only [List.take_succ_cons, List.take_zero, List.drop_succ_cons, List.drop_zero]
  try simp only [Act.put, List.setIfInBounds_toArray, List.set_cons_succ, List.set_cons_zero, List.nil_append, List.cons_append]
  refine wpGrowV_fix _ rfl rfl (fun W hb _ => by go_simp; first | exact xrefl W | exact ⟨rfl, xrefl W⟩) ?_
  try simp only [Act.put, List.setIfInBounds_toArray, List.set_cons_succ, List.set_cons_zero, List.nil_append, List.cons_append]
  refine wpGrowV_fix _ rfl rfl (fun W hb _ => by have c := cbel hb hc0; go_simp; first | exact xrefl W | exact ⟨rfl, xrefl W⟩) ?_
  try simp only [Act.put, List.setIfInBounds_toArray, List.set_cons_succ, List.set_cons_zero, List.nil_append, List.cons_append]
  refine wpGrowV_fix _ rfl rfl (fun W hb _ => by go_simp; first | exact xrefl W | exact ⟨rfl, xrefl W⟩) ?_
  try simp only [Act.put, List.setIfInBounds_toArray, List.set_cons_succ, List.set_cons_zero, List.nil_append, List.cons_append]
  refine wpGrowV_any (rowT .i64 [2, 13, 22]) rfl rfl (fun W hb _ => ?_) (fun v hv => ?_)
  · go_simp
    exact ⟨⟨⟨_, rfl⟩, fun b e => by cases e; exact rowAt_new W _ _⟩, xalloc (xrefl W) _⟩
  obtain ⟨q2, rfl⟩ := hv
  try simp only [Act.put, List.setIfInBounds_toArray, List.set_cons_succ, List.set_cons_zero, List.nil_append, List.cons_append]
  refine wpGrowV_fix (.int .u32 (iv32 (laidF (s 0) [2, 13, 22]))) rfl rfl (fun W hb hF => ?_) ?_
  · have hq := hF 3 (by kernel_rfl) (by simp) q2 rfl
    clear hF
    go_simp
    go_at_call 24
    refine (laid_any (s 0) q2 [2, 13, 22] _ (by decide) hq (by decide)).mono ?_
    rintro e w' ⟨rfl, rfl⟩
    exact ⟨rfl, xrefl _⟩
  try simp only [Act.put, List.setIfInBounds_toArray, List.set_cons_succ, List.set_cons_zero, List.nil_append, List.cons_append]
  refine wpGrowV_fix _ rfl rfl (fun W hb _ => by go_simp; first | exact xrefl W | exact ⟨rfl, xrefl W⟩) ?_
  try simp only [Act.put, List.setIfInBounds_toArray, List.set_cons_succ, List.set_cons_zero, List.nil_append, List.cons_append]
  refine wpGrowV_fix _ rfl rfl (fun W hb _ => by go_simp; first | exact xrefl W | exact ⟨rfl, xrefl W⟩) ?_
  try simp only [Act.put, List.setIfInBounds_toArray, List.set_cons_succ, List.set_cons_zero, List.nil_append, List.cons_append]
  refine wpGrowV_fix _ rfl rfl (fun W hb _ => by go_simp; first | exact xrefl W | exact ⟨rfl, xrefl W⟩) ?_
  try simp only [Act.put, List.setIfInBounds_toArray, List.set_cons_succ, List.set_cons_zero, List.nil_append, List.cons_append]
  refine wpGrowV_load_blk rfl 59 _ rfl b rfl .u32 61 (rowI 8 s) _ _ hB1 Try.underlying59 (by rw [rowI_len]; kernel_rfl) rfl ?_
  try simp only [Act.put, List.setIfInBounds_toArray, List.set_cons_succ, List.set_cons_zero, List.nil_append, List.cons_append]
  refine wpGrowV_fix (.int .u32 (iv32 (mostF s))) rfl rfl (fun W hb _ => ?_) ?_
  · go_simp
    go_at_call 42
    refine (most_any s _).mono ?_
    rintro e w' ⟨rfl, hb'⟩
    exact ⟨rfl, hb'⟩
  try simp only [Act.put, List.setIfInBounds_toArray, List.set_cons_succ, List.set_cons_zero, List.nil_append, List.cons_append]
  refine wpGrowV_fix _ rfl rfl (fun W hb _ => by go_simp; first | exact xrefl W | exact ⟨rfl, xrefl W⟩) ?_
  try simp only [Act.put, List.setIfInBounds_toArray, List.set_cons_succ, List.set_cons_zero, List.nil_append, List.cons_append]
  refine wpGrowV_nil fun W hbW _ => ?_
  have hB2 := hB1.below hbW
  have g0 := cbel hbW hc0
  have g1 := cbel hbW hc1
  have g2 := cbel hbW hc2
  have g3 := cbel hbW hc3
  have g4 := cbel hbW hc4
  have g5 := cbel hbW hc5
  have g6 := cbel hbW hc6
  have hon3 := hon1.trans (Below.only hbW)
  clear hc0 hc1 hc2 hc3 hc4 hc5 hc6 hbW hB1 h1 hon1
  go_wp2_with (refine wpList_store_blk rfl 59 _ _ rfl b rfl .u32 61 (rowI 8 s) (stepP k wt s) hB2 rfl (by rw [rowI_len]; rfl) (by kernel_rfl) ?_; intro w3 h3 ho3)
  go_end0
  exact ⟨rfl, h3, hon3.trans ho3⟩
end Go.Proofs.Ytfieagpidplmoaa
