/- The program's digest (layer 23): a block is mixed in. -/
import Derived.Test.YtfieagpidplmoaaShaI
import Derived.Test.YtfieagpidplmoaaShaD
import Derived.Test.YtfieagpidplmoaaIdx
namespace Go.Proofs.Ytfieagpidplmoaa
open Go.RowKit

theorem xor32_zero (a : BitVec 32) : xor32 0 a = a := BitVec.zero_xor
theorem laid2 (a : BitVec 32) (m n : Int) : laidF a [m, n] = xor32 (rot32 a m.toNat) (rot32 a n.toNat) := by
  show xor32 (xor32 0 (rot32 a m.toNat)) (rot32 a n.toNat) = _
  rw [xor32_zero]
theorem laid3 (a : BitVec 32) (m n k : Int) : laidF a [m, n, k] = xor32 (xor32 (rot32 a m.toNat) (rot32 a n.toNat)) (rot32 a k.toNat) := by
  show xor32 (xor32 (xor32 0 (rot32 a m.toNat)) (rot32 a n.toNat)) (rot32 a k.toNat) = _
  rw [xor32_zero]
theorem schedP (b : Nat → BitVec 32) (t : Nat) (h : 16 ≤ t) : add32 (add32 (add32 (sched b (t - 16)) (xor32 (laidF (sched b (t - 15)) [7, 18]) (shr32 (sched b (t - 15)) 3))) (sched b (t - 7))) (xor32 (laidF (sched b (t - 2)) [17, 19]) (shr32 (sched b (t - 2)) 10)) = sched b t := by
  rw [sched_hi b t h, laid2, laid2]
  rfl
theorem pick_eq (s : Nat → BitVec 32) : pickF s = xor32 (and32 (s 4) (s 5)) (and32 (not32 (s 4)) (s 6)) := by
  unfold pickF or32 and32 xor32 not32
  apply BitVec.eq_of_getElem_eq
  intro i hi
  simp only [BitVec.getElem_or, BitVec.getElem_and, BitVec.getElem_xor, BitVec.getElem_not]
  cases (s 4)[i] <;> cases (s 5)[i] <;> cases (s 6)[i] <;> rfl
theorem most_eq (s : Nat → BitVec 32) : mostF s = xor32 (xor32 (and32 (s 0) (s 1)) (and32 (s 0) (s 2))) (and32 (s 1) (s 2)) := by
  unfold mostF or32 and32 xor32
  apply BitVec.eq_of_getElem_eq
  intro i hi
  simp only [BitVec.getElem_or, BitVec.getElem_and, BitVec.getElem_xor]
  cases (s 0)[i] <;> cases (s 1)[i] <;> cases (s 2)[i] <;> rfl
theorem one_eq (k w : BitVec 32) (s : Nat → BitVec 32) : oneP k w s = oneF k w s := by
  unfold oneP oneF
  rw [laid3, pick_eq]
  rfl
theorem two_eq (s : Nat → BitVec 32) : twoP s = twoF s := by
  unfold twoP twoF
  rw [laid3, most_eq]
  rfl
theorem step_eq (k w : BitVec 32) (s : Nat → BitVec 32) : stepP k w s = rowI 8 (stepF k w s) := by
  unfold stepP
  rw [one_eq, two_eq]
  rfl
theorem Try.infoU32 : (Try.prog.info? 28).map (fun i => (i.zero, i.size, i.bytes)) = some (some (.int .u32 0), 1, 4) := by kernel_rfl
theorem rowI_succ (n : Nat) (f : Nat → BitVec 32) : rowI (n + 1) f = rowI n f ++ [iv32 (f n)] := by
  unfold rowI allL
  rw [List.range_succ, List.map_append]; rfl

theorem fill8 (l : List Int) (hl : l.length = 8) : List.foldl (fun (cs : Array Value) (x : Value × Nat) => cs.setIfInBounds x.snd x.fst) #[.int .u32 0, .int .u32 0, .int .u32 0, .int .u32 0, .int .u32 0, .int .u32 0, .int .u32 0, .int .u32 0] (l.map (Value.int .u32)).zipIdx = (l.map (Value.int .u32)).toArray := by
  match l, hl with
  | [a, b, c, d, e, f, g, h], _ => simp [List.zipIdx_cons]
theorem own_base {w : World} {B B' : Nat} {e : TypeId} {size : Nat} {v : Value} {n : Nat} {xs : List Value} (h : w.ownsRow B e size v n xs) (hB : B' ≤ B) : w.ownsRow B' e size v n xs := by
  refine ⟨h.1, ?_⟩
  rcases h.2 with hn | ⟨g, cap, cur, rfl, hb, rest⟩
  · exact .inl hn
  · exact .inr ⟨g, cap, cur, rfl, Nat.le_trans hB hb, rest⟩
set_option maxRecDepth 100000 in
set_option maxHeartbeats 1000000 in
theorem mix_any (hs b : Nat → BitVec 32) (w : World) :
    Calls Try.prog 11 #[arrV .u32 (rowI 8 hs), arrV .u32 (rowI 16 b)] w fun e w' => e = .returned (arrV .u32 (rowI 8 (mixF hs b numB))) ∧ Below w.heap.size w w' := by
  unfold arrV
  obtain ⟨i0, hi, hz0, hz1, hz2⟩ := info_parts Try.infoU32
  obtain ⟨lh, hlh⟩ : ∃ l, l = rowI 8 hs := ⟨_, rfl⟩
  obtain ⟨lb, hlb⟩ : ∃ l, l = rowI 16 b := ⟨_, rfl⟩
  rw [← hlh, ← hlb]
  go_enter Try.func11, Try.ntmps11
  obtain ⟨w1, hw1⟩ : ∃ w1, (((w.alloc (Obj.cells (lh.map (Value.int .u32)).toArray 29)).alloc (Obj.cells (lb.map (Value.int .u32)).toArray 30)).alloc (Obj.cells ((List.replicate 8 0).map (Value.int .u32)).toArray 29)) = w1 := ⟨_, rfl⟩
  have hH : Blk .u32 w1 w.heap.size 29 lh := by rw [← hw1]; exact ((Blk.new w _ lh).alloc _).alloc _
  have hBk : Blk .u32 w1 (w.heap.size + 1) 30 lb := by rw [← hw1]; exact (Blk.new' _ _ _ lb (by simp)).alloc _
  have hR : Blk .u32 w1 (w.heap.size + 1 + 1) 29 (List.replicate 8 0) := by rw [← hw1]; exact Blk.new' _ _ _ _ (by simp)
  have hb : Below w.heap.size w w1 := by rw [← hw1]; exact xalloc (xalloc (xalloc (xrefl _) _) _) _
  have hs1 : w1.heap.size = w.heap.size + 3 := by rw [← hw1]; simp
  have hrow : RowAt .u32 w1 (some ⟨w.heap.size + 1, 0, none⟩) (rowI 16 (sched b)) := by
    have e : rowI 16 (sched b) = lb := by rw [hlb]; exact allL_congr fun i hi => by rw [sched_lo b i hi]
    rw [e]
    exact hBk.row 0
  rw [hlh] at hH
  clear hBk hlb
  replace hw1 := Lib.hid hw1
  replace hlh := Lib.hid hlh
  go_upto_region 1 with fail
  refine wp_world (w' := w1) hw1.out ?_
  clear hw1
  go_wp2_with fail
  go_loopw [5, 6] (fun v tv wx => ∃ (t : Nat) (pa : Option Addr) (c : Nat), 16 ≤ t ∧ t ≤ 64 ∧ tv = .int .i64 t ∧ v = .slice pa t c ∧ RowAt .u32 wx pa (rowI t (sched b)) ∧ (t = 16 ∧ c = 16 ∨ wx.ownsRow (w.heap.size + 3) 28 1 v t ((rowI t (sched b)).map (Value.int .u32))) ∧
      Blk .u32 wx w.heap.size 29 (rowI 8 hs) ∧ Blk .u32 wx (w.heap.size + 1 + 1) 29 (List.replicate 8 0) ∧ Below w.heap.size w wx ∧ w.heap.size + 3 ≤ wx.heap.size) (fun _ tv _ => 64 - (intOf tv).toNat)
  case atStart => exact ⟨16, _, 16, by omega, by omega, rfl, rfl, hrow, .inl ⟨rfl, rfl⟩, hH, hR, hb, by omega⟩
  case round =>
    clear hH hR hb hrow hs1
    obtain ⟨t, pa, c, ht16, ht, rfl, rfl, hrow, hown, hH, hR, hb, hsz⟩ := hrel
    by_cases hlt : t < 64
    · have i16 : (t : Int) - 16 = ((t - 16 : Nat) : Int) := by omega
      have i15 : (t : Int) - 15 = ((t - 15 : Nat) : Int) := by omega
      have i7 : (t : Int) - 7 = ((t - 7 : Nat) : Int) := by omega
      have i2 : (t : Int) - 2 = ((t - 2 : Nat) : Int) := by omega
      obtain ⟨pb, po, rfl, -⟩ := hrow 0 (by rw [rowI_len]; omega)
      have hcl : ∀ j, j < t → wr.cell? ⟨pb, po + j, none⟩ = some (.int .u32 (iv32 (sched b j))) := fun j hj => by
        obtain ⟨b', o', h1, h2⟩ := hrow j (by rw [rowI_len]; exact hj)
        cases h1
        rw [h2, rowI_get]
      have c16 := hcl (t - 16) (by omega)
      have c15 := hcl (t - 15) (by omega)
      have c7 := hcl (t - 7) (by omega)
      have c2 := hcl (t - 2) (by omega)
      have hsc := Lib.hid (schedP b t (by omega))
      clear hcl
      replace hrow := Lib.hid hrow
      replace hown := Lib.hid hown
      generalize sched b (t - 16) = s16 at c16 hsc
      generalize sched b (t - 15) = s15 at c15 hsc
      generalize sched b (t - 7) = s7 at c7 hsc
      generalize sched b (t - 2) = s2 at c2 hsc
      go_wp2_with fail
      go_quiet (fail)
      go_wp2_with fail
      have hwq : ∀ j, j < 64 → IntKind.i64.wrap ((j : Nat) : Int) = (j : Int) := fun j hj => by rw [IntKind.wrap_i64]; omega
      have w16 := hwq (t - 16) (by omega)
      have w7 := hwq (t - 7) (by omega)
      have g16 : ((t - 16 : Nat) : Int) < (t : Int) := by omega
      have g7 : ((t - 7 : Nat) : Int) < (t : Int) := by omega
      clear hwq i15 i2 c15 c2
      generalize hwr : wr.drewN nq = wq
      replace c16 : wq.cell? ⟨pb, po + (t - 16), none⟩ = some (.int .u32 (iv32 s16)) := by rw [← hwr]; exact c16
      replace c7 : wq.cell? ⟨pb, po + (t - 7), none⟩ = some (.int .u32 (iv32 s7)) := by rw [← hwr]; exact c7
      replace hwr := Lib.hid hwr
      refine wp_region_growL 29 [fixd (.slice (some ⟨pb, po, none⟩) t c), fixd (.slice (some ⟨pb, po, none⟩) t c), fixd (.int .i64 t), fixd (.int .i64 (t - 16 : Nat)), fixd (.pointer (some ⟨pb, po + (t - 16), none⟩)), fixd (.int .u32 (iv32 (s16))), fixd (.int .u32 (iv32 (s15))), fixd (.func (.func 25) #[.int .u32 (iv32 (s15))] #[]), rowT .i64 [7, 18], fixd (.int .u32 (iv32 (laidF (s15) [7, 18]))), fixd (.int .u32 (iv32 (s15))), fixd (.int .u32 (iv32 (shr32 s15 3))), fixd (.int .u32 (iv32 (xor32 (laidF s15 [7, 18]) (shr32 s15 3)))), fixd (.int .u32 (iv32 (add32 s16 (xor32 (laidF s15 [7, 18]) (shr32 s15 3))))), fixd (.slice (some ⟨pb, po, none⟩) t c), fixd (.int .i64 t), fixd (.int .i64 (t - 7 : Nat)), fixd (.pointer (some ⟨pb, po + (t - 7), none⟩)), fixd (.int .u32 (iv32 (s7))), fixd (.int .u32 (iv32 (add32 (add32 s16 (xor32 (laidF s15 [7, 18]) (shr32 s15 3))) s7))), fixd (.int .u32 (iv32 (s2))), fixd (.func (.func 25) #[.int .u32 (iv32 (s2))] #[]), rowT .i64 [17, 19], fixd (.int .u32 (iv32 (laidF (s2) [17, 19]))), fixd (.int .u32 (iv32 (s2))), fixd (.int .u32 (iv32 (shr32 s2 10))), fixd (.int .u32 (iv32 (xor32 (laidF s2 [17, 19]) (shr32 s2 10)))), fixd (.int .u32 (iv32 (add32 (add32 (add32 s16 (xor32 (laidF s15 [7, 18]) (shr32 s15 3))) s7) (xor32 (laidF s2 [17, 19]) (shr32 s2 10))))), rowT .u32 [iv32 (add32 (add32 (add32 s16 (xor32 (laidF s15 [7, 18]) (shr32 s15 3))) s7) (xor32 (laidF s2 [17, 19]) (shr32 s2 10)))]] (by kernel_rfl) (by kernel_rfl) ?_
      simp only [List.take_succ_cons, List.take_zero, List.drop_succ_cons, List.drop_zero]
      try simp only [Act.put, List.setIfInBounds_toArray, List.set_cons_succ, List.set_cons_zero, List.nil_append, List.cons_append]
      refine wpGrowV_fix _ rfl rfl (fun W hb _ => by go_simp; first | exact xrefl W | exact ⟨rfl, xrefl W⟩) ?_
      try simp only [Act.put, List.setIfInBounds_toArray, List.set_cons_succ, List.set_cons_zero, List.nil_append, List.cons_append]
      refine wpGrowV_fix _ rfl rfl (fun W hb _ => by go_simp; first | exact xrefl W | exact ⟨rfl, xrefl W⟩) ?_
      try simp only [Act.put, List.setIfInBounds_toArray, List.set_cons_succ, List.set_cons_zero, List.nil_append, List.cons_append]
      refine wpGrowV_fix _ rfl rfl (fun W hb _ => by go_simp; first | exact xrefl W | exact ⟨rfl, xrefl W⟩) ?_
      try simp only [Act.put, List.setIfInBounds_toArray, List.set_cons_succ, List.set_cons_zero, List.nil_append, List.cons_append]
      refine wpGrowV_fix _ rfl rfl (fun W hb _ => by go_simp; first | exact xrefl W | exact ⟨rfl, xrefl W⟩) ?_
      try simp only [Act.put, List.setIfInBounds_toArray, List.set_cons_succ, List.set_cons_zero, List.nil_append, List.cons_append]
      refine wpGrowV_fix _ rfl rfl (fun W hb _ => by go_simp; first | exact xrefl W | exact ⟨rfl, xrefl W⟩) ?_
      try simp only [Act.put, List.setIfInBounds_toArray, List.set_cons_succ, List.set_cons_zero, List.nil_append, List.cons_append]
      refine wpGrowV_fix _ rfl rfl (fun W hb _ => by have c := cbel hb c16; go_simp; first | exact xrefl W | exact ⟨rfl, xrefl W⟩) ?_
      try simp only [Act.put, List.setIfInBounds_toArray, List.set_cons_succ, List.set_cons_zero, List.nil_append, List.cons_append]
      refine wpGrowV_fix _ rfl rfl (fun W hb _ => by go_simp; first | exact xrefl W | exact ⟨rfl, xrefl W⟩) ?_
      try simp only [Act.put, List.setIfInBounds_toArray, List.set_cons_succ, List.set_cons_zero, List.nil_append, List.cons_append]
      refine wpGrowV_fix _ rfl rfl (fun W hb _ => by go_simp; first | exact xrefl W | exact ⟨rfl, xrefl W⟩) ?_
      try simp only [Act.put, List.setIfInBounds_toArray, List.set_cons_succ, List.set_cons_zero, List.nil_append, List.cons_append]
      refine wpGrowV_any (rowT .i64 [7, 18]) rfl rfl (fun W hb _ => ?_) (fun v hv => ?_)
      · go_simp
        exact ⟨⟨⟨_, rfl⟩, fun b e => by cases e; exact rowAt_new W _ _⟩, xalloc (xrefl W) _⟩
      obtain ⟨q1, rfl⟩ := hv
      try simp only [Act.put, List.setIfInBounds_toArray, List.set_cons_succ, List.set_cons_zero, List.nil_append, List.cons_append]
      refine wpGrowV_fix (.int .u32 (iv32 (laidF (s15) [7, 18]))) rfl rfl (fun W hb hF => ?_) ?_
      · have hq := hF 8 (by kernel_rfl) (by simp) q1 rfl
        clear hF
        go_simp
        go_at_call 24
        refine (laid_any (s15) q1 [7, 18] _ (by decide) hq (by decide)).mono ?_
        rintro e w' ⟨rfl, rfl⟩
        exact ⟨rfl, xrefl _⟩
      try simp only [Act.put, List.setIfInBounds_toArray, List.set_cons_succ, List.set_cons_zero, List.nil_append, List.cons_append]
      refine wpGrowV_fix _ rfl rfl (fun W hb _ => by go_simp; first | exact xrefl W | exact ⟨rfl, xrefl W⟩) ?_
      try simp only [Act.put, List.setIfInBounds_toArray, List.set_cons_succ, List.set_cons_zero, List.nil_append, List.cons_append]
      refine wpGrowV_fix _ rfl rfl (fun W hb _ => by go_simp; first | exact xrefl W | exact ⟨rfl, xrefl W⟩) ?_
      try simp only [Act.put, List.setIfInBounds_toArray, List.set_cons_succ, List.set_cons_zero, List.nil_append, List.cons_append]
      refine wpGrowV_fix _ rfl rfl (fun W hb _ => by go_simp; first | exact xrefl W | exact ⟨rfl, xrefl W⟩) ?_
      try simp only [Act.put, List.setIfInBounds_toArray, List.set_cons_succ, List.set_cons_zero, List.nil_append, List.cons_append]
      refine wpGrowV_fix _ rfl rfl (fun W hb _ => by go_simp; first | exact xrefl W | exact ⟨rfl, xrefl W⟩) ?_
      try simp only [Act.put, List.setIfInBounds_toArray, List.set_cons_succ, List.set_cons_zero, List.nil_append, List.cons_append]
      refine wpGrowV_fix _ rfl rfl (fun W hb _ => by go_simp; first | exact xrefl W | exact ⟨rfl, xrefl W⟩) ?_
      try simp only [Act.put, List.setIfInBounds_toArray, List.set_cons_succ, List.set_cons_zero, List.nil_append, List.cons_append]
      refine wpGrowV_fix _ rfl rfl (fun W hb _ => by go_simp; first | exact xrefl W | exact ⟨rfl, xrefl W⟩) ?_
      try simp only [Act.put, List.setIfInBounds_toArray, List.set_cons_succ, List.set_cons_zero, List.nil_append, List.cons_append]
      refine wpGrowV_fix _ rfl rfl (fun W hb _ => by go_simp; first | exact xrefl W | exact ⟨rfl, xrefl W⟩) ?_
      try simp only [Act.put, List.setIfInBounds_toArray, List.set_cons_succ, List.set_cons_zero, List.nil_append, List.cons_append]
      refine wpGrowV_fix _ rfl rfl (fun W hb _ => by go_simp; first | exact xrefl W | exact ⟨rfl, xrefl W⟩) ?_
      try simp only [Act.put, List.setIfInBounds_toArray, List.set_cons_succ, List.set_cons_zero, List.nil_append, List.cons_append]
      refine wpGrowV_fix _ rfl rfl (fun W hb _ => by have c := cbel hb c7; go_simp; first | exact xrefl W | exact ⟨rfl, xrefl W⟩) ?_
      try simp only [Act.put, List.setIfInBounds_toArray, List.set_cons_succ, List.set_cons_zero, List.nil_append, List.cons_append]
      refine wpGrowV_fix _ rfl rfl (fun W hb _ => by go_simp; first | exact xrefl W | exact ⟨rfl, xrefl W⟩) ?_
      try simp only [Act.put, List.setIfInBounds_toArray, List.set_cons_succ, List.set_cons_zero, List.nil_append, List.cons_append]
      refine wpGrowV_fix _ rfl rfl (fun W hb _ => by go_simp; first | exact xrefl W | exact ⟨rfl, xrefl W⟩) ?_
      try simp only [Act.put, List.setIfInBounds_toArray, List.set_cons_succ, List.set_cons_zero, List.nil_append, List.cons_append]
      refine wpGrowV_fix _ rfl rfl (fun W hb _ => by go_simp; first | exact xrefl W | exact ⟨rfl, xrefl W⟩) ?_
      try simp only [Act.put, List.setIfInBounds_toArray, List.set_cons_succ, List.set_cons_zero, List.nil_append, List.cons_append]
      refine wpGrowV_any (rowT .i64 [17, 19]) rfl rfl (fun W hb _ => ?_) (fun v hv => ?_)
      · go_simp
        exact ⟨⟨⟨_, rfl⟩, fun b e => by cases e; exact rowAt_new W _ _⟩, xalloc (xrefl W) _⟩
      obtain ⟨q2, rfl⟩ := hv
      try simp only [Act.put, List.setIfInBounds_toArray, List.set_cons_succ, List.set_cons_zero, List.nil_append, List.cons_append]
      refine wpGrowV_fix (.int .u32 (iv32 (laidF (s2) [17, 19]))) rfl rfl (fun W hb hF => ?_) ?_
      · have hq := hF 22 (by kernel_rfl) (by simp) q2 rfl
        clear hF
        go_simp
        go_at_call 24
        refine (laid_any (s2) q2 [17, 19] _ (by decide) hq (by decide)).mono ?_
        rintro e w' ⟨rfl, rfl⟩
        exact ⟨rfl, xrefl _⟩
      try simp only [Act.put, List.setIfInBounds_toArray, List.set_cons_succ, List.set_cons_zero, List.nil_append, List.cons_append]
      refine wpGrowV_fix _ rfl rfl (fun W hb _ => by go_simp; first | exact xrefl W | exact ⟨rfl, xrefl W⟩) ?_
      try simp only [Act.put, List.setIfInBounds_toArray, List.set_cons_succ, List.set_cons_zero, List.nil_append, List.cons_append]
      refine wpGrowV_fix _ rfl rfl (fun W hb _ => by go_simp; first | exact xrefl W | exact ⟨rfl, xrefl W⟩) ?_
      try simp only [Act.put, List.setIfInBounds_toArray, List.set_cons_succ, List.set_cons_zero, List.nil_append, List.cons_append]
      refine wpGrowV_fix _ rfl rfl (fun W hb _ => by go_simp; first | exact xrefl W | exact ⟨rfl, xrefl W⟩) ?_
      try simp only [Act.put, List.setIfInBounds_toArray, List.set_cons_succ, List.set_cons_zero, List.nil_append, List.cons_append]
      refine wpGrowV_fix _ rfl rfl (fun W hb _ => by go_simp; first | exact xrefl W | exact ⟨rfl, xrefl W⟩) ?_
      try simp only [Act.put, List.setIfInBounds_toArray, List.set_cons_succ, List.set_cons_zero, List.nil_append, List.cons_append]
      refine wpGrowV_any (rowT .u32 [iv32 (add32 (add32 (add32 s16 (xor32 (laidF s15 [7, 18]) (shr32 s15 3))) s7) (xor32 (laidF s2 [17, 19]) (shr32 s2 10)))]) rfl rfl (fun W hb _ => ?_) (fun v hv => ?_)
      · go_simp
        exact ⟨⟨⟨_, rfl⟩, fun b e => by cases e; exact rowAt_new W _ _⟩, xalloc (xrefl W) _⟩
      obtain ⟨q3, rfl⟩ := hv
      try simp only [Act.put, List.setIfInBounds_toArray, List.set_cons_succ, List.set_cons_zero, List.nil_append, List.cons_append]
      refine wpGrowV_nil fun W hbW hmem => ?_
      have hq3 : RowAt .u32 W (some ⟨q3, 0, none⟩) [iv32 (add32 (add32 (add32 s16 (xor32 (laidF s15 [7, 18]) (shr32 s15 3))) s7) (xor32 (laidF s2 [17, 19]) (shr32 s2 10)))] := hmem 28 (by decide) q3 rfl
      rw [hsc.out] at hq3 ⊢
      clear hmem c16 c7 w16 w7 g16 g7 i16 i7
      have hbWw : Below wr.heap.size wr W := by
        have h0 := xdrewN (xrefl wr) nq
        rw [hwr.out] at h0
        exact xtrans h0 hbW
      have hbW2 := xtrans hb hbWw
      have hrowW := hrow.out.below hbWw
      have hHW := hH.below hbWw
      have hRW := hR.below hbWw
      have hszW := hbWw.size
      have hfin : ∀ v' w', w'.ownsRow (w.heap.size + 3) 28 1 v' (t + 1) ((rowI t (sched b)).map (Value.int .u32) ++ [.int .u32 (iv32 (sched b t))]) → Below (w.heap.size + 3) W w' →
          ∃ pa c, v' = .slice pa (t + 1) c ∧ RowAt .u32 w' pa (rowI (t + 1) (sched b)) ∧ w'.ownsRow (w.heap.size + 3) 28 1 v' (t + 1) ((rowI (t + 1) (sched b)).map (Value.int .u32)) ∧ Blk .u32 w' w.heap.size 29 (rowI 8 hs) ∧ Blk .u32 w' (w.heap.size + 1 + 1) 29 (List.replicate 8 0) ∧ Below w.heap.size w w' ∧ w.heap.size + 3 ≤ w'.heap.size := by
        intro v' w' ho hbv
        have hb3 : Below w.heap.size w w' := ⟨hbv.os.trans hbW2.os, hbv.tape.trans hbW2.tape, hbv.output.trans hbW2.output, Nat.le_trans hbW2.size hbv.size, fun k hk => (hbv.block k (by omega)).trans (hbW2.block k hk)⟩
        have ho2 : w'.ownsRow (w.heap.size + 3) 28 1 v' (t + 1) ((rowI (t + 1) (sched b)).map (Value.int .u32)) := by
          rw [rowI_succ, List.map_append]; exact ho
        obtain ⟨pa, c', rfl, hr', -⟩ := rowAt_own ho2
        simp only [rowI_len] at ho2 ⊢
        exact ⟨pa, c', rfl, hr', ho2, (hbv.block _ (by omega)).trans hHW, (hbv.block _ (by omega)).trans hRW, hb3, by have := hbv.size; omega⟩
      replace hfin := Lib.hid hfin
      have hszW2 : w.heap.size + 3 ≤ W.heap.size := by omega
      have hx1 : t + [iv32 (sched b t)].length ≤ maxLen := by unfold maxLen; simp; omega
      have hx2 : (t + [iv32 (sched b t)].length) * 4 ≤ 140737488355328 := by simp; omega
      rcases hown.out with ⟨rfl, rfl⟩ | hownr
      · have hcells : ∀ bb, some (⟨pb, po, none⟩ : Addr) = some bb → ∀ j u, ((rowI 16 (sched b)).map (Value.int .u32))[j]? = some u → W.cell? (bb.add j) = some u := by
          rintro bb hbb j u hj
          cases hbb
          rw [List.getElem?_map] at hj
          obtain ⟨y, hy, rfl⟩ := Option.map_eq_some_iff.1 hj
          obtain ⟨hlt2, rfl⟩ := List.getElem?_eq_some_iff.1 hy
          obtain ⟨b', o', h1, h2⟩ := hrowW j hlt2
          cases h1
          rw [Addr.add_lit]; exact h2
        have hnc : ∀ j u, ([.int .u32 (iv32 (sched b 16))] : List Value)[j]? = some u → W.cell? ((⟨q3, 0, none⟩ : Addr).add j) = some u := by
          intro j u hj
          match j, hj with
          | 0, hj =>
            obtain ⟨b', o', h1, h2⟩ := hq3 0 (by simp)
            cases h1
            simp at hj
            subst hj
            rw [Addr.add_lit]; exact h2
        go_wp2_with (at_builtin; refine wpList_append_grows W rfl _ _ 54 rfl 28 i0 (.int .u32 0) 1 4 Try.underlying54 hi hz0 hz1 hz2 rfl (by decide) (some ⟨pb, po, none⟩) 16 16 ((rowI 16 (sched b)).map (Value.int .u32)) rfl (by simp) (by rw [List.length_map, rowI_len]) hcells ⟨q3, 0, none⟩ 1 1 [.int .u32 (iv32 (sched b 16))] rfl rfl hnc (by simp [Value.oneCell']) (by omega) (by unfold maxLen; omega) (by omega) ?_; intro v' w' ho hg)
        obtain ⟨pa, c', rfl, e1, e2, e3, e4, e5, e6⟩ := hfin.out v' w' (own_base ho hszW2) ⟨hg.os, hg.tape, hg.output, hg.size, fun k hk => hg.block k (by omega) (by simp)⟩
        exact ⟨⟨17, pa, c', by omega, by omega, rfl, rfl, e1, .inr e2, e3, e4, e5, e6⟩, by simp [intOf]⟩
      · have hownW := own_keep hownr hbWw
        go_wp2_with (at_builtin; refine wpList_append_row W rfl _ _ 54 rfl (w.heap.size + 3) 28 i0 (.int .u32 0) 4 Try.underlying54 hi hz0 hz1 hz2 rfl (.slice (some ⟨pb, po, none⟩) t c) t _ rfl hownW (some ⟨q3, 0, none⟩) 1 .u32 [iv32 (sched b t)] rfl (by simp) hq3 hx1 hx2 hszW2 ?_; intro v' w' ho hg)
        obtain ⟨pa, c', rfl, e1, e2, e3, e4, e5, e6⟩ := hfin.out v' w' (by simpa using ho) ((Below.refl _ W).grown hg hszW2 (fun k hk => (hownW.lt k hk).1))
        exact ⟨⟨t + 1, pa, c', by omega, by omega, rfl, rfl, e1, .inr e2, e3, e4, e5, e6⟩, by simp [intOf]; omega⟩
    · have ht64 : t = 64 := by omega
      subst ht64
      clear hlt hown
      have hln : (rowI 8 hs).length = 8 := rowI_len 8 hs
      go_wp2_with (first
        | (refine wpList_load_blk rfl 29 _ rfl w.heap.size rfl .u32 29 (rowI 8 hs) _ _ hH Try.underlying29 (by rw [rowI_len]; kernel_rfl) ?_)
        | (go_at_call 13; refine (numbers_any _).mono ?_; rintro e w2 ⟨rfl, hb2⟩))
      rw [fill8 _ hln] at hb2
      have hX := (Blk.new (q := .u32) wr 61 (rowI 8 hs)).below hb2
      have hH2 := (hH.alloc _).below hb2
      have hR2 := (hR.alloc _).below hb2
      have hrow2 := (hrow.below (xalloc (xrefl wr) _)).below hb2
      have hbw2 := xtrans (xalloc hb _) hb2
      have hs2 := hb2.size
      rw [World.size_alloc] at hs2
      have hplt : ∀ x, pa = some x → x.block < wr.heap.size := fun x hx => by
        obtain ⟨b', o', h1, h2⟩ := hrow 0 (by rw [rowI_len]; decide)
        rw [hx] at h1
        cases h1
        exact cell_lt h2
      obtain ⟨xb, hxb⟩ : ∃ xb, xb = wr.heap.size := ⟨_, rfl⟩
      rw [← hxb] at hX hplt hs2 hsz ⊢
      clear hxb hb2 hH hR hb hln ht ht16 hrow
      replace hrow2 := Lib.hid hrow2
      replace hplt := Lib.hid hplt
      go_loopw [64] (fun tv wx => ∃ t : Nat, t ≤ 64 ∧ tv = .int .i64 t ∧ Blk .u32 wx xb 61 (rowI 8 (mixTo hs b numB t)) ∧ Blk .u32 wx w.heap.size 29 (rowI 8 hs) ∧ Blk .u32 wx (w.heap.size + 1 + 1) 29 (List.replicate 8 0) ∧ Hid (RowAt .u32 wx pa (rowI 64 (sched b))) ∧ Below w.heap.size w wx) (fun tv _ => 64 - (intOf tv).toNat)
      case atStart => exact ⟨0, by omega, rfl, hX, hH2, hR2, hrow2, hbw2⟩
      case round =>
        clear hX hH2 hR2 hrow2 hbw2
        obtain ⟨t, ht, rfl, hX, hH, hR, hrow, hb⟩ := hrel
        by_cases hlt : t < 64
        · obtain ⟨pb, po, rfl, c1⟩ := hrow.out t (by rw [rowI_len]; exact hlt)
          rw [rowI_get] at c1
          have hidx := fun W => run_index_ints (P := Try.prog) 31 28 64 .u32 .u32 (rowI 64 numB) t W Try.underlying31 Try.underlying28 (by kernel_rfl) (by rw [rowI_len]; exact hlt) hlt
          simp only [rowI_get] at hidx
          have hstep := fun W h => step_any xb (numB t) (sched b t) (mixTo hs b numB t) W h
          rw [step_eq, show stepF (numB t) (sched b t) (mixTo hs b numB t) = mixTo hs b numB (t + 1) from rfl] at hstep
          replace hstep := Lib.hid hstep
          have hpb := hplt.out _ rfl
          unfold arrV
          go_wp2_with (go_at_call 26; refine (hstep.out _ hX).mono ?_; rintro e w3 ⟨rfl, h3, ho3⟩)
          exact ⟨⟨t + 1, by omega, rfl, h3, hH.only ho3 (by omega), hR.only ho3 (by omega), Lib.hid (hrow.out.only ho3 fun x hx e => by cases hx; simp only at e hpb; omega), ho3.below hb hb.size (by rintro i rfl; omega)⟩, by simp [intOf]; omega⟩
        · have ht64 : t = 64 := by omega
          subst ht64
          clear hlt hrow
          generalize hs64 : mixTo hs b numB 64 = s at *
          replace hs64 := Lib.hid hs64
          go_wp2
          go_loopw [76] (fun iv wx => ∃ i : Nat, i ≤ 8 ∧ iv = .int .i64 i ∧ Blk .u32 wx xb 61 (rowI 8 s) ∧ Blk .u32 wx (w.heap.size + 1 + 1) 29 (List.replicate 8 0) ∧ Blk .u32 wx w.heap.size 29 (rowI 8 (fun j => if j < i then add32 (hs j) (s j) else hs j)) ∧ Below w.heap.size w wx) (fun iv _ => 8 - (intOf iv).toNat)
          case atStart => exact ⟨0, by omega, rfl, hX, hR, hH, hb⟩
          case round =>
            clear hH hR hX hb
            obtain ⟨i, hi, rfl, hX, hR, hH, hb⟩ := hrel
            by_cases hlt : i < 8
            · have hlt2 : (i : Int) < 8 := by omega
              have c1 := hH.cell i (by rw [rowI_len]; exact hlt)
              rw [rowI_get] at c1
              replace c1 : wr.cell? ⟨w.heap.size, i, none⟩ = some (.int .u32 (iv32 (hs i))) := by rw [c1]; congr 2; rw [if_neg (by omega)]
              have c2 := hX.cell i (by rw [rowI_len]; exact hlt)
              rw [rowI_get] at c2
              have f1 := hH.frozen i
              go_wp2_with fail
              refine wp_region_still_tail 11 (by kernel_rfl) (by kernel_rfl) ?_
              simp only [List.take_succ_cons, List.take_zero, List.drop_succ_cons, List.drop_zero]
              generalize hw5 : ({ wr with drawn := wr.drawn + 1 } : World) = w5
              replace c1 : w5.cell? ⟨w.heap.size, i, none⟩ = some (.int .u32 (iv32 (hs i))) := by rw [← hw5]; exact c1
              replace c2 : w5.cell? ⟨xb, i, none⟩ = some (.int .u32 (iv32 (s i))) := by rw [← hw5]; exact c2
              replace f1 : w5.frozen? ⟨w.heap.size, i, none⟩ = false := by rw [← hw5]; exact f1
              replace hw5 := Lib.hid hw5
              repeat still_step
              refine wpStill_nil ?_
              go_wp2
              go_roundw
              case rel =>
                have e5 := hw5.out
                subst e5
                have hset := (hH.drew).set i (iv32 (add32 (hs i) (s i)))
                rw [add_set hs s i] at hset
                (repeat apply Exists.intro)
                exact ⟨⟨i + 1, by omega, by go_num, hX.drew.oth _ (by omega), hR.drew.oth _ (by omega), hset, xsetb (xdrew hb) (by omega) _⟩, rfl⟩
              case measure => simp [intOf]; omega
            · have hi8 : i = 8 := by omega
              subst hi8
              rw [show rowI 8 (fun j => if j < 8 then add32 (hs j) (s j) else hs j) = rowI 8 (mixF hs b numB) from allL_congr fun i hi => by
                show iv32 (if i < 8 then add32 (hs i) (s i) else hs i) = iv32 (add32 (mixTo hs b numB 64 i) (hs i))
                rw [if_pos hi, hs64.out]; congr 1; exact BitVec.add_comm _ _] at hH
              clear hlt
              go_wp2_with (first
                | (refine wpList_load_blk rfl 29 _ rfl w.heap.size rfl .u32 29 (rowI 8 (mixF hs b numB)) _ _ hH Try.underlying29 (by rw [rowI_len]; kernel_rfl) ?_)
                | (refine wpList_store_blk rfl 29 _ _ rfl (w.heap.size + 1 + 1) rfl .u32 29 (List.replicate 8 0) (rowI 8 (mixF hs b numB)) hR rfl (by rw [rowI_len, List.length_replicate]) (by rw [rowI_len]; kernel_rfl) ?_; intro w7 h7 ho7))
              refine ret_blk rfl (w.heap.size + 1 + 1) .u32 29 (rowI 8 (mixF hs b numB)) _ _ rfl h7 Try.underlying29 (by rw [rowI_len]; kernel_rfl) rfl ⟨rfl, ?_⟩
              exact ho7.below hb hb.size (by rintro i rfl; omega)
end Go.Proofs.Ytfieagpidplmoaa
