/- Texts of this claim, merged; no condition. -/
import Derived.Test.YtijkdabmegbcjaaGreatDoorT16
import Derived.Test.YtijkdabmegbcjaaGreatDoorT14
import Derived.Test.YtijkdabmegbcjaaGreatDoorTA
set_option linter.all false
namespace Go.Proofs.YtijkdabmegbcjaaGreatDoor
section
open Go.RowKit Go.Shelf
attribute [local go_sem 20000] run_max_big run_min_small
theorem setCells_part (b : Nat) (T : TypeId) (suf : List Value) : ∀ (vs pre old : List Value) (w : World), w.heap[b]? = some (.cells (pre ++ old ++ suf).toArray T (0, 0)) → vs.length = old.length → (w.setCells b pre.length vs).heap[b]? = some (.cells (pre ++ vs ++ suf).toArray T (0, 0))
  | [], pre, old, w, h, hl => by
    have : old = [] := List.length_eq_zero_iff.1 (by simpa using hl.symm)
    subst this
    exact h
  | v :: vs, pre, [], w, h, hl => by simp at hl
  | v :: vs, pre, r :: old, w, h, hl => by
    have h2 : (w.setCell ⟨b, pre.length, none⟩ v).heap[b]? = some (.cells ((pre ++ [v]) ++ old ++ suf).toArray T (0, 0)) := by
      rw [heap_setCell_same w b pre.length _ T _ h]
      congr 2
      apply Array.ext'
      simp
    have := setCells_part b T suf vs (pre ++ [v]) old (w.setCell ⟨b, pre.length, none⟩ v) h2 (by simpa using hl)
    rw [World.setCells]
    simpa using this
theorem wpList_store_part {P : Program} {ops : Array Oper} {rest : List Oper} {o : Oper} {a : Act} {w : World} {Q : Exit → Act → World → Prop} (hgd : o.guard = none) (ty : TypeId) (x y : Operand) (ho : o.op = .store ty x y)
    (b n : Nat) (hx : a.eval x = .pointer (some ⟨b, n, none⟩)) (T : TypeId) (pre old suf vs' : List Value) (hB : BlkG w b T (pre ++ old ++ suf)) (hn : pre.length = n) (hy : a.eval y = .agg vs'.toArray) (hl : vs'.length = old.length) (hi : (P.info? ty).map (·.size) = some vs'.length) (h1 : vs'.all (·.oneCell') = true)
    (h : ∀ w', BlkG w' b T (pre ++ vs' ++ suf) → Only (· = b) w w' → wpList P ops Q rest (a.put o.dst undef) w') : wpList P ops Q (o :: rest) a w := by
  subst hn
  refine wpList_plain hgd fun _ hK => wp_store_mid ty x y ho b pre.length _ hx hy (fun j hj => ?_) (by simpa using hi) (by simpa using h1) (hK _ _ (h _ ?_ (setCells_only _ _ _ _)))
  · have hj2 : j < old.length := by simpa [hl] using hj
    have hlen : pre.length + j < (pre ++ old ++ suf).length := by simp; omega
    exact ⟨by rw [hB.cell _ hlen]; rfl, hB.free _⟩
  · have := setCells_part b T suf vs' pre old w (by simpa [BlkG] using hB) hl
    simpa [BlkG] using this
structure StN where
  g0 : Int
  g1 : Int
  lo : Int
  hi : Int
  ht : Int
  deriving DecidableEq
def stC (s : StN) : List Value := [.int .u64 s.g0, .int .u64 s.g1, .int .i64 s.lo, .int .i64 s.hi, .int .i64 s.ht]
def stV (s : StN) : Value := .agg #[.int .u64 s.g0, .int .u64 s.g1, .int .i64 s.lo, .int .i64 s.hi, .int .i64 s.ht]
def zeroS : StN := ⟨0, 0, 0, 0, 0⟩
def thenS (s o : StN) : StN := ⟨s.g0 + o.g0, s.g1 + o.g1, smallF s.lo (s.ht + o.lo), bigF s.hi (s.ht + o.hi), s.ht + o.ht⟩
def orS (s o : StN) : StN := ⟨smallF s.g0 o.g0, bigF s.g1 o.g1, smallF s.lo o.lo, bigF s.hi o.hi, s.ht⟩
structure SmS (B : Int) (s : StN) : Prop where
  a0 : 0 ≤ s.g0 ∧ s.g0 ≤ B
  a1 : 0 ≤ s.g1 ∧ s.g1 ≤ B
  a2 : -B ≤ s.lo ∧ s.lo ≤ B
  a3 : -B ≤ s.hi ∧ s.hi ≤ B
  a4 : -B ≤ s.ht ∧ s.ht ≤ B
set_option maxRecDepth 100000 in
set_option maxHeartbeats 2000000 in
theorem then_any (s o : StN) (w : World) (hs : SmS 1000000000000000 s) (ho : SmS 1000000000000000 o) : Calls Tryz.prog 152 #[stV s, stV o] w fun e w' => e = .returned (stV (thenS s o)) ∧ Below w.heap.size w w' := by
  obtain ⟨s0, s1, s2, s3, s4⟩ := s
  obtain ⟨o0, o1, o2, o3, o4⟩ := o
  obtain ⟨a0, a1, a2, a3, a4⟩ := hs
  obtain ⟨b0, b1, b2, b3, b4⟩ := ho
  simp only at a0 a1 a2 a3 a4 b0 b1 b2 b3 b4
  unfold stV thenS
  simp only
  go_enter Tryz.func152, Tryz.ntmps152
  go_wp2
  have hb3 : Below w.heap.size w (((w.alloc (.cells #[.int .u64 s0, .int .u64 s1, .int .i64 s2, .int .i64 s3, .int .i64 s4] 142)).alloc (.cells #[.int .u64 o0, .int .u64 o1, .int .i64 o2, .int .i64 o3, .int .i64 o4] 142)).alloc (.cells #[.int .u64 0, .int .u64 0, .int .i64 0, .int .i64 0, .int .i64 0] 142)) := xalloc (xalloc (xalloc (xrefl w) _) _) _
  have hS : BlkG (((w.alloc (.cells #[.int .u64 s0, .int .u64 s1, .int .i64 s2, .int .i64 s3, .int .i64 s4] 142)).alloc (.cells #[.int .u64 o0, .int .u64 o1, .int .i64 o2, .int .i64 o3, .int .i64 o4] 142)).alloc (.cells #[.int .u64 0, .int .u64 0, .int .i64 0, .int .i64 0, .int .i64 0] 142)) w.heap.size 142 [.int .u64 s0, .int .u64 s1, .int .i64 s2, .int .i64 s3, .int .i64 s4] := ((BlkG.new w 142 [.int .u64 s0, .int .u64 s1, .int .i64 s2, .int .i64 s3, .int .i64 s4]).alloc _).alloc _
  have hO : BlkG (((w.alloc (.cells #[.int .u64 s0, .int .u64 s1, .int .i64 s2, .int .i64 s3, .int .i64 s4] 142)).alloc (.cells #[.int .u64 o0, .int .u64 o1, .int .i64 o2, .int .i64 o3, .int .i64 o4] 142)).alloc (.cells #[.int .u64 0, .int .u64 0, .int .i64 0, .int .i64 0, .int .i64 0] 142)) (w.heap.size + 1) 142 [.int .u64 o0, .int .u64 o1, .int .i64 o2, .int .i64 o3, .int .i64 o4] := by have := (BlkG.new (w.alloc (.cells #[.int .u64 s0, .int .u64 s1, .int .i64 s2, .int .i64 s3, .int .i64 s4] 142)) 142 [.int .u64 o0, .int .u64 o1, .int .i64 o2, .int .i64 o3, .int .i64 o4]).alloc (.cells #[.int .u64 0, .int .u64 0, .int .i64 0, .int .i64 0, .int .i64 0] 142); rwa [World.size_alloc] at this
  have hR : BlkG (((w.alloc (.cells #[.int .u64 s0, .int .u64 s1, .int .i64 s2, .int .i64 s3, .int .i64 s4] 142)).alloc (.cells #[.int .u64 o0, .int .u64 o1, .int .i64 o2, .int .i64 o3, .int .i64 o4] 142)).alloc (.cells #[.int .u64 0, .int .u64 0, .int .i64 0, .int .i64 0, .int .i64 0] 142)) (w.heap.size + 1 + 1) 142 [.int .u64 0, .int .u64 0, .int .i64 0, .int .i64 0, .int .i64 0] := by have := BlkG.new ((w.alloc (.cells #[.int .u64 s0, .int .u64 s1, .int .i64 s2, .int .i64 s3, .int .i64 s4] 142)).alloc (.cells #[.int .u64 o0, .int .u64 o1, .int .i64 o2, .int .i64 o3, .int .i64 o4] 142)) 142 [.int .u64 0, .int .u64 0, .int .i64 0, .int .i64 0, .int .i64 0]; rwa [World.size_alloc, World.size_alloc] at this
  obtain ⟨wa, hwa⟩ : ∃ wa, (((w.alloc (.cells #[.int .u64 s0, .int .u64 s1, .int .i64 s2, .int .i64 s3, .int .i64 s4] 142)).alloc (.cells #[.int .u64 o0, .int .u64 o1, .int .i64 o2, .int .i64 o3, .int .i64 o4] 142)).alloc (.cells #[.int .u64 0, .int .u64 0, .int .i64 0, .int .i64 0, .int .i64 0] 142)) = wa := ⟨_, rfl⟩
  rw [hwa] at hb3 hS hO hR ⊢
  clear hwa
  have hwr : ∀ z : Int, -4000000000000000 ≤ z ∧ z ≤ 4000000000000000 → IntKind.i64.wrap z = z := fun z h => by simp [IntKind.wrap, IntKind.bits, IntKind.signed]; omega
  have hwu : ∀ z : Int, 0 ≤ z ∧ z ≤ 4000000000000000 → IntKind.u64.wrap z = z := fun z h => by simp [IntKind.wrap, IntKind.bits, IntKind.signed]; omega
  have e0 := hwu (s0 + o0) (by omega)
  have e1 := hwu (s1 + o1) (by omega)
  have e2 := hwr (s4 + o2) (by omega)
  have e3 := hwr (s4 + o3) (by omega)
  have e4 := hwr (s4 + o4) (by omega)
  clear hwr hwu a0 a1 a2 a3 a4 b0 b1 b2 b3 b4
  replace hS := qh hS
  replace hO := qh hO
  replace hR := qh hR
  replace hb3 := qh hb3
  refine wp_loop_rounds 3 ?_
  have cS : wa.cell? ⟨w.heap.size, 0, none⟩ = some (.int .u64 s0) := hS.out.cell 0 (by simp)
  have cO : wa.cell? ⟨w.heap.size + 1, 0, none⟩ = some (.int .u64 o0) := hO.out.cell 0 (by simp)
  rw [rounds_succ]
  go_wp2
  refine' wp_region_growL 11 [fixd _, fixd _, fixd _, fixd _, fixd _, fixd _, fixd _, fixd _, fixd _, fixd _, fixd _] (by kernel_rfl) (by kernel_rfl) ?_
  rotate_left 11
  simp only [List.take_succ_cons, List.take_zero, List.drop_succ_cons, List.drop_zero]
  try simp only [Act.put, zA, zB, zC, zD, zE]
  refine' wpGrowV_fix _ rfl rfl (fun W hb _ => by go_simp; first | exact xrefl W | exact ⟨rfl, xrefl W⟩) ?_
  try simp only [Act.put, zA, zB, zC, zD, zE]
  refine' wpGrowV_fix _ rfl rfl (fun W hb _ => by go_simp; first | exact xrefl W | exact ⟨rfl, xrefl W⟩) ?_
  try simp only [Act.put, zA, zB, zC, zD, zE]
  refine' wpGrowV_fix _ rfl rfl (fun W hb _ => by go_simp; first | exact xrefl W | exact ⟨rfl, xrefl W⟩) ?_
  try simp only [Act.put, zA, zB, zC, zD, zE]
  refine' wpGrowV_fix _ rfl rfl (fun W hb _ => by have c := cbel hb cS; go_simp; first | exact xrefl W | exact ⟨rfl, xrefl W⟩) ?_
  try simp only [Act.put, zA, zB, zC, zD, zE]
  refine' wpGrowV_fix _ rfl rfl (fun W hb _ => by go_simp; first | exact xrefl W | exact ⟨rfl, xrefl W⟩) ?_
  try simp only [Act.put, zA, zB, zC, zD, zE]
  refine' wpGrowV_fix _ rfl rfl (fun W hb _ => by go_simp; first | exact xrefl W | exact ⟨rfl, xrefl W⟩) ?_
  try simp only [Act.put, zA, zB, zC, zD, zE]
  refine' wpGrowV_fix _ rfl rfl (fun W hb _ => by go_simp; first | exact xrefl W | exact ⟨rfl, xrefl W⟩) ?_
  try simp only [Act.put, zA, zB, zC, zD, zE]
  refine' wpGrowV_fix _ rfl rfl (fun W hb _ => by have c := cbel hb cO; go_simp; first | exact xrefl W | exact ⟨rfl, xrefl W⟩) ?_
  try simp only [Act.put, zA, zB, zC, zD, zE]
  refine' wpGrowV_fix _ rfl rfl (fun W hb _ => by go_simp; first | exact xrefl W | exact ⟨rfl, xrefl W⟩) ?_
  try simp only [Act.put, zA, zB, zC, zD, zE]
  refine' wpGrowV_fix _ rfl rfl (fun W hb _ => by go_simp; first | exact xrefl W | exact ⟨rfl, xrefl W⟩) ?_
  try simp only [Act.put, zA, zB, zC, zD, zE]
  refine' wpGrowV_fix _ rfl rfl (fun W hb _ => by go_simp; first | exact xrefl W | exact ⟨rfl, xrefl W⟩) ?_
  try simp only [Act.put, zA, zB, zC, zD, zE]
  refine wpGrowV_nil fun W5 hb5 _ => ?_
  replace hS := qh (hS.out.below hb5)
  replace hO := qh (hO.out.below hb5)
  replace hR := qh (hR.out.below hb5)
  replace hb3 := qh (xtrans hb3.out hb5)
  clear hb5 cS cO
  go_wp2_with (refine wpList_store_at rfl 30 _ _ rfl w.heap.size 0 rfl 142 [.int .u64 s0, .int .u64 s1, .int .i64 s2, .int .i64 s3, .int .i64 s4] (.int .u64 (s0 + o0)) hS.out (by simp) rfl (by kernel_rfl) rfl ?_; intro w6 hS6 ho6; replace hO := qh (hO.out.only ho6 (by omega)); replace hR := qh (hR.out.only ho6 (by omega)); replace hb3 := qh (ho6.below hb3.out hb3.out.size (by rintro k rfl; exact Nat.le_refl _)); clear ho6; clear hS)
  have hS := qh hS6
  simp only [List.set_cons_succ, List.set_cons_zero] at hS
  clear hS6
  have cS : w6.cell? ⟨w.heap.size, 1, none⟩ = some (.int .u64 s1) := hS.out.cell 1 (by simp)
  have cO : w6.cell? ⟨w.heap.size + 1, 1, none⟩ = some (.int .u64 o1) := hO.out.cell 1 (by simp)
  rw [rounds_succ]
  go_wp2
  refine' wp_region_growL 11 [fixd _, fixd _, fixd _, fixd _, fixd _, fixd _, fixd _, fixd _, fixd _, fixd _, fixd _] (by kernel_rfl) (by kernel_rfl) ?_
  rotate_left 11
  simp only [List.take_succ_cons, List.take_zero, List.drop_succ_cons, List.drop_zero]
  try simp only [Act.put, zA, zB, zC, zD, zE]
  refine' wpGrowV_fix _ rfl rfl (fun W hb _ => by go_simp; first | exact xrefl W | exact ⟨rfl, xrefl W⟩) ?_
  try simp only [Act.put, zA, zB, zC, zD, zE]
  refine' wpGrowV_fix _ rfl rfl (fun W hb _ => by go_simp; first | exact xrefl W | exact ⟨rfl, xrefl W⟩) ?_
  try simp only [Act.put, zA, zB, zC, zD, zE]
  refine' wpGrowV_fix _ rfl rfl (fun W hb _ => by go_simp; first | exact xrefl W | exact ⟨rfl, xrefl W⟩) ?_
  try simp only [Act.put, zA, zB, zC, zD, zE]
  refine' wpGrowV_fix _ rfl rfl (fun W hb _ => by have c := cbel hb cS; go_simp; first | exact xrefl W | exact ⟨rfl, xrefl W⟩) ?_
  try simp only [Act.put, zA, zB, zC, zD, zE]
  refine' wpGrowV_fix _ rfl rfl (fun W hb _ => by go_simp; first | exact xrefl W | exact ⟨rfl, xrefl W⟩) ?_
  try simp only [Act.put, zA, zB, zC, zD, zE]
  refine' wpGrowV_fix _ rfl rfl (fun W hb _ => by go_simp; first | exact xrefl W | exact ⟨rfl, xrefl W⟩) ?_
  try simp only [Act.put, zA, zB, zC, zD, zE]
  refine' wpGrowV_fix _ rfl rfl (fun W hb _ => by go_simp; first | exact xrefl W | exact ⟨rfl, xrefl W⟩) ?_
  try simp only [Act.put, zA, zB, zC, zD, zE]
  refine' wpGrowV_fix _ rfl rfl (fun W hb _ => by have c := cbel hb cO; go_simp; first | exact xrefl W | exact ⟨rfl, xrefl W⟩) ?_
  try simp only [Act.put, zA, zB, zC, zD, zE]
  refine' wpGrowV_fix _ rfl rfl (fun W hb _ => by go_simp; first | exact xrefl W | exact ⟨rfl, xrefl W⟩) ?_
  try simp only [Act.put, zA, zB, zC, zD, zE]
  refine' wpGrowV_fix _ rfl rfl (fun W hb _ => by go_simp; first | exact xrefl W | exact ⟨rfl, xrefl W⟩) ?_
  try simp only [Act.put, zA, zB, zC, zD, zE]
  refine' wpGrowV_fix _ rfl rfl (fun W hb _ => by go_simp; first | exact xrefl W | exact ⟨rfl, xrefl W⟩) ?_
  try simp only [Act.put, zA, zB, zC, zD, zE]
  refine wpGrowV_nil fun W5 hb5 _ => ?_
  replace hS := qh (hS.out.below hb5)
  replace hO := qh (hO.out.below hb5)
  replace hR := qh (hR.out.below hb5)
  replace hb3 := qh (xtrans hb3.out hb5)
  clear hb5 cS cO
  go_wp2_with (refine wpList_store_at rfl 30 _ _ rfl w.heap.size 1 rfl 142 [.int .u64 (s0 + o0), .int .u64 s1, .int .i64 s2, .int .i64 s3, .int .i64 s4] (.int .u64 (s1 + o1)) hS.out (by simp) rfl (by kernel_rfl) rfl ?_; intro w7 hS6 ho6; replace hO := qh (hO.out.only ho6 (by omega)); replace hR := qh (hR.out.only ho6 (by omega)); replace hb3 := qh (ho6.below hb3.out hb3.out.size (by rintro k rfl; exact Nat.le_refl _)); clear ho6; clear hS)
  have hS := qh hS6
  simp only [List.set_cons_succ, List.set_cons_zero] at hS
  clear hS6
  rw [rounds_succ]
  have cS0 : w7.cell? ⟨w.heap.size, 0, none⟩ = some (.int .u64 (s0 + o0)) := hS.out.cell 0 (by simp)
  have cS1 : w7.cell? ⟨w.heap.size, 1, none⟩ = some (.int .u64 (s1 + o1)) := hS.out.cell 1 (by simp)
  have cS2 : w7.cell? ⟨w.heap.size, 2, none⟩ = some (.int .i64 s2) := hS.out.cell 2 (by simp)
  have cS3 : w7.cell? ⟨w.heap.size, 3, none⟩ = some (.int .i64 s3) := hS.out.cell 3 (by simp)
  have cS4 : w7.cell? ⟨w.heap.size, 4, none⟩ = some (.int .i64 s4) := hS.out.cell 4 (by simp)
  have cO0 : w7.cell? ⟨w.heap.size + 1, 0, none⟩ = some (.int .u64 o0) := hO.out.cell 0 (by simp)
  have cO1 : w7.cell? ⟨w.heap.size + 1, 1, none⟩ = some (.int .u64 o1) := hO.out.cell 1 (by simp)
  have cO2 : w7.cell? ⟨w.heap.size + 1, 2, none⟩ = some (.int .i64 o2) := hO.out.cell 2 (by simp)
  have cO3 : w7.cell? ⟨w.heap.size + 1, 3, none⟩ = some (.int .i64 o3) := hO.out.cell 3 (by simp)
  have cO4 : w7.cell? ⟨w.heap.size + 1, 4, none⟩ = some (.int .i64 o4) := hO.out.cell 4 (by simp)
  clear cS0 cS1 cO0 cO1
  have hu := Tryz.underlying142
  go_wp2_with (first
    | (refine wpList_store_part rfl 57 _ _ rfl w.heap.size 2 rfl 142 [.int .u64 (s0 + o0), .int .u64 (s1 + o1)] [.int .i64 s2, .int .i64 s3] [.int .i64 s4] [.int .i64 (smallF s2 (s4 + o2)), .int .i64 (bigF s3 (s4 + o3))] hS.out rfl rfl rfl (by kernel_rfl) rfl ?_; intro w8 hS8 ho8; replace hO := qh (hO.out.only ho8 (by omega)); replace hR := qh (hR.out.only ho8 (by omega)); replace hb3 := qh (ho8.below hb3.out hb3.out.size (by rintro k rfl; exact Nat.le_refl _)); clear ho8; have c84 : w8.cell? ⟨w.heap.size, 4, none⟩ = some (.int .i64 s4) := hS8.cell 4 (by simp); have cO84 : w8.cell? ⟨w.heap.size + 1, 4, none⟩ = some (.int .i64 o4) := hO.out.cell 4 (by simp); replace hS8 := qh hS8; clear cS2 cS3 cS4 cO2 cO3 cO4)
    | (refine wpList_store_at rfl 3 _ _ rfl w.heap.size 4 rfl 142 [.int .u64 (s0 + o0), .int .u64 (s1 + o1), .int .i64 (smallF s2 (s4 + o2)), .int .i64 (bigF s3 (s4 + o3)), .int .i64 s4] (.int .i64 (s4 + o4)) hS8.out (by simp) rfl (by kernel_rfl) rfl ?_; intro w9 hS9 ho9; replace hO := qh (hO.out.only ho9 (by omega)); replace hR := qh (hR.out.only ho9 (by omega)); replace hb3 := qh (ho9.below hb3.out hb3.out.size (by rintro k rfl; exact Nat.le_refl _)); clear ho9; replace hS9 := qh hS9)
    | (refine wpList_load_blkG rfl 142 _ rfl w.heap.size rfl 142 [.int .u64 (s0 + o0), .int .u64 (s1 + o1), .int .i64 (smallF s2 (s4 + o2)), .int .i64 (bigF s3 (s4 + o3)), .int .i64 (s4 + o4)] _ hS9.out hu rfl (by kernel_rfl) ?_)
    | (refine wpList_store_blkG rfl 142 _ _ rfl (w.heap.size + 1 + 1) rfl 142 [.int .u64 0, .int .u64 0, .int .i64 0, .int .i64 0, .int .i64 0] [.int .u64 (s0 + o0), .int .u64 (s1 + o1), .int .i64 (smallF s2 (s4 + o2)), .int .i64 (bigF s3 (s4 + o3)), .int .i64 (s4 + o4)] hR.out rfl rfl (by kernel_rfl) rfl ?_; intro wA hSA hoA; have hRA := qh hSA; replace hb3 := qh (hoA.below hb3.out hb3.out.size (by rintro k rfl; omega))))
  exact bodyPost_ret (results_blkG rfl _ _ (w.heap.size + 1 + 1) 142 _ _ rfl hRA.out hu rfl (by kernel_rfl)) rfl ⟨rfl, hb3.out⟩
end
section
open Go.RowKit Go.Shelf
attribute [local go_sem 20000] run_max_big run_min_small
set_option maxRecDepth 100000 in
set_option maxHeartbeats 2000000 in
theorem or_same (s o : StN) (w : World) (h : s.ht = o.ht) : Calls Tryz.prog 129 #[stV s, stV o] w fun e w' => e = .returned (stV (orS s o)) ∧ Below w.heap.size w w' := by
  unfold orS
  obtain ⟨s0, s1, s2, s3, s4⟩ := s
  obtain ⟨o0, o1, o2, o3, o4⟩ := o
  simp only at h
  subst h
  unfold stV
  simp only
  go_enter Tryz.func129, Tryz.ntmps129
  go_upto_region 1 with fail
  have hb3 : Below w.heap.size w (((w.alloc (.cells #[.int .u64 s0, .int .u64 s1, .int .i64 s2, .int .i64 s3, .int .i64 s4] 142)).alloc (.cells #[.int .u64 o0, .int .u64 o1, .int .i64 o2, .int .i64 o3, .int .i64 s4] 142)).alloc (.cells #[.int .u64 0, .int .u64 0, .int .i64 0, .int .i64 0, .int .i64 0] 142)) := xalloc (xalloc (xalloc (xrefl w) _) _) _
  have hS : BlkG (((w.alloc (.cells #[.int .u64 s0, .int .u64 s1, .int .i64 s2, .int .i64 s3, .int .i64 s4] 142)).alloc (.cells #[.int .u64 o0, .int .u64 o1, .int .i64 o2, .int .i64 o3, .int .i64 s4] 142)).alloc (.cells #[.int .u64 0, .int .u64 0, .int .i64 0, .int .i64 0, .int .i64 0] 142)) w.heap.size 142 [.int .u64 s0, .int .u64 s1, .int .i64 s2, .int .i64 s3, .int .i64 s4] := ((BlkG.new w 142 [.int .u64 s0, .int .u64 s1, .int .i64 s2, .int .i64 s3, .int .i64 s4]).alloc _).alloc _
  have hO : BlkG (((w.alloc (.cells #[.int .u64 s0, .int .u64 s1, .int .i64 s2, .int .i64 s3, .int .i64 s4] 142)).alloc (.cells #[.int .u64 o0, .int .u64 o1, .int .i64 o2, .int .i64 o3, .int .i64 s4] 142)).alloc (.cells #[.int .u64 0, .int .u64 0, .int .i64 0, .int .i64 0, .int .i64 0] 142)) (w.heap.size + 1) 142 [.int .u64 o0, .int .u64 o1, .int .i64 o2, .int .i64 o3, .int .i64 s4] := by have := (BlkG.new (w.alloc (.cells #[.int .u64 s0, .int .u64 s1, .int .i64 s2, .int .i64 s3, .int .i64 s4] 142)) 142 [.int .u64 o0, .int .u64 o1, .int .i64 o2, .int .i64 o3, .int .i64 s4]).alloc (.cells #[.int .u64 0, .int .u64 0, .int .i64 0, .int .i64 0, .int .i64 0] 142); rwa [World.size_alloc] at this
  have hR : BlkG (((w.alloc (.cells #[.int .u64 s0, .int .u64 s1, .int .i64 s2, .int .i64 s3, .int .i64 s4] 142)).alloc (.cells #[.int .u64 o0, .int .u64 o1, .int .i64 o2, .int .i64 o3, .int .i64 s4] 142)).alloc (.cells #[.int .u64 0, .int .u64 0, .int .i64 0, .int .i64 0, .int .i64 0] 142)) (w.heap.size + 1 + 1) 142 [.int .u64 0, .int .u64 0, .int .i64 0, .int .i64 0, .int .i64 0] := by have := BlkG.new ((w.alloc (.cells #[.int .u64 s0, .int .u64 s1, .int .i64 s2, .int .i64 s3, .int .i64 s4] 142)).alloc (.cells #[.int .u64 o0, .int .u64 o1, .int .i64 o2, .int .i64 o3, .int .i64 s4] 142)) 142 [.int .u64 0, .int .u64 0, .int .i64 0, .int .i64 0, .int .i64 0]; rwa [World.size_alloc, World.size_alloc] at this
  obtain ⟨wa, hwa⟩ : ∃ wa, (((w.alloc (.cells #[.int .u64 s0, .int .u64 s1, .int .i64 s2, .int .i64 s3, .int .i64 s4] 142)).alloc (.cells #[.int .u64 o0, .int .u64 o1, .int .i64 o2, .int .i64 o3, .int .i64 s4] 142)).alloc (.cells #[.int .u64 0, .int .u64 0, .int .i64 0, .int .i64 0, .int .i64 0] 142)) = wa := ⟨_, rfl⟩
  rw [hwa] at hb3 hS hO hR ⊢
  clear hwa
  replace hS := qh hS
  replace hO := qh hO
  replace hR := qh hR
  replace hb3 := qh hb3
  have cS0 : wa.cell? ⟨w.heap.size, 0, none⟩ = some (.int .u64 s0) := hS.out.cell 0 (by simp)
  have cS1 : wa.cell? ⟨w.heap.size, 1, none⟩ = some (.int .u64 s1) := hS.out.cell 1 (by simp)
  have cS2 : wa.cell? ⟨w.heap.size, 2, none⟩ = some (.int .i64 s2) := hS.out.cell 2 (by simp)
  have cS3 : wa.cell? ⟨w.heap.size, 3, none⟩ = some (.int .i64 s3) := hS.out.cell 3 (by simp)
  have cS4 : wa.cell? ⟨w.heap.size, 4, none⟩ = some (.int .i64 s4) := hS.out.cell 4 (by simp)
  have cO0 : wa.cell? ⟨w.heap.size + 1, 0, none⟩ = some (.int .u64 o0) := hO.out.cell 0 (by simp)
  have cO1 : wa.cell? ⟨w.heap.size + 1, 1, none⟩ = some (.int .u64 o1) := hO.out.cell 1 (by simp)
  have cO2 : wa.cell? ⟨w.heap.size + 1, 2, none⟩ = some (.int .i64 o2) := hO.out.cell 2 (by simp)
  have cO3 : wa.cell? ⟨w.heap.size + 1, 3, none⟩ = some (.int .i64 o3) := hO.out.cell 3 (by simp)
  have cO4 : wa.cell? ⟨w.heap.size + 1, 4, none⟩ = some (.int .i64 s4) := hO.out.cell 4 (by simp)
  have hee : (s4 == s4) = true := beq_self_eq_true _
  have hu := Tryz.underlying142
  go_wp2_with (first
    | (go_at_call 100; refine (must_true _).mono ?_; rintro e w' ⟨rfl, rfl⟩)
    | (refine wpList_store_part rfl 140 _ _ rfl w.heap.size 0 rfl 142 [] [.int .u64 s0, .int .u64 s1] [.int .i64 s2, .int .i64 s3, .int .i64 s4] [.int .u64 (smallF s0 o0), .int .u64 (bigF s1 o1)] hS.out rfl rfl rfl (by kernel_rfl) rfl ?_; intro w8 hS8 ho8; replace hO := qh (hO.out.only ho8 (by omega)); replace hR := qh (hR.out.only ho8 (by omega)); replace hb3 := qh (ho8.below hb3.out hb3.out.size (by rintro k rfl; exact Nat.le_refl _)); clear ho8; have c82 : w8.cell? ⟨w.heap.size, 2, none⟩ = some (.int .i64 s2) := hS8.cell 2 (by simp); have c83 : w8.cell? ⟨w.heap.size, 3, none⟩ = some (.int .i64 s3) := hS8.cell 3 (by simp); have d82 : w8.cell? ⟨w.heap.size + 1, 2, none⟩ = some (.int .i64 o2) := hO.out.cell 2 (by simp); have d83 : w8.cell? ⟨w.heap.size + 1, 3, none⟩ = some (.int .i64 o3) := hO.out.cell 3 (by simp); replace hS8 := qh hS8; clear cS0 cS1 cS2 cS3 cS4 cO0 cO1 cO2 cO3 cO4)
    | (refine wpList_store_part rfl 57 _ _ rfl w.heap.size 2 rfl 142 [.int .u64 (smallF s0 o0), .int .u64 (bigF s1 o1)] [.int .i64 s2, .int .i64 s3] [.int .i64 s4] [.int .i64 (smallF s2 o2), .int .i64 (bigF s3 o3)] hS8.out rfl rfl rfl (by kernel_rfl) rfl ?_; intro w9 hS9 ho9; replace hO := qh (hO.out.only ho9 (by omega)); replace hR := qh (hR.out.only ho9 (by omega)); replace hb3 := qh (ho9.below hb3.out hb3.out.size (by rintro k rfl; exact Nat.le_refl _)); clear ho9; replace hS9 := qh hS9)
    | (refine wpList_load_blkG rfl 142 _ rfl w.heap.size rfl 142 [.int .u64 (smallF s0 o0), .int .u64 (bigF s1 o1), .int .i64 (smallF s2 o2), .int .i64 (bigF s3 o3), .int .i64 s4] _ hS9.out hu rfl (by kernel_rfl) ?_)
    | (refine wpList_store_blkG rfl 142 _ _ rfl (w.heap.size + 1 + 1) rfl 142 [.int .u64 0, .int .u64 0, .int .i64 0, .int .i64 0, .int .i64 0] [.int .u64 (smallF s0 o0), .int .u64 (bigF s1 o1), .int .i64 (smallF s2 o2), .int .i64 (bigF s3 o3), .int .i64 s4] hR.out rfl rfl (by kernel_rfl) rfl ?_; intro wA hSA hoA; have hRA := qh hSA; replace hb3 := qh (hoA.below hb3.out hb3.out.size (by rintro k rfl; omega))))
  exact bodyPost_ret (results_blkG rfl _ _ (w.heap.size + 1 + 1) 142 _ _ rfl hRA.out hu rfl (by kernel_rfl)) rfl ⟨rfl, hb3.out⟩
set_option maxRecDepth 100000 in
set_option maxHeartbeats 2000000 in
theorem or_not (s o : StN) (w : World) (h : s.ht ≠ o.ht) : Calls Tryz.prog 129 #[stV s, stV o] w fun e w' => e = .panicked noneP ∧ Below w.heap.size w w' := by
  obtain ⟨s0, s1, s2, s3, s4⟩ := s
  obtain ⟨o0, o1, o2, o3, o4⟩ := o
  simp only at h
  unfold stV
  simp only
  go_enter Tryz.func129, Tryz.ntmps129
  go_upto_region 1 with fail
  have hb3 : Below w.heap.size w (((w.alloc (.cells #[.int .u64 s0, .int .u64 s1, .int .i64 s2, .int .i64 s3, .int .i64 s4] 142)).alloc (.cells #[.int .u64 o0, .int .u64 o1, .int .i64 o2, .int .i64 o3, .int .i64 o4] 142)).alloc (.cells #[.int .u64 0, .int .u64 0, .int .i64 0, .int .i64 0, .int .i64 0] 142)) := xalloc (xalloc (xalloc (xrefl w) _) _) _
  have hS : BlkG (((w.alloc (.cells #[.int .u64 s0, .int .u64 s1, .int .i64 s2, .int .i64 s3, .int .i64 s4] 142)).alloc (.cells #[.int .u64 o0, .int .u64 o1, .int .i64 o2, .int .i64 o3, .int .i64 o4] 142)).alloc (.cells #[.int .u64 0, .int .u64 0, .int .i64 0, .int .i64 0, .int .i64 0] 142)) w.heap.size 142 [.int .u64 s0, .int .u64 s1, .int .i64 s2, .int .i64 s3, .int .i64 s4] := ((BlkG.new w 142 [.int .u64 s0, .int .u64 s1, .int .i64 s2, .int .i64 s3, .int .i64 s4]).alloc _).alloc _
  have hO : BlkG (((w.alloc (.cells #[.int .u64 s0, .int .u64 s1, .int .i64 s2, .int .i64 s3, .int .i64 s4] 142)).alloc (.cells #[.int .u64 o0, .int .u64 o1, .int .i64 o2, .int .i64 o3, .int .i64 o4] 142)).alloc (.cells #[.int .u64 0, .int .u64 0, .int .i64 0, .int .i64 0, .int .i64 0] 142)) (w.heap.size + 1) 142 [.int .u64 o0, .int .u64 o1, .int .i64 o2, .int .i64 o3, .int .i64 o4] := by have := (BlkG.new (w.alloc (.cells #[.int .u64 s0, .int .u64 s1, .int .i64 s2, .int .i64 s3, .int .i64 s4] 142)) 142 [.int .u64 o0, .int .u64 o1, .int .i64 o2, .int .i64 o3, .int .i64 o4]).alloc (.cells #[.int .u64 0, .int .u64 0, .int .i64 0, .int .i64 0, .int .i64 0] 142); rwa [World.size_alloc] at this
  have hR : BlkG (((w.alloc (.cells #[.int .u64 s0, .int .u64 s1, .int .i64 s2, .int .i64 s3, .int .i64 s4] 142)).alloc (.cells #[.int .u64 o0, .int .u64 o1, .int .i64 o2, .int .i64 o3, .int .i64 o4] 142)).alloc (.cells #[.int .u64 0, .int .u64 0, .int .i64 0, .int .i64 0, .int .i64 0] 142)) (w.heap.size + 1 + 1) 142 [.int .u64 0, .int .u64 0, .int .i64 0, .int .i64 0, .int .i64 0] := by have := BlkG.new ((w.alloc (.cells #[.int .u64 s0, .int .u64 s1, .int .i64 s2, .int .i64 s3, .int .i64 s4] 142)).alloc (.cells #[.int .u64 o0, .int .u64 o1, .int .i64 o2, .int .i64 o3, .int .i64 o4] 142)) 142 [.int .u64 0, .int .u64 0, .int .i64 0, .int .i64 0, .int .i64 0]; rwa [World.size_alloc, World.size_alloc] at this
  obtain ⟨wa, hwa⟩ : ∃ wa, (((w.alloc (.cells #[.int .u64 s0, .int .u64 s1, .int .i64 s2, .int .i64 s3, .int .i64 s4] 142)).alloc (.cells #[.int .u64 o0, .int .u64 o1, .int .i64 o2, .int .i64 o3, .int .i64 o4] 142)).alloc (.cells #[.int .u64 0, .int .u64 0, .int .i64 0, .int .i64 0, .int .i64 0] 142)) = wa := ⟨_, rfl⟩
  rw [hwa] at hb3 hS hO hR ⊢
  clear hwa
  replace hS := qh hS
  replace hO := qh hO
  replace hR := qh hR
  replace hb3 := qh hb3
  have cS0 : wa.cell? ⟨w.heap.size, 0, none⟩ = some (.int .u64 s0) := hS.out.cell 0 (by simp)
  have cS1 : wa.cell? ⟨w.heap.size, 1, none⟩ = some (.int .u64 s1) := hS.out.cell 1 (by simp)
  have cS2 : wa.cell? ⟨w.heap.size, 2, none⟩ = some (.int .i64 s2) := hS.out.cell 2 (by simp)
  have cS3 : wa.cell? ⟨w.heap.size, 3, none⟩ = some (.int .i64 s3) := hS.out.cell 3 (by simp)
  have cS4 : wa.cell? ⟨w.heap.size, 4, none⟩ = some (.int .i64 s4) := hS.out.cell 4 (by simp)
  have cO0 : wa.cell? ⟨w.heap.size + 1, 0, none⟩ = some (.int .u64 o0) := hO.out.cell 0 (by simp)
  have cO1 : wa.cell? ⟨w.heap.size + 1, 1, none⟩ = some (.int .u64 o1) := hO.out.cell 1 (by simp)
  have cO2 : wa.cell? ⟨w.heap.size + 1, 2, none⟩ = some (.int .i64 o2) := hO.out.cell 2 (by simp)
  have cO3 : wa.cell? ⟨w.heap.size + 1, 3, none⟩ = some (.int .i64 o3) := hO.out.cell 3 (by simp)
  have cO4 : wa.cell? ⟨w.heap.size + 1, 4, none⟩ = some (.int .i64 o4) := hO.out.cell 4 (by simp)
  have hee : (s4 == o4) = false := beq_eq_false_iff_ne.2 h
  clear cS0 cS1 cS2 cS3 cO0 cO1 cO2 cO3
  go_wp2_with (go_at_call 100; refine (must_false _).mono ?_; rintro e w' ⟨rfl, rfl⟩)
  exact ⟨rfl, rfl, hb3.out⟩
end
section
open Go.RowKit
theorem ai_only {O : Nat → Prop} {w w' : World} {base : Nat} {e : TypeId} {v : Value} {n : Nat} {xs : List Value} (h : w.ownsRow base e 1 v n xs) (ho : Only O w w') (hv : ∀ g, v.ownBlock = some g → ¬ O g) : w'.ownsRow base e 1 v n xs := by
  refine ⟨h.1, ?_⟩
  rcases h.2 with hn | ⟨g, cap, cur, rfl, hb, hg, r⟩
  · exact .inl hn
  · exact .inr ⟨g, cap, cur, rfl, hb, (ho.same g (Array.getElem?_eq_some_iff.1 hg).1 (hv g rfl)).trans hg, r⟩
theorem ai_lt {w : World} {base : Nat} {e : TypeId} {v : Value} {n : Nat} {xs : List Value} (h : w.ownsRow base e 1 v n xs) {g : Nat} (hv : v.ownBlock = some g) : base ≤ g ∧ g < w.heap.size := by
  rcases h.2 with ⟨rfl, -⟩ | ⟨g', cap, cur, rfl, hb, hg, r⟩
  · cases hv
  · obtain rfl : g' = g := Option.some.inj hv
    exact ⟨hb, (Array.getElem?_eq_some_iff.1 hg).1⟩
def AI {α : Type} (ST ET : TypeId) (enc : α → Value) (B : Nat) (w : World) (O : Nat → Prop) (pre : List α) (W : World) : Prop :=
  ∃ v, W.heap[B]? = some (.cells #[v] ST) ∧ W.ownsRow B ET 1 v pre.length (pre.map enc) ∧ (∀ g, v.ownBlock = some g → ¬ O g) ∧ Below w.heap.size w W
section
variable {α : Type} {ST ET : TypeId} {enc : α → Value} {B : Nat} {w W W' : World} {O O' : Nat → Prop} {pre : List α}
theorem ai_stable (M : Nat) (hB : B < M) (hw : w.heap.size ≤ M) : Stable M (AI ST ET enc B w) := by
  rintro O O' s W W' ⟨v, h1, h2, h3, h4⟩ hO hon hO'
  have n1 : ¬ O B := fun h => by have := hO _ h; omega
  refine ⟨v, (hon.same _ (Array.getElem?_eq_some_iff.1 h1).1 n1).trans h1, ai_only h2 hon h3, fun g hg h => ?_, hon.below h4 h4.size (fun i h => by have := hO i h; omega)⟩
  rcases hO' g h with h | h
  · exact h3 g hg h
  · have := (ai_lt h2 hg).2; omega
theorem ai_next {Rd : Nat → Prop} {W2 W3 W5 : World} (hT : ET ≠ ST) (m : α) {v V5 : Value} (hRd : ∀ k, Rd k → k < B) (hwB : w.heap.size ≤ B) (o2 : W2.ownsRow B ET 1 v pre.length (pre.map enc)) (hb : Below W2.heap.size W2 W3) (b3 : Below w.heap.size w W3) (hwl : B < W2.heap.size) (hg5 : W3.grownBy W5 v.ownBlock)
    (c5 : W5.heap[B]? = some (.cells #[v] ST)) (o5 : W5.ownsRow B ET 1 V5 (pre.length + 1) (pre.map enc ++ [enc m])) (hvb : V5.ownBlock = v.ownBlock ∨ ∀ k, V5.ownBlock = some k → W3.heap.size ≤ k)
    (h3 : ∀ g, v.ownBlock = some g → ¬ O g) (hO : ∀ k, O k → B < k ∧ k < W2.heap.size) :
    AI ST ET enc B w O (pre ++ [m]) (W5.setCell ⟨B, 0, none⟩ V5) ∧ Keep (fun k => O k ∨ Rd k) W2 (W5.setCell ⟨B, 0, none⟩ V5) := by
  have cs := boxed_set (u := V5) c5
  have hon : Only (· = B) W5 (W5.setCell ⟨B, 0, none⟩ V5) := (Only.refl _ _).setCell _ _ rfl
  have hne := boxed_ne o5 c5 hT
  refine ⟨⟨V5, cs, ?_, ?_, ?_⟩, ?_⟩
  · rw [List.length_append, List.map_append]
    exact ai_only o5 hon fun g hg e => hne (by rw [hg, e])
  · intro g hg ho
    rcases hvb with e | e
    · exact h3 g (by rw [← e]; exact hg) ho
    · have := e g hg; have := (hO g ho).2; have := hb.size; omega
  · refine hon.below (b3.grown hg5 b3.size fun j hj => ?_) (Nat.le_trans b3.size hg5.size) (by rintro i rfl; omega)
    have := (ai_lt o2 hj).1
    omega
  · refine ⟨Nat.le_trans hb.size (Nat.le_trans hg5.size hon.size), fun k hk h => ?_⟩
    have hkw : k ≠ B := by
      rcases h with h | h
      · have := (hO k h).1; omega
      · have := hRd k h; omega
    rw [hon.same k (Nat.lt_of_lt_of_le hk (Nat.le_trans hb.size hg5.size)) hkw, hg5.block k (Nat.lt_of_lt_of_le hk hb.size) ?_, hb.block k hk]
    intro e
    rcases h with h | h
    · exact h3 k e.symm h
    · have := (ai_lt o2 e.symm).1; have := hRd k h; omega
end
end
end Go.Proofs.YtijkdabmegbcjaaGreatDoor
