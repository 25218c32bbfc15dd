/- The walk of ShaMixes. -/
import Derived.Test.YtfieagpidplmoaaShaP
import Derived.Test.YtfieagpidplmoaaIdx
import Derived.Test.YtfieagpidplmoaaOpen
namespace Go.Proofs.Ytfieagpidplmoaa
open Go.RowKit

theorem run_eql_at {P : Program} {o : Oper} {ac : Act} {w : World} (T r : TypeId) (x y : Operand) (ho : o.op = .binOp .eql T x y r) (e : TypeId) (n : Nat) (q q' : IntKind) (l l' : List Int) (hx : ac.eval x = .agg (l.map (Value.int q)).toArray) (hy : ac.eval y = .agg (l'.map (Value.int q)).toArray)
    (hT : P.underlying T = some (.array n e)) (he : P.underlying e = some (.int q')) (hs : (P.info? e).isSome = true) (hc : P.cellsOf e = 1) (hm : P.eqGuardType P.depth T = false) (hn : l.length = n) (hn' : l'.length = n) : (execOp ac.eval o).run P w = .ok (.value (.bool (decide (l = l')))) w := by
  unfold execOp
  simp only [ho, hx, hy, Sem.run_bind, Sem.run_pure, Result.andThen_ok, run_eqGuard_agg (hm := hm), run_eql_ints T e n q q' l l' w hT he hs hc hn hn']
theorem row_of (zs : List Int) (h : ∀ z ∈ zs, (Lit.int .u32 z).wf = true) : ∃ f : Nat → BitVec 32, zs = rowI zs.length f := by
  refine ⟨fun i => BitVec.ofNat 32 (zs.getD i 0).toNat, List.ext_getElem (by rw [rowI_len]) fun i h1 h2 => ?_⟩
  rw [rowI_get]
  have := h zs[i] (List.getElem_mem h1)
  simp [Lit.wf, IntKind.min, IntKind.max, IntKind.signed, IntKind.bits] at this
  have e : zs.getD i 0 = zs[i] := by simp [List.getD_eq_getElem?_getD, h1]
  simp only [e, iv32, BitVec.toNat_ofNat]
  omega

set_option maxRecDepth 100000 in
set_option maxHeartbeats 4000000 in
theorem shaMixes_go (hs b : Nat → BitVec 32) (k : Nat) (hk : k < 64) (w : World) :
    Calls Try.prog 4 #[arrV .u32 (rowI 8 hs), arrV .u32 (rowI 16 b), .int .i64 k] w (Yes w) := by
  have hM1 := fun W => mix_any hs b W
  have hM2 := fun W => refMix_any hs b numB W
  have hN := fun W => numbers_any W
  have hNr := refNumbers_any
  have hNk := fun W => refNumber_any k W hk
  unfold arrV at hM1 hM2 hN hNr ⊢
  rw [← numB_iv k hk] at hNk
  rw [nums_row] at hNr
  have g1 : ¬ ((k : Int) < 0) := by omega
  have g2 : ¬ ((k : Int) > 63) := by omega
  have hlkk : ∀ h : k < (rowI 64 numB).length, (rowI 64 numB)[k]'h = iv32 (numB k) := fun h => rowI_get _ _ _ h
  have nh : (rowI 8 hs).length = 8 := rowI_len _ _
  have nb : (rowI 16 b).length = 16 := rowI_len _ _
  have nk : (rowI 64 numB).length = 64 := rowI_len _ _
  have nm : (rowI 8 (mixF hs b numB)).length = 8 := rowI_len _ _
  have g3 : (k : Int) < 64 := by omega
  have hk3 : k < (rowI 64 numB).length := by rw [nk]; exact hk
  generalize rowI 8 (mixF hs b numB) = lm at hM1 hM2 nm
  generalize rowI 8 hs = lh at hM1 hM2 nh ⊢
  generalize rowI 16 b = lb at hM1 hM2 nb ⊢
  generalize rowI 64 numB = lk at hN hNr hM2 nk hlkk hk3
  generalize numB k = nv at hNk hlkk
  replace hM1 := Lib.hid hM1
  replace hM2 := Lib.hid hM2
  replace hN := Lib.hid hN
  replace hNr := Lib.hid hNr
  replace hNk := Lib.hid hNk
  replace hlkk := Lib.hid hlkk
  replace nh := Lib.hid nh
  replace nb := Lib.hid nb
  replace nk := Lib.hid nk
  replace nm := Lib.hid nm
  replace hk3 := Lib.hid hk3
  have hz := fun (W : World) => Blk.new (q := .u32) W 31 (List.replicate 64 0)
  replace hz := Lib.hid hz
  have hH1 := (Blk.new (q := .u32) w 29 lh).alloc (Obj.cells (lb.map (Value.int .u32)).toArray 30)
  have hB1 : Blk .u32 ((w.alloc (Obj.cells (lh.map (Value.int .u32)).toArray 29)).alloc (Obj.cells (lb.map (Value.int .u32)).toArray 30)) (w.heap.size + 1) 30 lb := Blk.new' _ _ _ lb (by simp)
  replace hH1 := Lib.hid hH1
  replace hB1 := Lib.hid hB1
  go_enter Try.func4, Try.ntmps4
  go_wp2_with (first
    | (go_at_call 10; refine (hNr.out _).mono ?_; rintro e w1 ⟨rfl, hb1⟩)
    | (refine wpList_store_blk rfl 31 _ _ rfl w1.heap.size rfl .u32 31 (List.replicate 64 0) lk (hz.out w1) rfl (by rw [nk.out, List.length_replicate]) (by rw [nk.out]; kernel_rfl) ?_; intro w2 hK ho2))
  have s1 := hb1.size
  simp only [World.size_alloc] at s1
  have hb2 : Below w.heap.size w w2 := ho2.below (xalloc (xtrans (xalloc (xalloc (xrefl w) _) _) hb1) _) (by rw [World.size_alloc]; omega) (by rintro i rfl; omega)
  have hH := Lib.hid (((hH1.out.below hb1).alloc (Obj.cells ((List.replicate 64 0).map (Value.int .u32)).toArray 31)).only ho2 (by intro e; omega))
  have hB := Lib.hid (((hB1.out.below hb1).alloc (Obj.cells ((List.replicate 64 0).map (Value.int .u32)).toArray 31)).only ho2 (by intro e; omega))
  obtain ⟨kb, hkb⟩ : ∃ kb, kb = w1.heap.size := ⟨_, rfl⟩
  rw [← hkb] at hK ⊢
  have hck := hK.cell k hk3.out
  rw [hlkk.out] at hck
  replace hK := Lib.hid hK
  replace hck := Lib.hid hck
  clear ho2 hz hH1 hB1 hb1 s1 hkb
  refine wp_region_growL 24 [fixd (.agg ((lh).map (Value.int .u32)).toArray), fixd (.agg ((lb).map (Value.int .u32)).toArray), fixd (.agg ((lm).map (Value.int .u32)).toArray), fixd (.agg ((lh).map (Value.int .u32)).toArray), fixd (.agg ((lb).map (Value.int .u32)).toArray), fixd (.agg ((lk).map (Value.int .u32)).toArray), fixd (.agg ((lm).map (Value.int .u32)).toArray), fixd (.bool true), fixd (.bool true), fixd (.agg ((lk).map (Value.int .u32)).toArray), fixd (.agg ((lk).map (Value.int .u32)).toArray), fixd (.bool true), fixd (.bool true), fixd (.bool true), fixd (.int .i64 k), fixd (.pointer (some ⟨kb, k, none⟩)), fixd (.int .u32 (iv32 (nv))), fixd (.int .i64 k), fixd (.int .u32 (iv32 (nv))), fixd (.bool true), fixd (.bool true), fixd (.bool true), fixd (.bool true), fixd (.bool true)] (by kernel_rfl) (by kernel_rfl) ?_
  simp only [List.take_succ_cons, List.take_zero, List.drop_succ_cons, List.drop_zero]
  try simp only [Act.put, List.setIfInBounds_toArray, List.set_cons_succ, List.set_cons_zero, List.nil_append, List.cons_append]
  refine wpGrowV_load_blk rfl 29 _ rfl w.heap.size rfl .u32 29 (lh) _ _ (hH.out) Try.underlying29 (by rw [nh.out]; kernel_rfl) rfl ?_
  try simp only [Act.put, List.setIfInBounds_toArray, List.set_cons_succ, List.set_cons_zero, List.nil_append, List.cons_append]
  refine wpGrowV_load_blk rfl 30 _ rfl (w.heap.size + 1) rfl .u32 30 (lb) _ _ (hB.out) Try.underlying30 (by rw [nb.out]; kernel_rfl) rfl ?_
  try simp only [Act.put, List.setIfInBounds_toArray, List.set_cons_succ, List.set_cons_zero, List.nil_append, List.cons_append]
  refine wpGrowV_fix (.agg ((lm).map (Value.int .u32)).toArray) rfl rfl (fun W hb _ => ?_) ?_
  · go_simp
    go_at_call 11
    refine (hM1.out W).mono ?_
    rintro e w' ⟨rfl, hb'⟩
    exact ⟨rfl, hb'⟩
  try simp only [Act.put, List.setIfInBounds_toArray, List.set_cons_succ, List.set_cons_zero, List.nil_append, List.cons_append]
  refine wpGrowV_load_blk rfl 29 _ rfl w.heap.size rfl .u32 29 (lh) _ _ (hH.out) Try.underlying29 (by rw [nh.out]; kernel_rfl) rfl ?_
  try simp only [Act.put, List.setIfInBounds_toArray, List.set_cons_succ, List.set_cons_zero, List.nil_append, List.cons_append]
  refine wpGrowV_load_blk rfl 30 _ rfl (w.heap.size + 1) rfl .u32 30 (lb) _ _ (hB.out) Try.underlying30 (by rw [nb.out]; kernel_rfl) rfl ?_
  try simp only [Act.put, List.setIfInBounds_toArray, List.set_cons_succ, List.set_cons_zero, List.nil_append, List.cons_append]
  refine wpGrowV_load_blk rfl 31 _ rfl kb rfl .u32 31 (lk) _ _ (hK.out) Try.underlying31 (by rw [nk.out]; kernel_rfl) rfl ?_
  try simp only [Act.put, List.setIfInBounds_toArray, List.set_cons_succ, List.set_cons_zero, List.nil_append, List.cons_append]
  refine wpGrowV_fix (.agg ((lm).map (Value.int .u32)).toArray) rfl rfl (fun W hb _ => ?_) ?_
  · go_simp
    go_at_call 12
    refine (hM2.out W).mono ?_
    rintro e w' ⟨rfl, hb'⟩
    exact ⟨rfl, hb'⟩
  try simp only [Act.put, List.setIfInBounds_toArray, List.set_cons_succ, List.set_cons_zero, List.nil_append, List.cons_append]
  refine wpGrowV_fix (.bool true) rfl rfl (fun W hb _ => ?_) ?_
  · rw [run_eql_at 29 _ (.tmp 18) (.tmp 22) rfl 28 8 .u32 .u32 lm lm rfl rfl Try.underlying29 Try.underlying28 (by kernel_rfl) (by kernel_rfl) (by kernel_rfl) nm.out nm.out, decide_eq_true rfl]
    exact ⟨rfl, xrefl W⟩
  try simp only [Act.put, List.setIfInBounds_toArray, List.set_cons_succ, List.set_cons_zero, List.nil_append, List.cons_append]
  refine wpGrowV_fix _ rfl rfl (fun W hb _ => by go_simp; first | exact xrefl W | exact ⟨rfl, xrefl W⟩) ?_
  try simp only [Act.put, List.setIfInBounds_toArray, List.set_cons_succ, List.set_cons_zero, List.nil_append, List.cons_append]
  refine wpGrowV_fix (.agg ((lk).map (Value.int .u32)).toArray) rfl rfl (fun W hb _ => ?_) ?_
  · go_simp
    go_at_call 13
    refine (hN.out W).mono ?_
    rintro e w' ⟨rfl, hb'⟩
    exact ⟨rfl, hb'⟩
  try simp only [Act.put, List.setIfInBounds_toArray, List.set_cons_succ, List.set_cons_zero, List.nil_append, List.cons_append]
  refine wpGrowV_fix (.agg ((lk).map (Value.int .u32)).toArray) rfl rfl (fun W hb _ => ?_) ?_
  · rw [run_load_blk 31 (.tmp 7) rfl kb rfl .u32 31 lk _ _ (hK.out.below hb) Try.underlying31 (by rw [nk.out]; kernel_rfl)]
    exact ⟨rfl, xrefl W⟩
  try simp only [Act.put, List.setIfInBounds_toArray, List.set_cons_succ, List.set_cons_zero, List.nil_append, List.cons_append]
  refine wpGrowV_fix (.bool true) rfl rfl (fun W hb _ => ?_) ?_
  · rw [run_eql_at 31 _ (.tmp 25) (.tmp 26) rfl 28 64 .u32 .u32 lk lk rfl rfl Try.underlying31 Try.underlying28 (by kernel_rfl) (by kernel_rfl) (by kernel_rfl) nk.out nk.out, decide_eq_true rfl]
    exact ⟨rfl, xrefl W⟩
  try simp only [Act.put, List.setIfInBounds_toArray, List.set_cons_succ, List.set_cons_zero, List.nil_append, List.cons_append]
  refine wpGrowV_fix _ rfl rfl (fun W hb _ => by go_simp; first | exact xrefl W | exact ⟨rfl, xrefl W⟩) ?_
  try simp only [Act.put, List.setIfInBounds_toArray, List.set_cons_succ, List.set_cons_zero, List.nil_append, List.cons_append]
  refine wpGrowV_fix _ rfl rfl (fun W hb _ => by go_simp; first | exact xrefl W | exact ⟨rfl, xrefl W⟩) ?_
  try simp only [Act.put, List.setIfInBounds_toArray, List.set_cons_succ, List.set_cons_zero, List.nil_append, List.cons_append]
  refine wpGrowV_fix _ rfl rfl (fun W hb _ => by go_simp; first | exact xrefl W | exact ⟨rfl, xrefl W⟩) ?_
  try simp only [Act.put, List.setIfInBounds_toArray, List.set_cons_succ, List.set_cons_zero, List.nil_append, List.cons_append]
  refine wpGrowV_fix _ rfl rfl (fun W hb _ => by go_simp; first | exact xrefl W | exact ⟨rfl, xrefl W⟩) ?_
  try simp only [Act.put, List.setIfInBounds_toArray, List.set_cons_succ, List.set_cons_zero, List.nil_append, List.cons_append]
  refine wpGrowV_fix _ rfl rfl (fun W hb _ => by have c := cbel hb hck.out; go_simp; first | exact xrefl W | exact ⟨rfl, xrefl W⟩) ?_
  try simp only [Act.put, List.setIfInBounds_toArray, List.set_cons_succ, List.set_cons_zero, List.nil_append, List.cons_append]
  refine wpGrowV_fix _ rfl rfl (fun W hb _ => by go_simp; first | exact xrefl W | exact ⟨rfl, xrefl W⟩) ?_
  try simp only [Act.put, List.setIfInBounds_toArray, List.set_cons_succ, List.set_cons_zero, List.nil_append, List.cons_append]
  refine wpGrowV_fix (.int .u32 (iv32 (nv))) rfl rfl (fun W hb _ => ?_) ?_
  · go_simp
    go_at_call 14
    refine (hNk.out W).mono ?_
    rintro e w' ⟨rfl, hb'⟩
    exact ⟨rfl, hb'⟩
  try simp only [Act.put, List.setIfInBounds_toArray, List.set_cons_succ, List.set_cons_zero, List.nil_append, List.cons_append]
  refine wpGrowV_fix (.bool true) rfl rfl (fun W hb _ => by go_simp; first | exact xrefl W | exact ⟨rfl, xrefl W⟩) ?_
  try simp only [Act.put, List.setIfInBounds_toArray, List.set_cons_succ, List.set_cons_zero, List.nil_append, List.cons_append]
  refine wpGrowV_fix _ rfl rfl (fun W hb _ => by go_simp; first | exact xrefl W | exact ⟨rfl, xrefl W⟩) ?_
  try simp only [Act.put, List.setIfInBounds_toArray, List.set_cons_succ, List.set_cons_zero, List.nil_append, List.cons_append]
  refine wpGrowV_fix _ rfl rfl (fun W hb _ => by go_simp; first | exact xrefl W | exact ⟨rfl, xrefl W⟩) ?_
  try simp only [Act.put, List.setIfInBounds_toArray, List.set_cons_succ, List.set_cons_zero, List.nil_append, List.cons_append]
  refine wpGrowV_fix (.bool true) rfl rfl (fun W hb _ => ?_) ?_
  · go_simp
    go_at_call 7
    refine (works_any W).mono ?_
    rintro e w' ⟨rfl, hb'⟩
    exact ⟨rfl, hb'⟩
  try simp only [Act.put, List.setIfInBounds_toArray, List.set_cons_succ, List.set_cons_zero, List.nil_append, List.cons_append]
  refine wpGrowV_fix _ rfl rfl (fun W hb _ => by go_simp; first | exact xrefl W | exact ⟨rfl, xrefl W⟩) ?_
  try simp only [Act.put, List.setIfInBounds_toArray, List.set_cons_succ, List.set_cons_zero, List.nil_append, List.cons_append]
  refine wpGrowV_nil fun W hbW _ => ?_
  go_wp2
  go_ret
  exact ⟨rfl, xtrans hb2 hbW⟩

set_option maxRecDepth 100000 in
theorem shaMixes_walk (xs ys : List Int) (x : Int) (w : World) (hxl : xs.length = 8) (hxw : ∀ z ∈ xs, (Lit.int .u32 z).wf = true) (hyl : ys.length = 16) (hyw : ∀ z ∈ ys, (Lit.int .u32 z).wf = true) (hx : -9223372036854775808 ≤ x ∧ x ≤ 9223372036854775807) :
    Calls Try.prog 4 #[.agg (xs.map (Value.int .u32)).toArray, .agg (ys.map (Value.int .u32)).toArray, .int .i64 x] w (Yes w) := by
  by_cases h : x < 0 ∨ x > 63
  · clear hxw hyw
    replace hxl := Lib.hid hxl
    replace hyl := Lib.hid hyl
    by_cases h1 : x < 0
    · clear h
      go_enter Try.func4, Try.ntmps4
      go_wp2_with (go_at_call 7; refine (works_any _).mono ?_; rintro e w3 ⟨rfl, b3⟩)
      go_ret
      exact ⟨rfl, xtrans (xalloc (xalloc (xrefl w) _) _) b3⟩
    · have h2 : x > 63 := by omega
      clear h
      go_enter Try.func4, Try.ntmps4
      go_wp2_with (go_at_call 7; refine (works_any _).mono ?_; rintro e w3 ⟨rfl, b3⟩)
      go_ret
      exact ⟨rfl, xtrans (xalloc (xalloc (xrefl w) _) _) b3⟩
  · obtain ⟨k, rfl⟩ := Int.eq_ofNat_of_zero_le (show 0 ≤ x by omega)
    obtain ⟨f, hf⟩ := row_of xs hxw
    obtain ⟨g, hg⟩ := row_of ys hyw
    rw [hf, hg, hxl, hyl]
    exact shaMixes_go f g k (by omega) w
end Go.Proofs.Ytfieagpidplmoaa
