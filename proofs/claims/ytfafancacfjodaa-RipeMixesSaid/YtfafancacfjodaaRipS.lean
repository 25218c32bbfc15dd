/- The walk of RipeMixes. -/
import Derived.Test.YtfafancacfjodaaRipQ
import Derived.Test.YtfafancacfjodaaOpen
namespace Go.Proofs.Ytfafancacfjodaa
open Go.RowKit

set_option maxRecDepth 100000 in
set_option maxHeartbeats 4000000 in
theorem ripeMixes_go (hs b : Nat → BitVec 32) (k : Nat) (hk : k < 80) (w : World) :
    Calls Try.prog 4 #[arrV .u32 (rowI 5 hs), arrV .u32 (rowI 16 b), .int .i64 k] w (Yes w) := by
  have hM1 := fun W => mix24_any hs b W
  have hM2 := fun W => refMix24_any hs b W
  have hTa := fun W => refTakes_any false k W hk
  have hTb := fun W => refTakes_any true k W hk
  have hta := fun W => takes_any false W
  have htb := fun W => takes_any true W
  unfold arrV at hM1 hM2 hta htb ⊢
  have g1 : ¬ ((k : Int) < 0) := by omega
  have g2 : ¬ ((k : Int) > 79) := by omega
  have g3 : (k : Int) < 80 := by omega
  have nh : (rowI 5 hs).length = 5 := rowI_len _ _
  have nb : (rowI 16 b).length = 16 := rowI_len _ _
  have nm : (rowI 5 (mixR hs b)).length = 5 := rowI_len _ _
  obtain ⟨TA, hTA⟩ : ∃ l, l = takeL false := ⟨_, rfl⟩
  obtain ⟨TB, hTB⟩ : ∃ l, l = takeL true := ⟨_, rfl⟩
  rw [← hTA] at hta
  rw [← hTB] at htb
  have nA : TA.length = 80 := by rw [hTA]; exact allL_len _ _
  have nB : TB.length = 80 := by rw [hTB]; exact allL_len _ _
  have gA : ∀ (h : k < TA.length), TA[k] = (takeN false k : Int) := fun h => by subst hTA; exact allL_get _ _ _ _
  have gB : ∀ (h : k < TB.length), TB[k] = (takeN true k : Int) := fun h => by subst hTB; exact allL_get _ _ _ _
  generalize takeN false k = va at hTa gA
  generalize takeN true k = vb at hTb gB
  generalize rowI 5 (mixR hs b) = lm at hM1 hM2 nm
  generalize rowI 5 hs = lh at hM1 hM2 nh ⊢
  generalize rowI 16 b = lb at hM1 hM2 nb ⊢
  have iA : (Try.prog.info? 31).map (·.size) = some TA.length := by rw [nA]; kernel_rfl
  have iB : (Try.prog.info? 31).map (·.size) = some TB.length := by rw [nB]; kernel_rfl
  have hzv := zero80
  have hzl : (List.replicate 80 (0 : Int)).length = 80 := List.length_replicate
  generalize List.replicate 80 (0 : Int) = Z at hzv hzl
  have hz := fun (W : World) => (Blk.new (q := .i64) W 31 Z).alloc (Obj.cells (Z.map (Value.int .i64)).toArray 31)
  have hzz : ∀ W : World, Blk .i64 ((W.alloc (Obj.cells (Z.map (Value.int .i64)).toArray 31)).alloc (Obj.cells (Z.map (Value.int .i64)).toArray 31)) (W.heap.size + 1) 31 Z := fun W => Blk.new' _ _ _ _ (by simp)
  have hl1 : Z.length = TA.length := by rw [hzl, nA]
  have hl2 : Z.length = TB.length := by rw [hzl, nB]
  have hH1 := (Blk.new (q := .u32) w 29 lh).alloc (Obj.cells (lb.map (Value.int .u32)).toArray 30)
  have hB1 : Blk .u32 ((w.alloc (Obj.cells (lh.map (Value.int .u32)).toArray 29)).alloc (Obj.cells (lb.map (Value.int .u32)).toArray 30)) (w.heap.size + 1) 30 lb := Blk.new' _ _ _ lb (by simp)
  replace hM1 := Lib.hid hM1
  replace hM2 := Lib.hid hM2
  replace hTa := Lib.hid hTa
  replace hTb := Lib.hid hTb
  replace hta := Lib.hid hta
  replace htb := Lib.hid htb
  replace hTA := Lib.hid hTA
  replace hTB := Lib.hid hTB
  replace nA := Lib.hid nA
  replace nB := Lib.hid nB
  replace gA := Lib.hid gA
  replace gB := Lib.hid gB
  replace nh := Lib.hid nh
  replace nb := Lib.hid nb
  replace nm := Lib.hid nm
  replace iA := Lib.hid iA
  replace iB := Lib.hid iB
  replace hz := Lib.hid hz
  replace hzz := Lib.hid hzz
  replace hl1 := Lib.hid hl1
  replace hl2 := Lib.hid hl2
  replace hH1 := Lib.hid hH1
  replace hB1 := Lib.hid hB1
  replace hzl := Lib.hid hzl
  go_enter Try.func4, Try.ntmps4
  go_wp2_with (first
    | (go_at_call 10; (with_reducible refine (hta.out _).mono ?_); rintro e w1 ⟨rfl, hb1⟩)
    | (go_at_call 10; refine (htb.out _).mono ?_; rintro e w2 ⟨rfl, hb2⟩)
    | (refine wpList_store_blk rfl 31 (.tmp 7) _ rfl w2.heap.size rfl .i64 31 Z TA (hz.out w2) rfl hl1.out.symm iA.out ?_; intro w3 h3 ho3; have hz3 := (hzz.out w2).only ho3 (by omega))
    | (refine wpList_store_blk rfl 31 (.tmp 8) _ rfl (w2.heap.size + 1) rfl .i64 31 Z TB hz3 rfl hl2.out.symm iB.out ?_; intro w4 h4 ho4))
  have h34 := h3.only ho4 (by omega)
  have s1 := hb1.size
  have s2 := hb2.size
  have s3 := ho3.size
  simp only [World.size_alloc] at s1 s3
  have hb02 := xalloc (xalloc (xtrans (xtrans (xalloc (xalloc (xrefl w) (Obj.cells (lh.map (Value.int .u32)).toArray 29)) (Obj.cells (lb.map (Value.int .u32)).toArray 30)) hb1) hb2) (Obj.cells (Z.map (Value.int .i64)).toArray 31)) (Obj.cells (Z.map (Value.int .i64)).toArray 31)
  have hb3 : Below w.heap.size w w3 := ho3.below hb02 hb02.size (by rintro i rfl; omega)
  have hb4 : Below w.heap.size w w4 := ho4.below hb3 hb3.size (by rintro i rfl; omega)
  have hH := Lib.hid ((((((hH1.out.below hb1).below hb2).alloc (Obj.cells (Z.map (Value.int .i64)).toArray 31)).alloc (Obj.cells (Z.map (Value.int .i64)).toArray 31)).only ho3 (by omega)).only ho4 (by omega))
  have hB := Lib.hid ((((((hB1.out.below hb1).below hb2).alloc (Obj.cells (Z.map (Value.int .i64)).toArray 31)).alloc (Obj.cells (Z.map (Value.int .i64)).toArray 31)).only ho3 (by omega)).only ho4 (by omega))
  have ca := h34.cell k (by rw [nA.out]; exact hk)
  have cb := h4.cell k (by rw [nB.out]; exact hk)
  rw [gA.out] at ca
  rw [gB.out] at cb
  obtain ⟨pa, hpa⟩ : ∃ p, p = w2.heap.size := ⟨_, rfl⟩
  rw [← hpa] at ca cb ⊢
  obtain ⟨pb, hpb⟩ : ∃ p, p = pa + 1 := ⟨_, rfl⟩
  rw [← hpb] at cb ⊢
  replace ca := Lib.hid ca
  replace cb := Lib.hid cb
  clear ho3 ho4 h3 h4 h34 hz3 hz hzz hH1 hB1 hb1 hb2 s1 s2 s3 hb02 hb3 hpa hpb hzv
  refine wp_region_growL 26 [fixd (.agg ((lh).map (Value.int .u32)).toArray), fixd (.agg ((lb).map (Value.int .u32)).toArray), fixd (.agg ((lm).map (Value.int .u32)).toArray), fixd (.agg ((lh).map (Value.int .u32)).toArray), fixd (.agg ((lb).map (Value.int .u32)).toArray), fixd (.agg ((lm).map (Value.int .u32)).toArray), fixd (.bool true), fixd (.bool true), fixd (.int .i64 k), fixd (.pointer (some ⟨pa, k, none⟩)), fixd (.int .i64 va), fixd (.int .i64 k), fixd (.int .i64 va), fixd (.bool true), fixd (.bool true), fixd (.bool true), fixd (.int .i64 k), fixd (.pointer (some ⟨pb, k, none⟩)), fixd (.int .i64 vb), fixd (.int .i64 k), fixd (.int .i64 vb), fixd (.bool true), fixd (.bool true), fixd (.bool true), fixd (.bool true), fixd (.bool true)] (by kernel_rfl) (by kernel_rfl) ?_
  simp only [List.take_succ_cons, List.take_zero, List.drop_succ_cons, List.drop_zero]
  try simp only [Act.put, List.setIfInBounds_toArray, List.set_cons_succ, List.set_cons_zero, List.nil_append, List.cons_append]
  refine wpGrowV_load_blk rfl 29 _ rfl w.heap.size rfl .u32 29 (lh) _ _ (hH.out) Try.underlying29 (by rw [nh.out]; kernel_rfl) rfl ?_
  try simp only [Act.put, List.setIfInBounds_toArray, List.set_cons_succ, List.set_cons_zero, List.nil_append, List.cons_append]
  refine wpGrowV_load_blk rfl 30 _ rfl (w.heap.size + 1) rfl .u32 30 (lb) _ _ (hB.out) Try.underlying30 (by rw [nb.out]; kernel_rfl) rfl ?_
  try simp only [Act.put, List.setIfInBounds_toArray, List.set_cons_succ, List.set_cons_zero, List.nil_append, List.cons_append]
  refine wpGrowV_fix (.agg ((lm).map (Value.int .u32)).toArray) rfl rfl (fun W hb _ => ?_) ?_
  · go_simp
    go_at_call 11
    refine (hM1.out W).mono ?_
    rintro e w' ⟨rfl, hb'⟩
    exact ⟨rfl, hb'⟩
  try simp only [Act.put, List.setIfInBounds_toArray, List.set_cons_succ, List.set_cons_zero, List.nil_append, List.cons_append]
  refine wpGrowV_load_blk rfl 29 _ rfl w.heap.size rfl .u32 29 (lh) _ _ (hH.out) Try.underlying29 (by rw [nh.out]; kernel_rfl) rfl ?_
  try simp only [Act.put, List.setIfInBounds_toArray, List.set_cons_succ, List.set_cons_zero, List.nil_append, List.cons_append]
  refine wpGrowV_load_blk rfl 30 _ rfl (w.heap.size + 1) rfl .u32 30 (lb) _ _ (hB.out) Try.underlying30 (by rw [nb.out]; kernel_rfl) rfl ?_
  try simp only [Act.put, List.setIfInBounds_toArray, List.set_cons_succ, List.set_cons_zero, List.nil_append, List.cons_append]
  refine wpGrowV_fix (.agg ((lm).map (Value.int .u32)).toArray) rfl rfl (fun W hb _ => ?_) ?_
  · go_simp
    go_at_call 12
    refine (hM2.out W).mono ?_
    rintro e w' ⟨rfl, hb'⟩
    exact ⟨rfl, hb'⟩
  try simp only [Act.put, List.setIfInBounds_toArray, List.set_cons_succ, List.set_cons_zero, List.nil_append, List.cons_append]
  refine wpGrowV_fix (.bool true) rfl rfl (fun W hb _ => ?_) ?_
  · rw [run_eql_at 29 _ (.tmp 20) (.tmp 23) rfl 28 5 .u32 .u32 lm lm rfl rfl Try.underlying29 Try.underlying28 (by kernel_rfl) (by kernel_rfl) (by kernel_rfl) nm.out nm.out, decide_eq_true rfl]
    exact ⟨rfl, xrefl W⟩
  try simp only [Act.put, List.setIfInBounds_toArray, List.set_cons_succ, List.set_cons_zero, List.nil_append, List.cons_append]
  refine wpGrowV_fix _ rfl rfl (fun W hb _ => by go_simp; first | exact xrefl W | exact ⟨rfl, xrefl W⟩) ?_
  try simp only [Act.put, List.setIfInBounds_toArray, List.set_cons_succ, List.set_cons_zero, List.nil_append, List.cons_append]
  refine wpGrowV_fix _ rfl rfl (fun W hb _ => by go_simp; first | exact xrefl W | exact ⟨rfl, xrefl W⟩) ?_
  try simp only [Act.put, List.setIfInBounds_toArray, List.set_cons_succ, List.set_cons_zero, List.nil_append, List.cons_append]
  refine wpGrowV_fix _ rfl rfl (fun W hb _ => by go_simp; first | exact xrefl W | exact ⟨rfl, xrefl W⟩) ?_
  try simp only [Act.put, List.setIfInBounds_toArray, List.set_cons_succ, List.set_cons_zero, List.nil_append, List.cons_append]
  refine wpGrowV_fix _ rfl rfl (fun W hb _ => by have c := cbel hb ca.out; go_simp; first | exact xrefl W | exact ⟨rfl, xrefl W⟩) ?_
  try simp only [Act.put, List.setIfInBounds_toArray, List.set_cons_succ, List.set_cons_zero, List.nil_append, List.cons_append]
  refine wpGrowV_fix _ rfl rfl (fun W hb _ => by go_simp; first | exact xrefl W | exact ⟨rfl, xrefl W⟩) ?_
  try simp only [Act.put, List.setIfInBounds_toArray, List.set_cons_succ, List.set_cons_zero, List.nil_append, List.cons_append]
  refine wpGrowV_fix (.int .i64 va) rfl rfl (fun W hb _ => ?_) ?_
  · go_simp
    go_at_call 13
    refine (hTa.out W).mono ?_
    rintro e w' ⟨rfl, hb'⟩
    exact ⟨rfl, hb'⟩
  try simp only [Act.put, List.setIfInBounds_toArray, List.set_cons_succ, List.set_cons_zero, List.nil_append, List.cons_append]
  refine wpGrowV_fix (.bool true) rfl rfl (fun W hb _ => by go_simp; first | exact xrefl W | exact ⟨rfl, xrefl W⟩) ?_
  try simp only [Act.put, List.setIfInBounds_toArray, List.set_cons_succ, List.set_cons_zero, List.nil_append, List.cons_append]
  refine wpGrowV_fix _ rfl rfl (fun W hb _ => by go_simp; first | exact xrefl W | exact ⟨rfl, xrefl W⟩) ?_
  try simp only [Act.put, List.setIfInBounds_toArray, List.set_cons_succ, List.set_cons_zero, List.nil_append, List.cons_append]
  refine wpGrowV_fix _ rfl rfl (fun W hb _ => by go_simp; first | exact xrefl W | exact ⟨rfl, xrefl W⟩) ?_
  try simp only [Act.put, List.setIfInBounds_toArray, List.set_cons_succ, List.set_cons_zero, List.nil_append, List.cons_append]
  refine wpGrowV_fix _ rfl rfl (fun W hb _ => by go_simp; first | exact xrefl W | exact ⟨rfl, xrefl W⟩) ?_
  try simp only [Act.put, List.setIfInBounds_toArray, List.set_cons_succ, List.set_cons_zero, List.nil_append, List.cons_append]
  refine wpGrowV_fix _ rfl rfl (fun W hb _ => by go_simp; first | exact xrefl W | exact ⟨rfl, xrefl W⟩) ?_
  try simp only [Act.put, List.setIfInBounds_toArray, List.set_cons_succ, List.set_cons_zero, List.nil_append, List.cons_append]
  refine wpGrowV_fix _ rfl rfl (fun W hb _ => by have c := cbel hb cb.out; go_simp; first | exact xrefl W | exact ⟨rfl, xrefl W⟩) ?_
  try simp only [Act.put, List.setIfInBounds_toArray, List.set_cons_succ, List.set_cons_zero, List.nil_append, List.cons_append]
  refine wpGrowV_fix _ rfl rfl (fun W hb _ => by go_simp; first | exact xrefl W | exact ⟨rfl, xrefl W⟩) ?_
  try simp only [Act.put, List.setIfInBounds_toArray, List.set_cons_succ, List.set_cons_zero, List.nil_append, List.cons_append]
  refine wpGrowV_fix (.int .i64 vb) rfl rfl (fun W hb _ => ?_) ?_
  · go_simp
    go_at_call 13
    refine (hTb.out W).mono ?_
    rintro e w' ⟨rfl, hb'⟩
    exact ⟨rfl, hb'⟩
  try simp only [Act.put, List.setIfInBounds_toArray, List.set_cons_succ, List.set_cons_zero, List.nil_append, List.cons_append]
  refine wpGrowV_fix (.bool true) rfl rfl (fun W hb _ => by go_simp; first | exact xrefl W | exact ⟨rfl, xrefl W⟩) ?_
  try simp only [Act.put, List.setIfInBounds_toArray, List.set_cons_succ, List.set_cons_zero, List.nil_append, List.cons_append]
  refine wpGrowV_fix _ rfl rfl (fun W hb _ => by go_simp; first | exact xrefl W | exact ⟨rfl, xrefl W⟩) ?_
  try simp only [Act.put, List.setIfInBounds_toArray, List.set_cons_succ, List.set_cons_zero, List.nil_append, List.cons_append]
  refine wpGrowV_fix _ rfl rfl (fun W hb _ => by go_simp; first | exact xrefl W | exact ⟨rfl, xrefl W⟩) ?_
  try simp only [Act.put, List.setIfInBounds_toArray, List.set_cons_succ, List.set_cons_zero, List.nil_append, List.cons_append]
  refine wpGrowV_fix (.bool true) rfl rfl (fun W hb _ => ?_) ?_
  · go_simp
    go_at_call 7
    refine (works_any W).mono ?_
    rintro e w' ⟨rfl, hb'⟩
    exact ⟨rfl, hb'⟩
  try simp only [Act.put, List.setIfInBounds_toArray, List.set_cons_succ, List.set_cons_zero, List.nil_append, List.cons_append]
  refine wpGrowV_fix _ rfl rfl (fun W hb _ => by go_simp; first | exact xrefl W | exact ⟨rfl, xrefl W⟩) ?_
  try simp only [Act.put, List.setIfInBounds_toArray, List.set_cons_succ, List.set_cons_zero, List.nil_append, List.cons_append]
  refine wpGrowV_nil fun W hbW _ => ?_
  go_wp2
  go_ret
  exact ⟨rfl, xtrans hb4 hbW⟩

set_option maxRecDepth 100000 in
theorem ripeMixes_walk (xs ys : List Int) (x : Int) (w : World) (hxl : xs.length = 5) (hxw : ∀ z ∈ xs, (Lit.int .u32 z).wf = true) (hyl : ys.length = 16) (hyw : ∀ z ∈ ys, (Lit.int .u32 z).wf = true) (hx : -9223372036854775808 ≤ x ∧ x ≤ 9223372036854775807) :
    Calls Try.prog 4 #[.agg (xs.map (Value.int .u32)).toArray, .agg (ys.map (Value.int .u32)).toArray, .int .i64 x] w (Yes w) := by
  by_cases h : x < 0 ∨ x > 79
  · clear hxw hyw
    replace hxl := Lib.hid hxl
    replace hyl := Lib.hid hyl
    by_cases h1 : x < 0
    · clear h
      go_enter Try.func4, Try.ntmps4
      go_wp2_with (go_at_call 7; refine (works_any _).mono ?_; rintro e w3 ⟨rfl, b3⟩)
      go_ret
      exact ⟨rfl, xtrans (xalloc (xalloc (xrefl w) _) _) b3⟩
    · have h2 : x > 79 := by omega
      clear h
      go_enter Try.func4, Try.ntmps4
      go_wp2_with (go_at_call 7; refine (works_any _).mono ?_; rintro e w3 ⟨rfl, b3⟩)
      go_ret
      exact ⟨rfl, xtrans (xalloc (xalloc (xrefl w) _) _) b3⟩
  · obtain ⟨k, rfl⟩ := Int.eq_ofNat_of_zero_le (show 0 ≤ x by omega)
    obtain ⟨f, hf⟩ := row_of xs hxw
    obtain ⟨g, hg⟩ := row_of ys hyw
    rw [hf, hg, hxl, hyl]
    exact ripeMixes_go f g k (by omega) w
end Go.Proofs.Ytfafancacfjodaa
