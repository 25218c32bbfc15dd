/- The walk of RipeBlocks. -/
import Derived.Test.YtfafancacfjodaaRipBox
import Derived.Test.YtfafancacfjodaaCutR
namespace Go.Proofs.Ytfafancacfjodaa
open Go.RowKit Go.Shelf
attribute [local go_sem] Oper.semAt_some

set_option maxRecDepth 100000 in
set_option maxHeartbeats 8000000 in
theorem ripeBlocks_go (bs : List (BitVec 8)) (a : Option Addr) (c : Nat) (x : Int) (w : World) (hl : bs.length ≤ 300) (hr : RowAt .u8 w a (bs.map iv8)) (ha : a = none → c = 0) (hx1 : -9223372036854775808 ≤ x) (hx2 : x ≤ 9223372036854775807) :
    Calls Try.prog 5 #[.slice a bs.length c, .int .i64 x] w (Yes w) := by
  have hlb : ¬ ((bs.length : Int) > 300) := by omega
  have hlm : bs.length < 1000000 := by omega
  have hpm := padL_mod bs
  have hpl := padL_len bs
  have hpn := padN_lt bs.length
  obtain ⟨nb, hnb⟩ : ∃ nb, (padL bs).length = 64 * nb := ⟨(padL bs).length / 64, by omega⟩
  have hnb2 : ((padL bs).length : Int) / 64 = (nb : Int) := by omega
  have hnbl : nb < 1000 := by omega
  have hnb0 : 0 < nb := by omega
  have hP0 := fun W h => refPadded24_any bs a c W h ha hlm
  have hB0 := fun W h => blocks_any bs a c W h ha hlm
  clear hpm hpl hpn
  generalize padL bs = pd at hnb hnb2 hP0 hB0
  have hpd4 : pd.length < 4000000 := by omega
  have hr1 := hr.below (xalloc (xalloc (xrefl w) (Obj.cells #[Value.int .i64 x] 3)) (Obj.cells #[Value.bool false] 4))
  have hbw0 : Below w.heap.size w ((w.alloc (Obj.cells #[Value.int .i64 x] 3)).alloc (Obj.cells #[Value.bool false] 4)) := xalloc (xalloc (xrefl w) _) _
  have bm1 : Box ((w.alloc (Obj.cells #[Value.int .i64 x] 3)).alloc (Obj.cells #[Value.bool false] 4)) w.heap.size (.int .i64 x) 3 := (Box.new w _ _).below (xalloc (xrefl _) _)
  have br1 : Box ((w.alloc (Obj.cells #[Value.int .i64 x] 3)).alloc (Obj.cells #[Value.bool false] 4)) (w.heap.size + 1) (.bool false) 4 := by have := Box.new (w.alloc (Obj.cells #[Value.int .i64 x] 3)) (.bool false) 4; rwa [World.size_alloc] at this
  replace hr1 := Lib.hid hr1
  replace bm1 := Lib.hid bm1
  replace br1 := Lib.hid br1
  replace hP0 := Lib.hid hP0
  replace hB0 := Lib.hid hB0
  replace hnb := Lib.hid hnb
  clear hr
  replace ha := Lib.hid ha
  refine (callsIn_wide (n := 0)).1 ?_
  refine callsIn_of_wp_marks Try.func5 rfl trivial ?_ rfl
  simp only [Try.ntmps5, List.size_toArray, List.length_cons, List.length_nil, Nat.reduceAdd, Nat.reduceSub, Array.replicate_succ, Array.replicate_zero, List.push_toArray, List.append_toArray, List.nil_append, List.cons_append]
  refine wpIn_wide.2 ?_
  go_upto_region 8 with (first
    | (go_at_call 14; refine (hP0.out _ hr1.out).mono ?_; rintro e w1 ⟨v, rfl, hown, hb1⟩; obtain ⟨pa, pc, rfl, hP, hPn, hge1, -⟩ := rowAt_own hown; rw [List.length_map])
    | (go_at_call 15; refine (hB0.out _ (hr1.out.below (xalloc (xalloc hb1 _) _))).mono ?_; rintro e w4 ⟨bx, qa, qc, rfl, hc4, hr4, hge4, hbx4, hqc, hqc2, hb4⟩; have hnil := fun W => run_eql_fn_nil (P := Try.prog) 38 (by kernel_rfl) (.func 31) #[] #[.pointer (some ⟨bx, 0, none⟩)] W))
  obtain ⟨pb, po, rfl, -⟩ := hP 0 (by rw [List.length_map, hnb.out]; omega)
  obtain ⟨qb, qo, rfl, -⟩ := hr4 0 (by rw [List.length_map, hnb.out]; omega)
  have hge := hge4 _ rfl
  have hge2 := hge1 _ rfl
  have hbxl : bx < w4.heap.size := cell_lt hc4
  have g1 := hb1.size
  have g4 := hb4.size
  simp only [World.size_alloc] at g1 g4 hbx4 hge hge2
  obtain ⟨p5, h5⟩ : ∃ p5, p5 = w1.heap.size := ⟨_, rfl⟩
  have hpb : pb < p5 := by
    have : RowAt .u8 w1 (some ⟨pb, po, none⟩) (pd.map iv8) := hP
    obtain ⟨b', o', e1, e2⟩ := this 0 (by rw [List.length_map, hnb.out]; omega)
    cases e1
    have h7 : pb < w1.heap.size := cell_lt e2
    omega
  have hqb : qb < w4.heap.size := by
    obtain ⟨b', o', e1, e2⟩ := hr4 0 (by rw [List.length_map, hnb.out]; omega)
    cases e1
    exact cell_lt e2
  have hx := xalloc (xalloc (xrefl w1) (Obj.cells #[Value.slice (some ⟨pb, po, none⟩) pd.length pc] 22)) (Obj.cells #[Value.int .i64 nb] 3)
  have hx4 : Below w1.heap.size w1 w4 := xtrans hx hb4
  have bm4 := (bm1.out.below hb1).below hx4
  have br4 := (br1.out.below hb1).below hx4
  have bp4 : Box w4 p5 (.slice (some ⟨pb, po, none⟩) pd.length pc) 22 := by rw [h5]; exact ((Box.new w1 _ _).below (xalloc (xrefl _) _)).below hb4
  have ba4 : Box w4 (p5 + 1) (.int .i64 nb) 3 := by
    have := (Box.new (w1.alloc (Obj.cells #[Value.slice (some ⟨pb, po, none⟩) pd.length pc] 22)) (.int .i64 nb) 3).below hb4
    rw [World.size_alloc, ← h5] at this
    exact this
  have hp4 := hP.below hx4
  have hb4' := xtrans (xtrans hbw0 hb1) hx4
  have g15 : w.heap.size + 1 + 1 ≤ p5 := by omega
  rw [← h5] at g4 hge hbx4 ⊢
  clear h5 g1
  clear hown hP hb1 hx hx4 hbw0 bm1 br1 hr1 hge4 hge1 hb4 hP0 hB0
  replace hr4 := Lib.hid hr4
  replace hqc := Lib.hid hqc
  have hk8 : w4.heap.size = w4.heap.size := rfl
  go_wp2
  obtain ⟨w5, hw5⟩ : ∃ w5, w4.alloc (Obj.cells #[Value.int .i64 0] 3) = w5 := ⟨_, rfl⟩
  have bt5 : Box w5 w4.heap.size (.int .i64 0) 3 := by rw [← hw5]; exact Box.new w4 _ _
  have h45 : Below w4.heap.size w4 w5 := by rw [← hw5]; exact xalloc (xrefl w4) _
  have hS : BF w w.heap.size p5 (p5 + 1) w4.heap.size w4.heap.size x nb 0 (.slice (some ⟨pb, po, none⟩) pd.length pc) pb po (pd.map iv8) [] 0 w5 :=
    ⟨bm4.below h45, br4.below h45, bp4.below h45, ba4.below h45, bt5, bt5, hp4.below h45, fun D h => (by cases h), xtrans hb4' h45⟩
  have hc5 := cbel h45 hc4
  have hr5 := hr4.out.below h45
  have s5' : w5.heap.size = w4.heap.size + 1 := by rw [← hw5]; simp
  rw [hw5]
  obtain ⟨k8, hk8⟩ : ∃ k8, k8 = w4.heap.size := ⟨_, rfl⟩
  rw [← hk8] at hS hqb hbxl g4 ⊢
  have s5 : k8 < w5.heap.size := by omega
  clear hw5 bt5 h45 bm4 br4 bp4 ba4 hp4 hb4' hr4 hc4 hk8 s5'
  replace hr5 := Lib.hid hr5
  refine wp_loop_rounds 3 ?_
  rw [rounds_succ]
  have ct := hS.bt.cell
  replace hS := Lib.hid hS
  go_wp2
  have hF := hS.out.newn
  have hB9 := xalloc (xrefl w5) (Obj.cells #[Value.int .i64 0] 3)
  have hs9 : w5.heap.size < (w5.alloc (Obj.cells #[Value.int .i64 0] 3)).heap.size := by rw [World.size_alloc]; omega
  obtain ⟨v, hv⟩ : ∃ v, w5.alloc (Obj.cells #[Value.int .i64 0] 3) = v := ⟨_, rfl⟩
  rw [hv] at hF hB9 hs9 ⊢
  have hcv := cbel hB9 hc5
  have hrv := hr5.out.below hB9
  obtain ⟨k9, hk9⟩ : ∃ k9, k9 = w5.heap.size := ⟨_, rfl⟩
  have hk89 : k8 < k9 := by omega
  rw [← hk9] at hF hs9 ⊢
  clear hv hB9 hk9
  have hu9 : Und w w.heap.size p5 (p5 + 1) k8 0 pb [] k9 := ⟨Nat.le_refl _, by omega, by omega, by omega, by omega, by omega, by omega, fun D h => by cases h⟩
  have hu : Und w w.heap.size p5 (p5 + 1) k8 k9 pb [] v.heap.size := ⟨Nat.le_refl _, by omega, by omega, by omega, by omega, by omega, by omega, fun D h => by have := hu9.2.2.2.2.2.2.2 D h; omega⟩
  refine wp_mid 2 (fun a a' W' => ∃ D, a' = { a with defers := { target := .collected D, args := #[] } :: a.defers } ∧ ∃ n : Nat, (n : Int) = smallF (nb : Int) (bigF 1 x) ∧ BF w w.heap.size p5 (p5 + 1) k8 k9 x nb 0 (.slice (some ⟨pb, po, none⟩) pd.length pc) pb po (pd.map iv8) (D :: []) n W' ∧ Below k9 v W' ∧ v.heap.size ≤ D) ?range ?rest (fun _ _ h => h)
  case range =>
    replace hF := Lib.hid hF
    refine (wpIn_wide (n := 0)).1 ?_
    refine wp_rangeB (gf := 31) (lb := #[.pointer (some ⟨bx, 0, none⟩)]) rfl (enters_of Try.func31 (by kernel_rfl) rfl) (encs := encB) (Rd := fun k => k = qb)
      (S := fun xs => xs = (List.range nb).map (blkAt pd)) (Sp := fun pre => ∃ k, k ≤ nb ∧ pre = (List.range k).map (blkAt pd)) (N := nb + 1) (inf := false) (fun k h => by omega)
      (fun W1 hb1 => blocks_seq pd bx qb qo qc nb W1 hnb.out (by omega) (cbel hb1 hcv) (hrv.below hb1) hqc.out hqc2 (by have := hb1.size; omega)) (fun x => rfl) (BI w w.heap.size p5 (p5 + 1) k8 k9 x nb 0 (.slice (some ⟨pb, po, none⟩) pd.length pc) pb po pd [] v) (BIx w w.heap.size p5 (p5 + 1) k8 k9 x nb 0 (.slice (some ⟨pb, po, none⟩) pd.length pc) pb po pd [] v) (bi_stable hu) (bix_stable hu) ⟨hF.out, fun _ => .inl rfl, ⟨rfl, rfl, rfl, Nat.le_refl _, fun _ _ => rfl⟩⟩ (fun h => by cases h) ?round ?done ?stop
    case round =>
      rintro l1 O pre x1 W1 hOl hO ⟨hF1, hpx, hv9⟩ hlen
      replace hpx := hpx rfl
      obtain ⟨at', f⟩ := x1
      clear hcv hrv hF
      have hk9W := hF1.bn.lt
      replace hF1 := Lib.hid hF1
      unfold encB arrV
      dsimp only
      have hRl : (rowI 16 f).length = 16 := rowI_len 16 f
      obtain ⟨RB, hRB⟩ : ∃ RB, RB = rowI 16 f := ⟨_, rfl⟩
      rw [← hRB] at hRl ⊢
      replace hRB := Lib.hid hRB
      replace hRl := Lib.hid hRl
      have hz := Lib.hid (Blk.new (q := .u32) W1 30 (List.replicate 16 0))
      gi_wp2_with (refine wpListIn_store_blk rfl 30 _ _ rfl W1.heap.size rfl .u32 30 (List.replicate 16 0) RB hz.out rfl (by rw [hRl.out, List.length_replicate]) (by rw [hRl.out]; kernel_rfl) ?_; intro W3 hx3 ho3)
      have hb3 : Below W1.heap.size W1 W3 := ho3.below (xalloc (xrefl W1) _) (by rw [World.size_alloc]; omega) (by rintro i rfl; omega)
      refine ⟨Below.keep hb3, fun W2 hon => ?_⟩
      have hl4 := (hO l1 hOl).1
      have hnoR : Hid (¬ (O (w.heap.size + 1) ∨ w.heap.size + 1 = qb)) := Lib.hid fun h => by
        rcases h with h | h
        · have := (hO _ h).1; have := hu.2.1; omega
        · omega
      have hno9 : Hid (¬ (O k9 ∨ k9 = qb)) := Lib.hid fun h => by
        rcases h with h | h
        · have := (hO _ h).1; omega
        · omega
      have hlW := (hO l1 hOl).2
      obtain ⟨n, hn⟩ : ∃ n, n = pre.length := ⟨_, rfl⟩
      have hlen1 : (pre ++ [(at', f)]).length = n + 1 := by rw [hn]; simp
      rw [← hn] at hF1 hpx hlen
      have hF2 := (hF1.out.below hb3).only hon (M := v.heap.size) (fun k e => by omega) hu
      have hx2 := Lib.hid (hx3.only hon (by omega))
      have hv2 := Lib.hid (hon.below (hv9.trans (hb3.mono (by omega))) (by have := hb3.size; omega) (fun i e => by omega))
      clear hF1 hb3 hx3 ho3 hon hz
      have cn := hF2.bn.cell
      have ca := hF2.ba.cell
      have cp := hF2.bp.cell
      have cm := hF2.bm.cell
      have ct := hF2.bt.cell
      have cf := hF2.bn.free
      replace hF2 := Lib.hid hF2
      replace hlen1 := Lib.hid hlen1
      replace hn := Lib.hid hn
      by_cases hA : nb ≤ n
      · have hA1 : (nb : Int) ≤ (n : Int) := by omega
        gi_wp2_with fail
        refine wpIn_region_growL 15 [fixd (.int .i64 n), fixd (.int .i64 nb), fixd (.bool true), fixd (.bool true), fixd (undef), fixd (undef), fixd (undef), fixd (.bool true), fixd (.bool true), fixd (undef), fixd (undef), fixd (undef), fixd (undef), fixd (undef), fixd (.bool true)] (by kernel_rfl) (by kernel_rfl) (by kernel_rfl) ?_
        simp only [List.take_succ_cons, List.take_zero, List.drop_succ_cons, List.drop_zero]
        try simp only [Act.put, List.setIfInBounds_toArray, List.set_cons_succ, List.set_cons_zero, List.nil_append, List.cons_append]
        refine wpGrowV_fix _ rfl rfl (fun W hb _ => by have c := cbel hb cn; go_simp; first | exact xrefl W | exact ⟨rfl, xrefl W⟩) ?_
        try simp only [Act.put, List.setIfInBounds_toArray, List.set_cons_succ, List.set_cons_zero, List.nil_append, List.cons_append]
        refine wpGrowV_fix _ rfl rfl (fun W hb _ => by have c := cbel hb ca; go_simp; first | exact xrefl W | exact ⟨rfl, xrefl W⟩) ?_
        try simp only [Act.put, List.setIfInBounds_toArray, List.set_cons_succ, List.set_cons_zero, List.nil_append, List.cons_append]
        refine wpGrowV_fix _ rfl rfl (fun W hb _ => by go_simp; first | exact xrefl W | exact ⟨rfl, xrefl W⟩) ?_
        try simp only [Act.put, List.setIfInBounds_toArray, List.set_cons_succ, List.set_cons_zero, List.nil_append, List.cons_append]
        refine wpGrowV_fix _ rfl rfl (fun W hb _ => by go_simp; first | exact xrefl W | exact ⟨rfl, xrefl W⟩) ?_
        try simp only [Act.put, List.setIfInBounds_toArray, List.set_cons_succ, List.set_cons_zero, List.nil_append, List.cons_append]
        refine wpGrowV_not rfl rfl ?_
        try simp only [Act.put, List.setIfInBounds_toArray, List.set_cons_succ, List.set_cons_zero, List.nil_append, List.cons_append]
        refine wpGrowV_not rfl rfl ?_
        try simp only [Act.put, List.setIfInBounds_toArray, List.set_cons_succ, List.set_cons_zero, List.nil_append, List.cons_append]
        refine wpGrowV_not rfl rfl ?_
        try simp only [Act.put, List.setIfInBounds_toArray, List.set_cons_succ, List.set_cons_zero, List.nil_append, List.cons_append]
        refine wpGrowV_fix _ rfl rfl (fun W hb _ => by go_simp; first | exact xrefl W | exact ⟨rfl, xrefl W⟩) ?_
        try simp only [Act.put, List.setIfInBounds_toArray, List.set_cons_succ, List.set_cons_zero, List.nil_append, List.cons_append]
        refine wpGrowV_fix _ rfl rfl (fun W hb _ => by go_simp; first | exact xrefl W | exact ⟨rfl, xrefl W⟩) ?_
        try simp only [Act.put, List.setIfInBounds_toArray, List.set_cons_succ, List.set_cons_zero, List.nil_append, List.cons_append]
        refine wpGrowV_not rfl rfl ?_
        try simp only [Act.put, List.setIfInBounds_toArray, List.set_cons_succ, List.set_cons_zero, List.nil_append, List.cons_append]
        refine wpGrowV_not rfl rfl ?_
        try simp only [Act.put, List.setIfInBounds_toArray, List.set_cons_succ, List.set_cons_zero, List.nil_append, List.cons_append]
        refine wpGrowV_not rfl rfl ?_
        try simp only [Act.put, List.setIfInBounds_toArray, List.set_cons_succ, List.set_cons_zero, List.nil_append, List.cons_append]
        refine wpGrowV_not rfl rfl ?_
        try simp only [Act.put, List.setIfInBounds_toArray, List.set_cons_succ, List.set_cons_zero, List.nil_append, List.cons_append]
        refine wpGrowV_not rfl rfl ?_
        try simp only [Act.put, List.setIfInBounds_toArray, List.set_cons_succ, List.set_cons_zero, List.nil_append, List.cons_append]
        refine wpGrowV_fix _ rfl rfl (fun W hb _ => by go_simp; first | exact xrefl W | exact ⟨rfl, xrefl W⟩) ?_
        try simp only [Act.put, List.setIfInBounds_toArray, List.set_cons_succ, List.set_cons_zero, List.nil_append, List.cons_append]
        refine wpGrowV_nil fun W3 hbW _ => ?_
        have cr := (hF2.out.br.below hbW).cell
        have fr := (hF2.out.br.below hbW).free
        gi_wp2
        refine ⟨(Below.keep hbW).trans ((Keep.refl _ _).setCell ⟨w.heap.size + 1, 0, none⟩ _ hnoR.out), .inr ⟨rfl, fun k hk e => ?_⟩⟩
        obtain ⟨e1, e2⟩ := pre_last e
        have := hn.out
        omega
      have hA1 : ¬ (nb : Int) ≤ (n : Int) := by omega
      by_cases hB : at' = n
      rotate_left
      · have hB1 : ¬ (at' : Int) = (n : Int) := by omega
        gi_wp2_with fail
        refine wpIn_region_growL 15 [fixd (.int .i64 n), fixd (.int .i64 nb), fixd (.bool false), fixd (.bool false), fixd (.int .i64 at'), fixd (.int .i64 n), fixd (.bool true), fixd (.bool true), fixd (.bool true), fixd (undef), fixd (undef), fixd (undef), fixd (undef), fixd (undef), fixd (.bool true)] (by kernel_rfl) (by kernel_rfl) (by kernel_rfl) ?_
        simp only [List.take_succ_cons, List.take_zero, List.drop_succ_cons, List.drop_zero]
        try simp only [Act.put, List.setIfInBounds_toArray, List.set_cons_succ, List.set_cons_zero, List.nil_append, List.cons_append]
        refine wpGrowV_fix _ rfl rfl (fun W hb _ => by have c := cbel hb cn; go_simp; first | exact xrefl W | exact ⟨rfl, xrefl W⟩) ?_
        try simp only [Act.put, List.setIfInBounds_toArray, List.set_cons_succ, List.set_cons_zero, List.nil_append, List.cons_append]
        refine wpGrowV_fix _ rfl rfl (fun W hb _ => by have c := cbel hb ca; go_simp; first | exact xrefl W | exact ⟨rfl, xrefl W⟩) ?_
        try simp only [Act.put, List.setIfInBounds_toArray, List.set_cons_succ, List.set_cons_zero, List.nil_append, List.cons_append]
        refine wpGrowV_fix _ rfl rfl (fun W hb _ => by go_simp; first | exact xrefl W | exact ⟨rfl, xrefl W⟩) ?_
        try simp only [Act.put, List.setIfInBounds_toArray, List.set_cons_succ, List.set_cons_zero, List.nil_append, List.cons_append]
        refine wpGrowV_fix _ rfl rfl (fun W hb _ => by go_simp; first | exact xrefl W | exact ⟨rfl, xrefl W⟩) ?_
        try simp only [Act.put, List.setIfInBounds_toArray, List.set_cons_succ, List.set_cons_zero, List.nil_append, List.cons_append]
        refine wpGrowV_fix _ rfl rfl (fun W hb _ => by go_simp; first | exact xrefl W | exact ⟨rfl, xrefl W⟩) ?_
        try simp only [Act.put, List.setIfInBounds_toArray, List.set_cons_succ, List.set_cons_zero, List.nil_append, List.cons_append]
        refine wpGrowV_fix _ rfl rfl (fun W hb _ => by have c := cbel hb cn; go_simp; first | exact xrefl W | exact ⟨rfl, xrefl W⟩) ?_
        try simp only [Act.put, List.setIfInBounds_toArray, List.set_cons_succ, List.set_cons_zero, List.nil_append, List.cons_append]
        refine wpGrowV_fix _ rfl rfl (fun W hb _ => by go_simp; first | exact xrefl W | exact ⟨rfl, xrefl W⟩) ?_
        try simp only [Act.put, List.setIfInBounds_toArray, List.set_cons_succ, List.set_cons_zero, List.nil_append, List.cons_append]
        refine wpGrowV_fix _ rfl rfl (fun W hb _ => by go_simp; first | exact xrefl W | exact ⟨rfl, xrefl W⟩) ?_
        try simp only [Act.put, List.setIfInBounds_toArray, List.set_cons_succ, List.set_cons_zero, List.nil_append, List.cons_append]
        refine wpGrowV_fix _ rfl rfl (fun W hb _ => by go_simp; first | exact xrefl W | exact ⟨rfl, xrefl W⟩) ?_
        try simp only [Act.put, List.setIfInBounds_toArray, List.set_cons_succ, List.set_cons_zero, List.nil_append, List.cons_append]
        refine wpGrowV_not rfl rfl ?_
        try simp only [Act.put, List.setIfInBounds_toArray, List.set_cons_succ, List.set_cons_zero, List.nil_append, List.cons_append]
        refine wpGrowV_not rfl rfl ?_
        try simp only [Act.put, List.setIfInBounds_toArray, List.set_cons_succ, List.set_cons_zero, List.nil_append, List.cons_append]
        refine wpGrowV_not rfl rfl ?_
        try simp only [Act.put, List.setIfInBounds_toArray, List.set_cons_succ, List.set_cons_zero, List.nil_append, List.cons_append]
        refine wpGrowV_not rfl rfl ?_
        try simp only [Act.put, List.setIfInBounds_toArray, List.set_cons_succ, List.set_cons_zero, List.nil_append, List.cons_append]
        refine wpGrowV_not rfl rfl ?_
        try simp only [Act.put, List.setIfInBounds_toArray, List.set_cons_succ, List.set_cons_zero, List.nil_append, List.cons_append]
        refine wpGrowV_fix _ rfl rfl (fun W hb _ => by go_simp; first | exact xrefl W | exact ⟨rfl, xrefl W⟩) ?_
        try simp only [Act.put, List.setIfInBounds_toArray, List.set_cons_succ, List.set_cons_zero, List.nil_append, List.cons_append]
        refine wpGrowV_nil fun W3 hbW _ => ?_
        have cr := (hF2.out.br.below hbW).cell
        have fr := (hF2.out.br.below hbW).free
        gi_wp2
        refine ⟨(Below.keep hbW).trans ((Keep.refl _ _).setCell ⟨w.heap.size + 1, 0, none⟩ _ hnoR.out), .inr ⟨rfl, fun k hk e => ?_⟩⟩
        obtain ⟨e1, e2⟩ := pre_last e
        exact hB (by rw [hn.out]; exact congrArg Prod.fst e2)
      have hB' := hB.symm
      clear hB
      subst hB'
      have hBk := fun W h => refBlock24_any pd (some ⟨pb, po, none⟩) pc n W h (by rw [hnb.out]; omega) hpd4
      unfold arrV at hBk
      obtain ⟨FB, hFB⟩ : ∃ FB, FB = rowI 16 (blockF (byteF pd n)) := ⟨_, rfl⟩
      rw [← hFB] at hBk
      have hFBl : FB.length = 16 := by rw [hFB, rowI_len]
      replace hFB := Lib.hid hFB
      replace hFBl := Lib.hid hFBl
      replace hBk := Lib.hid hBk
      by_cases hRF : RB = FB
      rotate_left
      · replace hRF := Lib.hid hRF
        gi_wp2_with fail
        refine wpIn_region_growL 15 [fixd (.int .i64 n), fixd (.int .i64 nb), fixd (.bool false), fixd (.bool false), fixd (.int .i64 n), fixd (.int .i64 n), fixd (.bool false), fixd (.bool false), fixd (.bool false), fixd (.agg (RB.map (Value.int .u32)).toArray), fixd (.slice (some ⟨pb, po, none⟩) pd.length pc), fixd (.int .i64 n), fixd (.agg (FB.map (Value.int .u32)).toArray), fixd (.bool true), fixd (.bool true)] (by kernel_rfl) (by kernel_rfl) (by kernel_rfl) ?_
        simp only [List.take_succ_cons, List.take_zero, List.drop_succ_cons, List.drop_zero]
        try simp only [Act.put, List.setIfInBounds_toArray, List.set_cons_succ, List.set_cons_zero, List.nil_append, List.cons_append]
        refine wpGrowV_fix _ rfl rfl (fun W hb _ => by have c := cbel hb cn; go_simp; first | exact xrefl W | exact ⟨rfl, xrefl W⟩) ?_
        try simp only [Act.put, List.setIfInBounds_toArray, List.set_cons_succ, List.set_cons_zero, List.nil_append, List.cons_append]
        refine wpGrowV_fix _ rfl rfl (fun W hb _ => by have c := cbel hb ca; go_simp; first | exact xrefl W | exact ⟨rfl, xrefl W⟩) ?_
        try simp only [Act.put, List.setIfInBounds_toArray, List.set_cons_succ, List.set_cons_zero, List.nil_append, List.cons_append]
        refine wpGrowV_fix _ rfl rfl (fun W hb _ => by go_simp; first | exact xrefl W | exact ⟨rfl, xrefl W⟩) ?_
        try simp only [Act.put, List.setIfInBounds_toArray, List.set_cons_succ, List.set_cons_zero, List.nil_append, List.cons_append]
        refine wpGrowV_fix _ rfl rfl (fun W hb _ => by go_simp; first | exact xrefl W | exact ⟨rfl, xrefl W⟩) ?_
        try simp only [Act.put, List.setIfInBounds_toArray, List.set_cons_succ, List.set_cons_zero, List.nil_append, List.cons_append]
        refine wpGrowV_fix _ rfl rfl (fun W hb _ => by go_simp; first | exact xrefl W | exact ⟨rfl, xrefl W⟩) ?_
        try simp only [Act.put, List.setIfInBounds_toArray, List.set_cons_succ, List.set_cons_zero, List.nil_append, List.cons_append]
        refine wpGrowV_fix _ rfl rfl (fun W hb _ => by have c := cbel hb cn; go_simp; first | exact xrefl W | exact ⟨rfl, xrefl W⟩) ?_
        try simp only [Act.put, List.setIfInBounds_toArray, List.set_cons_succ, List.set_cons_zero, List.nil_append, List.cons_append]
        refine wpGrowV_fix _ rfl rfl (fun W hb _ => by go_simp; first | exact xrefl W | exact ⟨rfl, xrefl W⟩) ?_
        try simp only [Act.put, List.setIfInBounds_toArray, List.set_cons_succ, List.set_cons_zero, List.nil_append, List.cons_append]
        refine wpGrowV_fix _ rfl rfl (fun W hb _ => by go_simp; first | exact xrefl W | exact ⟨rfl, xrefl W⟩) ?_
        try simp only [Act.put, List.setIfInBounds_toArray, List.set_cons_succ, List.set_cons_zero, List.nil_append, List.cons_append]
        refine wpGrowV_fix _ rfl rfl (fun W hb _ => by go_simp; first | exact xrefl W | exact ⟨rfl, xrefl W⟩) ?_
        try simp only [Act.put, List.setIfInBounds_toArray, List.set_cons_succ, List.set_cons_zero, List.nil_append, List.cons_append]
        refine wpGrowV_fix _ rfl rfl (fun W hb _ => ?_) ?_
        · rw [run_load_blk 30 (.tmp 11) rfl W1.heap.size rfl .u32 30 RB _ _ (hx2.out.below hb) Try.underlying30 (by rw [hRl.out]; kernel_rfl)]
          exact ⟨rfl, xrefl W⟩
        try simp only [Act.put, List.setIfInBounds_toArray, List.set_cons_succ, List.set_cons_zero, List.nil_append, List.cons_append]
        refine wpGrowV_fix _ rfl rfl (fun W hb _ => by have c := cbel hb cp; go_simp; first | exact xrefl W | exact ⟨rfl, xrefl W⟩) ?_
        try simp only [Act.put, List.setIfInBounds_toArray, List.set_cons_succ, List.set_cons_zero, List.nil_append, List.cons_append]
        refine wpGrowV_fix _ rfl rfl (fun W hb _ => by have c := cbel hb cn; go_simp; first | exact xrefl W | exact ⟨rfl, xrefl W⟩) ?_
        try simp only [Act.put, List.setIfInBounds_toArray, List.set_cons_succ, List.set_cons_zero, List.nil_append, List.cons_append]
        refine wpGrowV_fix (.agg (FB.map (Value.int .u32)).toArray) rfl rfl (fun W hb _ => ?_) ?_
        · go_simp
          go_at_call 16
          refine (hBk.out W (hF2.out.hp.below hb)).mono ?_
          rintro e w' ⟨rfl, hb'⟩
          exact ⟨rfl, hb'⟩
        try simp only [Act.put, List.setIfInBounds_toArray, List.set_cons_succ, List.set_cons_zero, List.nil_append, List.cons_append]
        refine wpGrowV_fix (.bool true) rfl rfl (fun W hb _ => ?_) ?_
        · rw [run_neq_at 30 _ (.tmp 41) (.tmp 44) rfl 28 16 .u32 .u32 RB FB rfl rfl Try.underlying30 Try.underlying28 (by kernel_rfl) (by kernel_rfl) (by kernel_rfl) hRl.out hFBl.out, decide_eq_false hRF.out]
          exact ⟨rfl, xrefl W⟩
        try simp only [Act.put, List.setIfInBounds_toArray, List.set_cons_succ, List.set_cons_zero, List.nil_append, List.cons_append]
        refine wpGrowV_fix _ rfl rfl (fun W hb _ => by go_simp; first | exact xrefl W | exact ⟨rfl, xrefl W⟩) ?_
        try simp only [Act.put, List.setIfInBounds_toArray, List.set_cons_succ, List.set_cons_zero, List.nil_append, List.cons_append]
        refine wpGrowV_nil fun W3 hbW _ => ?_
        have cr := (hF2.out.br.below hbW).cell
        have fr := (hF2.out.br.below hbW).free
        gi_wp2
        refine ⟨(Below.keep hbW).trans ((Keep.refl _ _).setCell ⟨w.heap.size + 1, 0, none⟩ _ hnoR.out), .inr ⟨rfl, fun k hk e => ?_⟩⟩
        obtain ⟨e1, e2⟩ := pre_last e
        exact hRF.out (by rw [hRB.out, hFB.out, hn.out]; exact congrArg (fun p => rowI 16 p.2) e2)
      have hn1000 : n < 1000 := by omega
      replace hRF := Lib.hid hRF
      gi_wp2_with fail
      refine wpIn_region_growL 15 [fixd (.int .i64 n), fixd (.int .i64 nb), fixd (.bool false), fixd (.bool false), fixd (.int .i64 n), fixd (.int .i64 n), fixd (.bool false), fixd (.bool false), fixd (.bool false), fixd (.agg (RB.map (Value.int .u32)).toArray), fixd (.slice (some ⟨pb, po, none⟩) pd.length pc), fixd (.int .i64 n), fixd (.agg (FB.map (Value.int .u32)).toArray), fixd (.bool false), fixd (.bool false)] (by kernel_rfl) (by kernel_rfl) (by kernel_rfl) ?_
      simp only [List.take_succ_cons, List.take_zero, List.drop_succ_cons, List.drop_zero]
      try simp only [Act.put, List.setIfInBounds_toArray, List.set_cons_succ, List.set_cons_zero, List.nil_append, List.cons_append]
      refine wpGrowV_fix _ rfl rfl (fun W hb _ => by have c := cbel hb cn; go_simp; first | exact xrefl W | exact ⟨rfl, xrefl W⟩) ?_
      try simp only [Act.put, List.setIfInBounds_toArray, List.set_cons_succ, List.set_cons_zero, List.nil_append, List.cons_append]
      refine wpGrowV_fix _ rfl rfl (fun W hb _ => by have c := cbel hb ca; go_simp; first | exact xrefl W | exact ⟨rfl, xrefl W⟩) ?_
      try simp only [Act.put, List.setIfInBounds_toArray, List.set_cons_succ, List.set_cons_zero, List.nil_append, List.cons_append]
      refine wpGrowV_fix _ rfl rfl (fun W hb _ => by go_simp; first | exact xrefl W | exact ⟨rfl, xrefl W⟩) ?_
      try simp only [Act.put, List.setIfInBounds_toArray, List.set_cons_succ, List.set_cons_zero, List.nil_append, List.cons_append]
      refine wpGrowV_fix _ rfl rfl (fun W hb _ => by go_simp; first | exact xrefl W | exact ⟨rfl, xrefl W⟩) ?_
      try simp only [Act.put, List.setIfInBounds_toArray, List.set_cons_succ, List.set_cons_zero, List.nil_append, List.cons_append]
      refine wpGrowV_fix _ rfl rfl (fun W hb _ => by go_simp; first | exact xrefl W | exact ⟨rfl, xrefl W⟩) ?_
      try simp only [Act.put, List.setIfInBounds_toArray, List.set_cons_succ, List.set_cons_zero, List.nil_append, List.cons_append]
      refine wpGrowV_fix _ rfl rfl (fun W hb _ => by have c := cbel hb cn; go_simp; first | exact xrefl W | exact ⟨rfl, xrefl W⟩) ?_
      try simp only [Act.put, List.setIfInBounds_toArray, List.set_cons_succ, List.set_cons_zero, List.nil_append, List.cons_append]
      refine wpGrowV_fix _ rfl rfl (fun W hb _ => by go_simp; first | exact xrefl W | exact ⟨rfl, xrefl W⟩) ?_
      try simp only [Act.put, List.setIfInBounds_toArray, List.set_cons_succ, List.set_cons_zero, List.nil_append, List.cons_append]
      refine wpGrowV_fix _ rfl rfl (fun W hb _ => by go_simp; first | exact xrefl W | exact ⟨rfl, xrefl W⟩) ?_
      try simp only [Act.put, List.setIfInBounds_toArray, List.set_cons_succ, List.set_cons_zero, List.nil_append, List.cons_append]
      refine wpGrowV_fix _ rfl rfl (fun W hb _ => by go_simp; first | exact xrefl W | exact ⟨rfl, xrefl W⟩) ?_
      try simp only [Act.put, List.setIfInBounds_toArray, List.set_cons_succ, List.set_cons_zero, List.nil_append, List.cons_append]
      refine wpGrowV_fix _ rfl rfl (fun W hb _ => ?_) ?_
      · rw [run_load_blk 30 (.tmp 11) rfl W1.heap.size rfl .u32 30 RB _ _ (hx2.out.below hb) Try.underlying30 (by rw [hRl.out]; kernel_rfl)]
        exact ⟨rfl, xrefl W⟩
      try simp only [Act.put, List.setIfInBounds_toArray, List.set_cons_succ, List.set_cons_zero, List.nil_append, List.cons_append]
      refine wpGrowV_fix _ rfl rfl (fun W hb _ => by have c := cbel hb cp; go_simp; first | exact xrefl W | exact ⟨rfl, xrefl W⟩) ?_
      try simp only [Act.put, List.setIfInBounds_toArray, List.set_cons_succ, List.set_cons_zero, List.nil_append, List.cons_append]
      refine wpGrowV_fix _ rfl rfl (fun W hb _ => by have c := cbel hb cn; go_simp; first | exact xrefl W | exact ⟨rfl, xrefl W⟩) ?_
      try simp only [Act.put, List.setIfInBounds_toArray, List.set_cons_succ, List.set_cons_zero, List.nil_append, List.cons_append]
      refine wpGrowV_fix (.agg (FB.map (Value.int .u32)).toArray) rfl rfl (fun W hb _ => ?_) ?_
      · go_simp
        go_at_call 16
        refine (hBk.out W (hF2.out.hp.below hb)).mono ?_
        rintro e w' ⟨rfl, hb'⟩
        exact ⟨rfl, hb'⟩
      try simp only [Act.put, List.setIfInBounds_toArray, List.set_cons_succ, List.set_cons_zero, List.nil_append, List.cons_append]
      refine wpGrowV_fix (.bool false) rfl rfl (fun W hb _ => ?_) ?_
      · rw [run_neq_at 30 _ (.tmp 41) (.tmp 44) rfl 28 16 .u32 .u32 RB FB rfl rfl Try.underlying30 Try.underlying28 (by kernel_rfl) (by kernel_rfl) (by kernel_rfl) hRl.out hFBl.out, decide_eq_true hRF.out]
        exact ⟨rfl, xrefl W⟩
      try simp only [Act.put, List.setIfInBounds_toArray, List.set_cons_succ, List.set_cons_zero, List.nil_append, List.cons_append]
      refine wpGrowV_fix _ rfl rfl (fun W hb _ => by go_simp; first | exact xrefl W | exact ⟨rfl, xrefl W⟩) ?_
      try simp only [Act.put, List.setIfInBounds_toArray, List.set_cons_succ, List.set_cons_zero, List.nil_append, List.cons_append]
      refine wpGrowV_nil fun W3 hbW _ => ?_
      have hF3 := hF2.out.below hbW
      have cn3 := hF3.bn.cell
      have cf3 := hF3.bn.free
      have ct3 := hF3.bt.cell
      have cm3 := hF3.bm.cell
      have hv3 : Below k9 v (W3.setCell ⟨k9, 0, none⟩ (.int .i64 ((n : Int) + 1))) := (hv2.out.trans (hbW.mono (by have := hF2.out.bn.lt; omega))).setCell (Nat.le_refl k9) _
      replace hF3 := Lib.hid hF3
      replace hv3 := Lib.hid hv3
      by_cases hxn : x ≤ (n : Int) + 1
      · gi_wp2
        refine ⟨(Below.keep hbW).trans ((Keep.refl _ _).setCell ⟨k9, 0, none⟩ _ hno9.out), ?_⟩
        have hF4 := (hF2.out.below hbW).setn hu9 (n + 1)
        refine .inl ⟨rfl, rfl, by rw [hlen1.out]; exact hF4, hv3.out, by rw [hlen1.out]; omega, by rw [hlen1.out]; omega, ?_⟩
        rw [hlen1.out]
        rcases hpx with h | h
        · left; omega
        · right; omega
      · gi_wp2
        refine ⟨(Below.keep hbW).trans ((Keep.refl _ _).setCell ⟨k9, 0, none⟩ _ hno9.out), ?_⟩
        have hF4 := (hF2.out.below hbW).setn hu9 (n + 1)
        exact ⟨by rw [hlen1.out]; exact hF4, fun _ => by rw [hlen1.out]; right; omega, hv3.out⟩
    case done =>
      rintro D xs O W hD hOD hO rfl ⟨hF1, hpx, hv9⟩ hK
      rw [List.length_map, List.length_range] at hF1 hpx
      exact ⟨.inl rfl, D, rfl, nb, by rcases hpx rfl with h | h <;> unfold smallF bigF <;> (repeat' split) <;> omega, hF1.mark hK, hv9, hD⟩
    case stop =>
      rintro D c' pre O W hD hOD hO ⟨k, hk, rfl⟩ hIx hK
      rcases hIx with ⟨rfl, ht, hF1, hv9, h1, h2, h3⟩ | ⟨rfl, h⟩
      · rw [List.length_map, List.length_range] at hF1 h1 h2 h3
        gi_wp2
        exact ⟨k, by unfold smallF bigF; (repeat' split) <;> omega, hF1.mark hK⟩
      · exact absurd rfl (h k hk)
  case rest =>
    rintro _ W6 ⟨D1, rfl, n, hn, hF, hv, hDv⟩
    have c8 := hF.bt.cell
    have c9 := hF.bn.cell
    have c6 := hF.ba.cell
    have c3 := hF.bm.cell
    replace hF := Lib.hid hF
    replace hv := Lib.hid hv
    dsimp only
    go_wp2
    obtain ⟨w7, hw7⟩ : ∃ w7, W6.alloc (Obj.cells #[Value.int .i64 1] 3) = w7 := ⟨_, rfl⟩
    have h67 : Below W6.heap.size W6 w7 := by rw [← hw7]; exact xalloc (xrefl W6) _
    have bt7 : Box w7 W6.heap.size (.int .i64 ((1 : Nat) : Int)) 3 := by rw [← hw7]; exact Box.new W6 _ _
    have hS : BF w w.heap.size p5 (p5 + 1) W6.heap.size W6.heap.size x nb 1 (.slice (some ⟨pb, po, none⟩) pd.length pc) pb po (pd.map iv8) [D1] 1 w7 := by
      have h2 := hF.out.below h67
      exact ⟨h2.bm, h2.br, h2.bp, h2.ba, bt7, bt7, h2.hp, h2.hd, h2.hb⟩
    have hD1 : D1 < W6.heap.size := (Array.getElem?_eq_some_iff.1 (hF.out.hd D1 (by simp))).1
    have h9lt := hF.out.bn.lt
    have hc5 := cbel h67 ((Below.only' hv.out).cell hcv (by simp only; omega))
    have hr5 := Lib.hid ((hrv.only (Below.only' hv.out) (fun y hy => by cases hy; simp only; omega)).below h67)
    have s5 : W6.heap.size < w7.heap.size := by rw [← hw7, World.size_alloc]; omega
    rw [hw7]
    obtain ⟨k8b, hk8b⟩ : ∃ k8b, k8b = W6.heap.size := ⟨_, rfl⟩
    rw [← hk8b] at hS hD1 h9lt s5 ⊢
    clear hw7 bt7 h67 hcv hrv hF hv hu hu9 c8 c9 c6 c3 hk8b hn
    rw [rounds_succ]
    have ct := hS.bt.cell
    replace hS := Lib.hid hS
    go_wp2
    have hF := hS.out.newn
    have hB9 := xalloc (xrefl w7) (Obj.cells #[Value.int .i64 0] 3)
    have hs9 : w7.heap.size < (w7.alloc (Obj.cells #[Value.int .i64 0] 3)).heap.size := by rw [World.size_alloc]; omega
    obtain ⟨v, hv⟩ : ∃ v, w7.alloc (Obj.cells #[Value.int .i64 0] 3) = v := ⟨_, rfl⟩
    rw [hv] at hF hB9 hs9 ⊢
    have hcv := cbel hB9 hc5
    have hrv := hr5.out.below hB9
    obtain ⟨k9, hk9⟩ : ∃ k9, k9 = w7.heap.size := ⟨_, rfl⟩
    have hk89 : k8b < k9 := by omega
    rw [← hk9] at hF hs9 ⊢
    clear hv hB9 hk9
    have hu9 : Und w w.heap.size p5 (p5 + 1) k8b 0 pb [D1] k9 := ⟨Nat.le_refl _, by omega, by omega, by omega, by omega, by omega, by omega, fun D' h => by obtain rfl := List.mem_singleton.1 h; omega⟩
    have hu : Und w w.heap.size p5 (p5 + 1) k8b k9 pb [D1] v.heap.size := ⟨Nat.le_refl _, by omega, by omega, by omega, by omega, by omega, by omega, fun D h => by have := hu9.2.2.2.2.2.2.2 D h; omega⟩
    refine wp_mid 2 (fun a a' W' => ∃ D, a' = { a with defers := { target := .collected D, args := #[] } :: a.defers } ∧ ∃ n : Nat, n = nb ∧ BF w w.heap.size p5 (p5 + 1) k8b k9 x nb 1 (.slice (some ⟨pb, po, none⟩) pd.length pc) pb po (pd.map iv8) (D :: [D1]) n W' ∧ Below k9 v W' ∧ v.heap.size ≤ D) ?range ?rest (fun _ _ h => h)
    case range =>
      replace hF := Lib.hid hF
      refine (wpIn_wide (n := 0)).1 ?_
      refine wp_rangeB (gf := 31) (lb := #[.pointer (some ⟨bx, 0, none⟩)]) rfl (enters_of Try.func31 (by kernel_rfl) rfl) (encs := encB) (Rd := fun k => k = qb)
        (S := fun xs => xs = (List.range nb).map (blkAt pd)) (Sp := fun pre => ∃ k, k ≤ nb ∧ pre = (List.range k).map (blkAt pd)) (N := nb + 1) (inf := false) (fun k h => by omega)
        (fun W1 hb1 => blocks_seq pd bx qb qo qc nb W1 hnb.out (by omega) (cbel hb1 hcv) (hrv.below hb1) hqc.out hqc2 (by have := hb1.size; omega)) (fun x => rfl) (BI w w.heap.size p5 (p5 + 1) k8b k9 x nb 1 (.slice (some ⟨pb, po, none⟩) pd.length pc) pb po pd [D1] v) (BIx w w.heap.size p5 (p5 + 1) k8b k9 x nb 1 (.slice (some ⟨pb, po, none⟩) pd.length pc) pb po pd [D1] v) (bi_stable hu) (bix_stable hu) ⟨hF.out, fun _ => .inl rfl, ⟨rfl, rfl, rfl, Nat.le_refl _, fun _ _ => rfl⟩⟩ (fun h => by cases h) ?round ?done ?stop
      case round =>
        rintro l1 O pre x1 W1 hOl hO ⟨hF1, hpx, hv9⟩ hlen
        clear hpx
        obtain ⟨at', f⟩ := x1
        clear hcv hrv hF
        have hk9W := hF1.bn.lt
        replace hF1 := Lib.hid hF1
        unfold encB arrV
        dsimp only
        have hRl : (rowI 16 f).length = 16 := rowI_len 16 f
        obtain ⟨RB, hRB⟩ : ∃ RB, RB = rowI 16 f := ⟨_, rfl⟩
        rw [← hRB] at hRl ⊢
        replace hRB := Lib.hid hRB
        replace hRl := Lib.hid hRl
        have hz := Lib.hid (Blk.new (q := .u32) W1 30 (List.replicate 16 0))
        gi_wp2_with (refine wpListIn_store_blk rfl 30 _ _ rfl W1.heap.size rfl .u32 30 (List.replicate 16 0) RB hz.out rfl (by rw [hRl.out, List.length_replicate]) (by rw [hRl.out]; kernel_rfl) ?_; intro W3 hx3 ho3)
        have hb3 : Below W1.heap.size W1 W3 := ho3.below (xalloc (xrefl W1) _) (by rw [World.size_alloc]; omega) (by rintro i rfl; omega)
        refine ⟨Below.keep hb3, fun W2 hon => ?_⟩
        have hl4 := (hO l1 hOl).1
        have hnoR : Hid (¬ (O (w.heap.size + 1) ∨ w.heap.size + 1 = qb)) := Lib.hid fun h => by
          rcases h with h | h
          · have := (hO _ h).1; have := hu.2.1; omega
          · omega
        have hno9 : Hid (¬ (O k9 ∨ k9 = qb)) := Lib.hid fun h => by
          rcases h with h | h
          · have := (hO _ h).1; omega
          · omega
        have hlW := (hO l1 hOl).2
        obtain ⟨n, hn⟩ : ∃ n, n = pre.length := ⟨_, rfl⟩
        have hlen1 : (pre ++ [(at', f)]).length = n + 1 := by rw [hn]; simp
        rw [← hn] at hF1 hlen
        have hF2 := (hF1.out.below hb3).only hon (M := v.heap.size) (fun k e => by omega) hu
        have hx2 := Lib.hid (hx3.only hon (by omega))
        have hv2 := Lib.hid (hon.below (hv9.trans (hb3.mono (by omega))) (by have := hb3.size; omega) (fun i e => by omega))
        clear hF1 hb3 hx3 ho3 hon hz
        have cn := hF2.bn.cell
        have ca := hF2.ba.cell
        have cp := hF2.bp.cell
        have cm := hF2.bm.cell
        have ct := hF2.bt.cell
        have cf := hF2.bn.free
        replace hF2 := Lib.hid hF2
        replace hlen1 := Lib.hid hlen1
        replace hn := Lib.hid hn
        by_cases hA : nb ≤ n
        · have hA1 : (nb : Int) ≤ (n : Int) := by omega
          gi_wp2_with fail
          refine wpIn_region_growL 15 [fixd (.int .i64 n), fixd (.int .i64 nb), fixd (.bool true), fixd (.bool true), fixd (undef), fixd (undef), fixd (undef), fixd (.bool true), fixd (.bool true), fixd (undef), fixd (undef), fixd (undef), fixd (undef), fixd (undef), fixd (.bool true)] (by kernel_rfl) (by kernel_rfl) (by kernel_rfl) ?_
          simp only [List.take_succ_cons, List.take_zero, List.drop_succ_cons, List.drop_zero]
          try simp only [Act.put, List.setIfInBounds_toArray, List.set_cons_succ, List.set_cons_zero, List.nil_append, List.cons_append]
          refine wpGrowV_fix _ rfl rfl (fun W hb _ => by have c := cbel hb cn; go_simp; first | exact xrefl W | exact ⟨rfl, xrefl W⟩) ?_
          try simp only [Act.put, List.setIfInBounds_toArray, List.set_cons_succ, List.set_cons_zero, List.nil_append, List.cons_append]
          refine wpGrowV_fix _ rfl rfl (fun W hb _ => by have c := cbel hb ca; go_simp; first | exact xrefl W | exact ⟨rfl, xrefl W⟩) ?_
          try simp only [Act.put, List.setIfInBounds_toArray, List.set_cons_succ, List.set_cons_zero, List.nil_append, List.cons_append]
          refine wpGrowV_fix _ rfl rfl (fun W hb _ => by go_simp; first | exact xrefl W | exact ⟨rfl, xrefl W⟩) ?_
          try simp only [Act.put, List.setIfInBounds_toArray, List.set_cons_succ, List.set_cons_zero, List.nil_append, List.cons_append]
          refine wpGrowV_fix _ rfl rfl (fun W hb _ => by go_simp; first | exact xrefl W | exact ⟨rfl, xrefl W⟩) ?_
          try simp only [Act.put, List.setIfInBounds_toArray, List.set_cons_succ, List.set_cons_zero, List.nil_append, List.cons_append]
          refine wpGrowV_not rfl rfl ?_
          try simp only [Act.put, List.setIfInBounds_toArray, List.set_cons_succ, List.set_cons_zero, List.nil_append, List.cons_append]
          refine wpGrowV_not rfl rfl ?_
          try simp only [Act.put, List.setIfInBounds_toArray, List.set_cons_succ, List.set_cons_zero, List.nil_append, List.cons_append]
          refine wpGrowV_not rfl rfl ?_
          try simp only [Act.put, List.setIfInBounds_toArray, List.set_cons_succ, List.set_cons_zero, List.nil_append, List.cons_append]
          refine wpGrowV_fix _ rfl rfl (fun W hb _ => by go_simp; first | exact xrefl W | exact ⟨rfl, xrefl W⟩) ?_
          try simp only [Act.put, List.setIfInBounds_toArray, List.set_cons_succ, List.set_cons_zero, List.nil_append, List.cons_append]
          refine wpGrowV_fix _ rfl rfl (fun W hb _ => by go_simp; first | exact xrefl W | exact ⟨rfl, xrefl W⟩) ?_
          try simp only [Act.put, List.setIfInBounds_toArray, List.set_cons_succ, List.set_cons_zero, List.nil_append, List.cons_append]
          refine wpGrowV_not rfl rfl ?_
          try simp only [Act.put, List.setIfInBounds_toArray, List.set_cons_succ, List.set_cons_zero, List.nil_append, List.cons_append]
          refine wpGrowV_not rfl rfl ?_
          try simp only [Act.put, List.setIfInBounds_toArray, List.set_cons_succ, List.set_cons_zero, List.nil_append, List.cons_append]
          refine wpGrowV_not rfl rfl ?_
          try simp only [Act.put, List.setIfInBounds_toArray, List.set_cons_succ, List.set_cons_zero, List.nil_append, List.cons_append]
          refine wpGrowV_not rfl rfl ?_
          try simp only [Act.put, List.setIfInBounds_toArray, List.set_cons_succ, List.set_cons_zero, List.nil_append, List.cons_append]
          refine wpGrowV_not rfl rfl ?_
          try simp only [Act.put, List.setIfInBounds_toArray, List.set_cons_succ, List.set_cons_zero, List.nil_append, List.cons_append]
          refine wpGrowV_fix _ rfl rfl (fun W hb _ => by go_simp; first | exact xrefl W | exact ⟨rfl, xrefl W⟩) ?_
          try simp only [Act.put, List.setIfInBounds_toArray, List.set_cons_succ, List.set_cons_zero, List.nil_append, List.cons_append]
          refine wpGrowV_nil fun W3 hbW _ => ?_
          have cr := (hF2.out.br.below hbW).cell
          have fr := (hF2.out.br.below hbW).free
          gi_wp2
          refine ⟨(Below.keep hbW).trans ((Keep.refl _ _).setCell ⟨w.heap.size + 1, 0, none⟩ _ hnoR.out), .inr ⟨rfl, fun k hk e => ?_⟩⟩
          obtain ⟨e1, e2⟩ := pre_last e
          have := hn.out
          omega
        have hA1 : ¬ (nb : Int) ≤ (n : Int) := by omega
        by_cases hB : at' = n
        rotate_left
        · have hB1 : ¬ (at' : Int) = (n : Int) := by omega
          gi_wp2_with fail
          refine wpIn_region_growL 15 [fixd (.int .i64 n), fixd (.int .i64 nb), fixd (.bool false), fixd (.bool false), fixd (.int .i64 at'), fixd (.int .i64 n), fixd (.bool true), fixd (.bool true), fixd (.bool true), fixd (undef), fixd (undef), fixd (undef), fixd (undef), fixd (undef), fixd (.bool true)] (by kernel_rfl) (by kernel_rfl) (by kernel_rfl) ?_
          simp only [List.take_succ_cons, List.take_zero, List.drop_succ_cons, List.drop_zero]
          try simp only [Act.put, List.setIfInBounds_toArray, List.set_cons_succ, List.set_cons_zero, List.nil_append, List.cons_append]
          refine wpGrowV_fix _ rfl rfl (fun W hb _ => by have c := cbel hb cn; go_simp; first | exact xrefl W | exact ⟨rfl, xrefl W⟩) ?_
          try simp only [Act.put, List.setIfInBounds_toArray, List.set_cons_succ, List.set_cons_zero, List.nil_append, List.cons_append]
          refine wpGrowV_fix _ rfl rfl (fun W hb _ => by have c := cbel hb ca; go_simp; first | exact xrefl W | exact ⟨rfl, xrefl W⟩) ?_
          try simp only [Act.put, List.setIfInBounds_toArray, List.set_cons_succ, List.set_cons_zero, List.nil_append, List.cons_append]
          refine wpGrowV_fix _ rfl rfl (fun W hb _ => by go_simp; first | exact xrefl W | exact ⟨rfl, xrefl W⟩) ?_
          try simp only [Act.put, List.setIfInBounds_toArray, List.set_cons_succ, List.set_cons_zero, List.nil_append, List.cons_append]
          refine wpGrowV_fix _ rfl rfl (fun W hb _ => by go_simp; first | exact xrefl W | exact ⟨rfl, xrefl W⟩) ?_
          try simp only [Act.put, List.setIfInBounds_toArray, List.set_cons_succ, List.set_cons_zero, List.nil_append, List.cons_append]
          refine wpGrowV_fix _ rfl rfl (fun W hb _ => by go_simp; first | exact xrefl W | exact ⟨rfl, xrefl W⟩) ?_
          try simp only [Act.put, List.setIfInBounds_toArray, List.set_cons_succ, List.set_cons_zero, List.nil_append, List.cons_append]
          refine wpGrowV_fix _ rfl rfl (fun W hb _ => by have c := cbel hb cn; go_simp; first | exact xrefl W | exact ⟨rfl, xrefl W⟩) ?_
          try simp only [Act.put, List.setIfInBounds_toArray, List.set_cons_succ, List.set_cons_zero, List.nil_append, List.cons_append]
          refine wpGrowV_fix _ rfl rfl (fun W hb _ => by go_simp; first | exact xrefl W | exact ⟨rfl, xrefl W⟩) ?_
          try simp only [Act.put, List.setIfInBounds_toArray, List.set_cons_succ, List.set_cons_zero, List.nil_append, List.cons_append]
          refine wpGrowV_fix _ rfl rfl (fun W hb _ => by go_simp; first | exact xrefl W | exact ⟨rfl, xrefl W⟩) ?_
          try simp only [Act.put, List.setIfInBounds_toArray, List.set_cons_succ, List.set_cons_zero, List.nil_append, List.cons_append]
          refine wpGrowV_fix _ rfl rfl (fun W hb _ => by go_simp; first | exact xrefl W | exact ⟨rfl, xrefl W⟩) ?_
          try simp only [Act.put, List.setIfInBounds_toArray, List.set_cons_succ, List.set_cons_zero, List.nil_append, List.cons_append]
          refine wpGrowV_not rfl rfl ?_
          try simp only [Act.put, List.setIfInBounds_toArray, List.set_cons_succ, List.set_cons_zero, List.nil_append, List.cons_append]
          refine wpGrowV_not rfl rfl ?_
          try simp only [Act.put, List.setIfInBounds_toArray, List.set_cons_succ, List.set_cons_zero, List.nil_append, List.cons_append]
          refine wpGrowV_not rfl rfl ?_
          try simp only [Act.put, List.setIfInBounds_toArray, List.set_cons_succ, List.set_cons_zero, List.nil_append, List.cons_append]
          refine wpGrowV_not rfl rfl ?_
          try simp only [Act.put, List.setIfInBounds_toArray, List.set_cons_succ, List.set_cons_zero, List.nil_append, List.cons_append]
          refine wpGrowV_not rfl rfl ?_
          try simp only [Act.put, List.setIfInBounds_toArray, List.set_cons_succ, List.set_cons_zero, List.nil_append, List.cons_append]
          refine wpGrowV_fix _ rfl rfl (fun W hb _ => by go_simp; first | exact xrefl W | exact ⟨rfl, xrefl W⟩) ?_
          try simp only [Act.put, List.setIfInBounds_toArray, List.set_cons_succ, List.set_cons_zero, List.nil_append, List.cons_append]
          refine wpGrowV_nil fun W3 hbW _ => ?_
          have cr := (hF2.out.br.below hbW).cell
          have fr := (hF2.out.br.below hbW).free
          gi_wp2
          refine ⟨(Below.keep hbW).trans ((Keep.refl _ _).setCell ⟨w.heap.size + 1, 0, none⟩ _ hnoR.out), .inr ⟨rfl, fun k hk e => ?_⟩⟩
          obtain ⟨e1, e2⟩ := pre_last e
          exact hB (by rw [hn.out]; exact congrArg Prod.fst e2)
        have hB' := hB.symm
        clear hB
        subst hB'
        have hBk := fun W h => refBlock24_any pd (some ⟨pb, po, none⟩) pc n W h (by rw [hnb.out]; omega) hpd4
        unfold arrV at hBk
        obtain ⟨FB, hFB⟩ : ∃ FB, FB = rowI 16 (blockF (byteF pd n)) := ⟨_, rfl⟩
        rw [← hFB] at hBk
        have hFBl : FB.length = 16 := by rw [hFB, rowI_len]
        replace hFB := Lib.hid hFB
        replace hFBl := Lib.hid hFBl
        replace hBk := Lib.hid hBk
        by_cases hRF : RB = FB
        rotate_left
        · replace hRF := Lib.hid hRF
          gi_wp2_with fail
          refine wpIn_region_growL 15 [fixd (.int .i64 n), fixd (.int .i64 nb), fixd (.bool false), fixd (.bool false), fixd (.int .i64 n), fixd (.int .i64 n), fixd (.bool false), fixd (.bool false), fixd (.bool false), fixd (.agg (RB.map (Value.int .u32)).toArray), fixd (.slice (some ⟨pb, po, none⟩) pd.length pc), fixd (.int .i64 n), fixd (.agg (FB.map (Value.int .u32)).toArray), fixd (.bool true), fixd (.bool true)] (by kernel_rfl) (by kernel_rfl) (by kernel_rfl) ?_
          simp only [List.take_succ_cons, List.take_zero, List.drop_succ_cons, List.drop_zero]
          try simp only [Act.put, List.setIfInBounds_toArray, List.set_cons_succ, List.set_cons_zero, List.nil_append, List.cons_append]
          refine wpGrowV_fix _ rfl rfl (fun W hb _ => by have c := cbel hb cn; go_simp; first | exact xrefl W | exact ⟨rfl, xrefl W⟩) ?_
          try simp only [Act.put, List.setIfInBounds_toArray, List.set_cons_succ, List.set_cons_zero, List.nil_append, List.cons_append]
          refine wpGrowV_fix _ rfl rfl (fun W hb _ => by have c := cbel hb ca; go_simp; first | exact xrefl W | exact ⟨rfl, xrefl W⟩) ?_
          try simp only [Act.put, List.setIfInBounds_toArray, List.set_cons_succ, List.set_cons_zero, List.nil_append, List.cons_append]
          refine wpGrowV_fix _ rfl rfl (fun W hb _ => by go_simp; first | exact xrefl W | exact ⟨rfl, xrefl W⟩) ?_
          try simp only [Act.put, List.setIfInBounds_toArray, List.set_cons_succ, List.set_cons_zero, List.nil_append, List.cons_append]
          refine wpGrowV_fix _ rfl rfl (fun W hb _ => by go_simp; first | exact xrefl W | exact ⟨rfl, xrefl W⟩) ?_
          try simp only [Act.put, List.setIfInBounds_toArray, List.set_cons_succ, List.set_cons_zero, List.nil_append, List.cons_append]
          refine wpGrowV_fix _ rfl rfl (fun W hb _ => by go_simp; first | exact xrefl W | exact ⟨rfl, xrefl W⟩) ?_
          try simp only [Act.put, List.setIfInBounds_toArray, List.set_cons_succ, List.set_cons_zero, List.nil_append, List.cons_append]
          refine wpGrowV_fix _ rfl rfl (fun W hb _ => by have c := cbel hb cn; go_simp; first | exact xrefl W | exact ⟨rfl, xrefl W⟩) ?_
          try simp only [Act.put, List.setIfInBounds_toArray, List.set_cons_succ, List.set_cons_zero, List.nil_append, List.cons_append]
          refine wpGrowV_fix _ rfl rfl (fun W hb _ => by go_simp; first | exact xrefl W | exact ⟨rfl, xrefl W⟩) ?_
          try simp only [Act.put, List.setIfInBounds_toArray, List.set_cons_succ, List.set_cons_zero, List.nil_append, List.cons_append]
          refine wpGrowV_fix _ rfl rfl (fun W hb _ => by go_simp; first | exact xrefl W | exact ⟨rfl, xrefl W⟩) ?_
          try simp only [Act.put, List.setIfInBounds_toArray, List.set_cons_succ, List.set_cons_zero, List.nil_append, List.cons_append]
          refine wpGrowV_fix _ rfl rfl (fun W hb _ => by go_simp; first | exact xrefl W | exact ⟨rfl, xrefl W⟩) ?_
          try simp only [Act.put, List.setIfInBounds_toArray, List.set_cons_succ, List.set_cons_zero, List.nil_append, List.cons_append]
          refine wpGrowV_fix _ rfl rfl (fun W hb _ => ?_) ?_
          · rw [run_load_blk 30 (.tmp 11) rfl W1.heap.size rfl .u32 30 RB _ _ (hx2.out.below hb) Try.underlying30 (by rw [hRl.out]; kernel_rfl)]
            exact ⟨rfl, xrefl W⟩
          try simp only [Act.put, List.setIfInBounds_toArray, List.set_cons_succ, List.set_cons_zero, List.nil_append, List.cons_append]
          refine wpGrowV_fix _ rfl rfl (fun W hb _ => by have c := cbel hb cp; go_simp; first | exact xrefl W | exact ⟨rfl, xrefl W⟩) ?_
          try simp only [Act.put, List.setIfInBounds_toArray, List.set_cons_succ, List.set_cons_zero, List.nil_append, List.cons_append]
          refine wpGrowV_fix _ rfl rfl (fun W hb _ => by have c := cbel hb cn; go_simp; first | exact xrefl W | exact ⟨rfl, xrefl W⟩) ?_
          try simp only [Act.put, List.setIfInBounds_toArray, List.set_cons_succ, List.set_cons_zero, List.nil_append, List.cons_append]
          refine wpGrowV_fix (.agg (FB.map (Value.int .u32)).toArray) rfl rfl (fun W hb _ => ?_) ?_
          · go_simp
            go_at_call 16
            refine (hBk.out W (hF2.out.hp.below hb)).mono ?_
            rintro e w' ⟨rfl, hb'⟩
            exact ⟨rfl, hb'⟩
          try simp only [Act.put, List.setIfInBounds_toArray, List.set_cons_succ, List.set_cons_zero, List.nil_append, List.cons_append]
          refine wpGrowV_fix (.bool true) rfl rfl (fun W hb _ => ?_) ?_
          · rw [run_neq_at 30 _ (.tmp 41) (.tmp 44) rfl 28 16 .u32 .u32 RB FB rfl rfl Try.underlying30 Try.underlying28 (by kernel_rfl) (by kernel_rfl) (by kernel_rfl) hRl.out hFBl.out, decide_eq_false hRF.out]
            exact ⟨rfl, xrefl W⟩
          try simp only [Act.put, List.setIfInBounds_toArray, List.set_cons_succ, List.set_cons_zero, List.nil_append, List.cons_append]
          refine wpGrowV_fix _ rfl rfl (fun W hb _ => by go_simp; first | exact xrefl W | exact ⟨rfl, xrefl W⟩) ?_
          try simp only [Act.put, List.setIfInBounds_toArray, List.set_cons_succ, List.set_cons_zero, List.nil_append, List.cons_append]
          refine wpGrowV_nil fun W3 hbW _ => ?_
          have cr := (hF2.out.br.below hbW).cell
          have fr := (hF2.out.br.below hbW).free
          gi_wp2
          refine ⟨(Below.keep hbW).trans ((Keep.refl _ _).setCell ⟨w.heap.size + 1, 0, none⟩ _ hnoR.out), .inr ⟨rfl, fun k hk e => ?_⟩⟩
          obtain ⟨e1, e2⟩ := pre_last e
          exact hRF.out (by rw [hRB.out, hFB.out, hn.out]; exact congrArg (fun p => rowI 16 p.2) e2)
        have hn1000 : n < 1000 := by omega
        replace hRF := Lib.hid hRF
        gi_wp2_with fail
        refine wpIn_region_growL 15 [fixd (.int .i64 n), fixd (.int .i64 nb), fixd (.bool false), fixd (.bool false), fixd (.int .i64 n), fixd (.int .i64 n), fixd (.bool false), fixd (.bool false), fixd (.bool false), fixd (.agg (RB.map (Value.int .u32)).toArray), fixd (.slice (some ⟨pb, po, none⟩) pd.length pc), fixd (.int .i64 n), fixd (.agg (FB.map (Value.int .u32)).toArray), fixd (.bool false), fixd (.bool false)] (by kernel_rfl) (by kernel_rfl) (by kernel_rfl) ?_
        simp only [List.take_succ_cons, List.take_zero, List.drop_succ_cons, List.drop_zero]
        try simp only [Act.put, List.setIfInBounds_toArray, List.set_cons_succ, List.set_cons_zero, List.nil_append, List.cons_append]
        refine wpGrowV_fix _ rfl rfl (fun W hb _ => by have c := cbel hb cn; go_simp; first | exact xrefl W | exact ⟨rfl, xrefl W⟩) ?_
        try simp only [Act.put, List.setIfInBounds_toArray, List.set_cons_succ, List.set_cons_zero, List.nil_append, List.cons_append]
        refine wpGrowV_fix _ rfl rfl (fun W hb _ => by have c := cbel hb ca; go_simp; first | exact xrefl W | exact ⟨rfl, xrefl W⟩) ?_
        try simp only [Act.put, List.setIfInBounds_toArray, List.set_cons_succ, List.set_cons_zero, List.nil_append, List.cons_append]
        refine wpGrowV_fix _ rfl rfl (fun W hb _ => by go_simp; first | exact xrefl W | exact ⟨rfl, xrefl W⟩) ?_
        try simp only [Act.put, List.setIfInBounds_toArray, List.set_cons_succ, List.set_cons_zero, List.nil_append, List.cons_append]
        refine wpGrowV_fix _ rfl rfl (fun W hb _ => by go_simp; first | exact xrefl W | exact ⟨rfl, xrefl W⟩) ?_
        try simp only [Act.put, List.setIfInBounds_toArray, List.set_cons_succ, List.set_cons_zero, List.nil_append, List.cons_append]
        refine wpGrowV_fix _ rfl rfl (fun W hb _ => by go_simp; first | exact xrefl W | exact ⟨rfl, xrefl W⟩) ?_
        try simp only [Act.put, List.setIfInBounds_toArray, List.set_cons_succ, List.set_cons_zero, List.nil_append, List.cons_append]
        refine wpGrowV_fix _ rfl rfl (fun W hb _ => by have c := cbel hb cn; go_simp; first | exact xrefl W | exact ⟨rfl, xrefl W⟩) ?_
        try simp only [Act.put, List.setIfInBounds_toArray, List.set_cons_succ, List.set_cons_zero, List.nil_append, List.cons_append]
        refine wpGrowV_fix _ rfl rfl (fun W hb _ => by go_simp; first | exact xrefl W | exact ⟨rfl, xrefl W⟩) ?_
        try simp only [Act.put, List.setIfInBounds_toArray, List.set_cons_succ, List.set_cons_zero, List.nil_append, List.cons_append]
        refine wpGrowV_fix _ rfl rfl (fun W hb _ => by go_simp; first | exact xrefl W | exact ⟨rfl, xrefl W⟩) ?_
        try simp only [Act.put, List.setIfInBounds_toArray, List.set_cons_succ, List.set_cons_zero, List.nil_append, List.cons_append]
        refine wpGrowV_fix _ rfl rfl (fun W hb _ => by go_simp; first | exact xrefl W | exact ⟨rfl, xrefl W⟩) ?_
        try simp only [Act.put, List.setIfInBounds_toArray, List.set_cons_succ, List.set_cons_zero, List.nil_append, List.cons_append]
        refine wpGrowV_fix _ rfl rfl (fun W hb _ => ?_) ?_
        · rw [run_load_blk 30 (.tmp 11) rfl W1.heap.size rfl .u32 30 RB _ _ (hx2.out.below hb) Try.underlying30 (by rw [hRl.out]; kernel_rfl)]
          exact ⟨rfl, xrefl W⟩
        try simp only [Act.put, List.setIfInBounds_toArray, List.set_cons_succ, List.set_cons_zero, List.nil_append, List.cons_append]
        refine wpGrowV_fix _ rfl rfl (fun W hb _ => by have c := cbel hb cp; go_simp; first | exact xrefl W | exact ⟨rfl, xrefl W⟩) ?_
        try simp only [Act.put, List.setIfInBounds_toArray, List.set_cons_succ, List.set_cons_zero, List.nil_append, List.cons_append]
        refine wpGrowV_fix _ rfl rfl (fun W hb _ => by have c := cbel hb cn; go_simp; first | exact xrefl W | exact ⟨rfl, xrefl W⟩) ?_
        try simp only [Act.put, List.setIfInBounds_toArray, List.set_cons_succ, List.set_cons_zero, List.nil_append, List.cons_append]
        refine wpGrowV_fix (.agg (FB.map (Value.int .u32)).toArray) rfl rfl (fun W hb _ => ?_) ?_
        · go_simp
          go_at_call 16
          refine (hBk.out W (hF2.out.hp.below hb)).mono ?_
          rintro e w' ⟨rfl, hb'⟩
          exact ⟨rfl, hb'⟩
        try simp only [Act.put, List.setIfInBounds_toArray, List.set_cons_succ, List.set_cons_zero, List.nil_append, List.cons_append]
        refine wpGrowV_fix (.bool false) rfl rfl (fun W hb _ => ?_) ?_
        · rw [run_neq_at 30 _ (.tmp 41) (.tmp 44) rfl 28 16 .u32 .u32 RB FB rfl rfl Try.underlying30 Try.underlying28 (by kernel_rfl) (by kernel_rfl) (by kernel_rfl) hRl.out hFBl.out, decide_eq_true hRF.out]
          exact ⟨rfl, xrefl W⟩
        try simp only [Act.put, List.setIfInBounds_toArray, List.set_cons_succ, List.set_cons_zero, List.nil_append, List.cons_append]
        refine wpGrowV_fix _ rfl rfl (fun W hb _ => by go_simp; first | exact xrefl W | exact ⟨rfl, xrefl W⟩) ?_
        try simp only [Act.put, List.setIfInBounds_toArray, List.set_cons_succ, List.set_cons_zero, List.nil_append, List.cons_append]
        refine wpGrowV_nil fun W3 hbW _ => ?_
        have hF3 := hF2.out.below hbW
        have cn3 := hF3.bn.cell
        have cf3 := hF3.bn.free
        have ct3 := hF3.bt.cell
        have cm3 := hF3.bm.cell
        have hv3 : Below k9 v (W3.setCell ⟨k9, 0, none⟩ (.int .i64 ((n : Int) + 1))) := (hv2.out.trans (hbW.mono (by have := hF2.out.bn.lt; omega))).setCell (Nat.le_refl k9) _
        replace hF3 := Lib.hid hF3
        replace hv3 := Lib.hid hv3
        · gi_wp2
          refine ⟨(Below.keep hbW).trans ((Keep.refl _ _).setCell ⟨k9, 0, none⟩ _ hno9.out), ?_⟩
          have hF4 := (hF2.out.below hbW).setn hu9 (n + 1)
          exact ⟨by rw [hlen1.out]; exact hF4, fun h => (by cases h), hv3.out⟩
      case done =>
        rintro D xs O W hD hOD hO rfl ⟨hF1, hpx, hv9⟩ hK
        rw [List.length_map, List.length_range] at hF1 hpx
        exact ⟨.inl rfl, D, rfl, nb, rfl, hF1.mark hK, hv9, hD⟩
      case stop =>
        rintro D c' pre O W hD hOD hO ⟨k, hk, rfl⟩ hIx hK
        rcases hIx with ⟨rfl, ht, hF1, hv9, h1, h2, h3⟩ | ⟨rfl, h⟩
        · cases ht
        · exact absurd rfl (h k hk)
    case rest =>
      rintro _ W6 ⟨D2, rfl, n, hn, hF, hv, hDv⟩
      rw [hn] at hF
      have c8 := hF.bt.cell
      have c9 := hF.bn.cell
      have c6 := hF.ba.cell
      have c3 := hF.bm.cell
      replace hF := Lib.hid hF
      replace hv := Lib.hid hv
      dsimp only
      go_wp2
      rw [rounds_succ]
      obtain ⟨w7, hw7⟩ : ∃ w7, W6.alloc (Obj.cells #[Value.int .i64 2] 3) = w7 := ⟨_, rfl⟩
      have h67 : Below W6.heap.size W6 w7 := by rw [← hw7]; exact xalloc (xrefl W6) _
      have bt7 : Box w7 W6.heap.size (.int .i64 2) 3 := by rw [← hw7]; exact Box.new W6 _ _
      have hS := Lib.hid (hF.out.below h67)
      rw [hw7]
      have ct := bt7.cell
      clear hw7 bt7 h67 hcv hrv hF hv hu hu9 c8 c9 c6 c3 hn
      go_wp2_with (go_at_call 7; refine (works_any _).mono ?_; rintro e W8 ⟨rfl, hb8⟩; have hS8 := hS.out.below hb8; have cr := hS8.br.cell; have fr := hS8.br.free; replace hS8 := Lib.hid hS8)
      have hne : ∀ D ∈ [D2, D1], D ≠ w.heap.size + 1 := fun D h e => by
        have h1 := hS8.out.hd D h
        have h2 := hS8.out.br
        unfold Box at h2
        rw [e, h2] at h1
        cases h1
      have hbE : Below w.heap.size w (W8.setCell ⟨w.heap.size + 1, 0, none⟩ (.bool true)) := hS8.out.hb.setCell (by simp only; omega) _
      have hE1 : (W8.setCell ⟨w.heap.size + 1, 0, none⟩ (.bool true)).heap[D1]? = some (.deferred (some [])) := (Below.heap_setCell _ ⟨w.heap.size + 1, 0, none⟩ _ D1 (hne D1 (by simp))).trans (hS8.out.hd D1 (by simp))
      have hE2 : (W8.setCell ⟨w.heap.size + 1, 0, none⟩ (.bool true)).heap[D2]? = some (.deferred (some [])) := (Below.heap_setCell _ ⟨w.heap.size + 1, 0, none⟩ _ D2 (hne D2 (by simp))).trans (hS8.out.hd D2 (by simp))
      have hE3 := hS8.out.br.set (.bool true)
      generalize W8.setCell ⟨w.heap.size + 1, 0, none⟩ (.bool true) = WE at hbE hE1 hE2 hE3 ⊢
      have hn1 := hne D1 (by simp)
      have hn2 := hne D2 (by simp)
      have hk1 : (WE.putObj D2 (.deferred none)).heap[D1]? = some (.deferred (some [])) := (World.putObj_heap_other (by omega)).trans hE1
      have ho := ((Only.refl (fun k => k = D2 ∨ k = D1) WE).putObj D2 (.deferred none) (.inl rfl)).putObj D1 (.deferred none) (.inr rfl)
      have hge9 : w.heap.size ≤ D1 ∧ w.heap.size ≤ D2 := by omega
      refine ⟨by simp, .inl ⟨_, _, rfl, run_takeDeferred hE2, by simp, .inl ⟨_, _, rfl, run_takeDeferred hk1, ?_⟩⟩⟩
      exact ⟨_, results_bool rfl _ _ (w.heap.size + 1) (.bool true) rfl (hE3.only ho (by omega)).cell, rfl, ho.below hbE hbE.size (by rintro i (rfl | rfl) <;> omega)⟩


set_option maxRecDepth 100000 in
theorem ripeBlocks_walk (a : Option Addr) (c : Nat) (zs : List Int) (x : Int) (w : World) (hl : zs.length ≤ 9223372036854775807) (hr : RowAt .u8 w a zs) (ha : a = none → c = 0) (hw : ∀ z ∈ zs, (Lit.int .u8 z).wf = true) (hx : -9223372036854775808 ≤ x ∧ x ≤ 9223372036854775807) :
    Calls Try.prog 5 #[.slice a zs.length c, .int .i64 x] w (Yes w) := by
  obtain ⟨bs, hbs⟩ := bytes_of zs hw
  clear hw
  by_cases h : (zs.length : Int) > 300
  · replace hr := Lib.hid hr
    replace hbs := Lib.hid hbs
    refine (callsIn_wide (n := 0)).1 ?_
    refine callsIn_of_wp_marks Try.func5 rfl trivial ?_ rfl
    simp only [Try.ntmps5, List.size_toArray, List.length_cons, List.length_nil, Nat.reduceAdd, Nat.reduceSub, Array.replicate_succ, Array.replicate_zero, List.push_toArray, List.append_toArray, List.nil_append, List.cons_append]
    refine wpIn_wide.2 ?_
    have br1 : Box ((w.alloc (Obj.cells #[Value.int .i64 x] 3)).alloc (Obj.cells #[Value.bool false] 4)) (w.heap.size + 1) (.bool false) 4 := by have := Box.new (w.alloc (Obj.cells #[Value.int .i64 x] 3)) (.bool false) 4; rwa [World.size_alloc] at this
    replace br1 := Lib.hid br1
    go_wp2_with (go_at_call 7; refine (works_any _).mono ?_; rintro e w3 ⟨rfl, b3⟩; have hB := br1.out.below b3; have cr := hB.cell; have fr := hB.free; replace hB := Lib.hid hB)
    have hbE : Below w.heap.size w (w3.setCell ⟨w.heap.size + 1, 0, none⟩ (.bool true)) := (xtrans (xalloc (xalloc (xrefl w) _) _) b3).setCell (by simp only; omega) _
    have hE3 := hB.out.set (.bool true)
    exact ⟨_, results_bool rfl _ _ (w.heap.size + 1) (.bool true) rfl hE3.cell, rfl, hbE⟩
  · have hbl : bs.length = zs.length := by rw [hbs]; simp
    have := ripeBlocks_go bs a c x w (by omega) (by rw [← hbs]; exact hr) ha hx.1 hx.2
    rwa [hbl] at this
end Go.Proofs.Ytfafancacfjodaa
