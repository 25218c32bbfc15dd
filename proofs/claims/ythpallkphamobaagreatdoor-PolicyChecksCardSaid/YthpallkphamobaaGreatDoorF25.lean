/- Texts of this claim, merged; no condition. -/
import Derived.Test.YthpallkphamobaaGreatDoorF23
import Derived.Test.YthpallkphamobaaGreatDoorF24
set_option linter.all false
namespace Go.Proofs.YthpallkphamobaaGreatDoor
open Go.RowKit Go.Shelf

set_option maxRecDepth 100000 in
set_option maxHeartbeats 4000000 in
theorem few_any (x : BitVec 64) (a b : Option Addr) (n c m d k : Nat) (w : World) : Calls Tryz.prog 9 #[.agg #[labV x, .slice a n c, .slice b m d], .int .i64 k] w fun e w' => e = .returned (.bool (decide (n ≤ k ∧ m ≤ k))) ∧ Below w.heap.size w w' := by
  have hb : Below w.heap.size w (w.alloc (.cells #[labV x, .slice a n c, .slice b m d] 27)) := xalloc (xrefl w) _
  have hP : BlkG (w.alloc (.cells #[labV x, .slice a n c, .slice b m d] 27)) w.heap.size 27 [labV x, .slice a n c, .slice b m d] := BlkG.new w _ _
  have c1 := hP.cell 1 (by simp)
  have c2 := hP.cell 2 (by simp)
  simp only [List.getElem_cons_succ, List.getElem_cons_zero] at c1 c2
  replace hb := Lib.hid hb
  clear hP
  by_cases h1 : n ≤ k
  · have h1I : (n : Int) ≤ k := by omega
    by_cases h2 : m ≤ k
    · have h2I : (m : Int) ≤ k := by omega
      rw [decide_eq_true (⟨h1, h2⟩ : n ≤ k ∧ m ≤ k)]
      go_enter Tryz.func9, Tryz.ntmps9
      go_wp2
      go_ret
      exact ⟨rfl, hb.out⟩
    · have h2I : ¬ (m : Int) ≤ k := by omega
      rw [decide_eq_false (fun h => h2 h.2 : ¬ (n ≤ k ∧ m ≤ k))]
      go_enter Tryz.func9, Tryz.ntmps9
      go_wp2
      go_ret
      exact ⟨rfl, hb.out⟩
  · have h1I : ¬ (n : Int) ≤ k := by omega
    rw [decide_eq_false (fun h => h1 h.1 : ¬ (n ≤ k ∧ m ≤ k))]
    go_enter Tryz.func9, Tryz.ntmps9
    go_wp2
    go_ret
    exact ⟨rfl, hb.out⟩
set_option maxRecDepth 100000 in
set_option maxHeartbeats 8000000 in
theorem checks_go (p : PolN) (pa pb : Option Addr) (pc pd : Nat) (ad : List Nat) (had : Adr ad) (en : Nat) (w : World) (hp : PolAt w p pa pc pb pd) (hT : TabP w) :
    Calls Tryz.prog 3 #[polV p pa pc pb pd, adrV ad, .int .u32 en] w (Yes w) := by
  have hTt : Hid (∀ W, Below w.heap.size w W → TabP W) := Lib.hid fun W h => hT.below h
  have hpt : Hid (∀ W, Below w.heap.size w W → PolAt W p pa pc pb pd) := Lib.hid fun W h => hp.below h
  have hwk0 := Lib.hid fun W h => worksP_any W (hTt.out W h)
  have hfw := fun W => few_any p.dflt pa pb p.clears.length pc p.rels.length pd 20 W
  have hck0 : p.clears.length ≤ 20 ∧ p.rels.length ≤ 20 → ∀ W, Below w.heap.size w W → Calls Tryz.prog 14 #[polV p pa pc pb pd] W fun e w' => e = .returned (.int .i64 (checkF p)) ∧ Below W.heap.size W w' := fun h W hb => check_any p pa pb pc pd W (hpt.out W hb) (by omega) (by omega)
  have hrc0 : p.clears.length ≤ 20 ∧ p.rels.length ≤ 20 → ∀ W, Below w.heap.size w W → Calls Tryz.prog 15 #[polV p pa pc pb pd] W fun e w' => e = .returned (.int .i64 (checkF p)) ∧ Below W.heap.size W w' := fun h W hb => refCheck_any p pa pb pc pd W (hpt.out W hb) (by omega) (by omega)
  have hcl0 : p.clears.length ≤ 20 ∧ p.rels.length ≤ 20 → ∀ W, Below w.heap.size w W → Calls Tryz.prog 16 #[polV p pa pc pb pd, adrV ad] W fun e w' => e = .returned (labV (clearF p ad)) ∧ Below W.heap.size W w' := fun h W hb => clearance_any p ad pa pb pc pd W (hpt.out W hb) had (by omega)
  have hrl0 : p.clears.length ≤ 20 ∧ p.rels.length ≤ 20 → ∀ W, Below w.heap.size w W → Calls Tryz.prog 17 #[polV p pa pc pb pd, adrV ad] W fun e w' => e = .returned (labV (clearF p ad)) ∧ Below W.heap.size W w' := fun h W hb => refClearance_any p ad pa pb pc pd W (hpt.out W hb) had (by omega)
  have htg0 : p.clears.length ≤ 20 ∧ p.rels.length ≤ 20 → ∀ W, Below w.heap.size w W → Calls Tryz.prog 11 #[polV p pa pc pb pd, adrV ad, .int .u32 en] W fun e w' => e = .returned (tgtV (targetF p ad en)) ∧ Below W.heap.size W w' := fun h W hb => target_any p ad en pa pb pc pd W (hpt.out W hb) had (by omega)
  have hrt0 : p.clears.length ≤ 20 ∧ p.rels.length ≤ 20 → ∀ W, Below w.heap.size w W → Calls Tryz.prog 12 #[polV p pa pc pb pd, adrV ad, .int .u32 en] W fun e w' => e = .returned (tgtV (targetF p ad en)) ∧ Below W.heap.size W w' := fun h W hb => refTarget_any p ad en pa pb pc pd W (hpt.out W hb) had (by omega)
  have hla : (adrC ad).length = 20 := by rw [adrC_len, had.len]
  unfold tgtV at htg0 hrt0
  unfold labV at hcl0 hrl0 htg0 hrt0
  generalize (targetF p ad en).isSome = bb at *
  generalize iv64 ((targetF p ad en).getD 0) = lx at *
  generalize iv64 (clearF p ad) = lc at *
  generalize hnk : (checkF p : Int) = nk at *
  obtain ⟨pl, hpv⟩ : ∃ pl : List Value, pl = [labV p.dflt, .slice pa p.clears.length pc, .slice pb p.rels.length pd] := ⟨_, rfl⟩
  have hpv2 : polV p pa pc pb pd = .agg pl.toArray := by rw [hpv]; rfl
  have hpv3 : (.agg #[labV p.dflt, .slice pa p.clears.length pc, .slice pb p.rels.length pd] : Value) = .agg pl.toArray := by rw [hpv]
  have hpl : pl.length = 3 := by rw [hpv]; rfl
  rw [hpv2] at hck0 hrc0 hcl0 hrl0 htg0 hrt0 ⊢
  rw [hpv3] at hfw
  unfold adrV at *
  generalize adrC ad = la at *
  clear hpv hpv2 hpv3 hp hT hpt had hnk
  have hb0 : Hid (Below w.heap.size w ((w.alloc (.cells pl.toArray 27)).alloc (.cells la.toArray 29))) := Lib.hid (xalloc (xalloc (xrefl w) _) _)
  have hP0 : Hid (BlkG ((w.alloc (.cells pl.toArray 27)).alloc (.cells la.toArray 29)) w.heap.size 27 pl) := Lib.hid ((BlkG.new w _ _).alloc _)
  have hA0 : Hid (BlkG ((w.alloc (.cells pl.toArray 27)).alloc (.cells la.toArray 29)) (w.heap.size + 1) 29 la) := Lib.hid (by
    have := BlkG.new (w.alloc (.cells pl.toArray 27)) 29 la
    rwa [World.size_alloc] at this)
  by_cases hf : p.clears.length ≤ 20 ∧ p.rels.length ≤ 20
  · rw [decide_eq_true hf] at hfw
    replace hfw := Lib.hid hfw
    replace hck0 := Lib.hid (hck0 hf)
    replace hrc0 := Lib.hid (hrc0 hf)
    replace hcl0 := Lib.hid (hcl0 hf)
    replace hrl0 := Lib.hid (hrl0 hf)
    replace htg0 := Lib.hid (htg0 hf)
    replace hrt0 := Lib.hid (hrt0 hf)
    clear hf
    go_enter Tryz.func3, Tryz.ntmps3
    go_upto_region 1 with fail
    generalize (w.alloc (.cells pl.toArray 27)).alloc (.cells la.toArray 29) = w1 at *
    go_upto_region 5 with (first
      | (refine wpList_load_blkG rfl 27 _ rfl w.heap.size rfl 27 pl _ hP0.out Tryz.underlying27 rfl (by rw [hpl]; kernel_rfl) ?_)
      | (refine wpList_load_blkG rfl 29 _ rfl (w.heap.size + 1) rfl 29 la _ hA0.out Tryz.underlying29 rfl (by rw [hla]; kernel_rfl) ?_)
      | (go_at_call 9; refine (hfw.out _).mono ?_; rintro e w2 ⟨rfl, hb2⟩; replace hP0 := Lib.hid (hP0.out.below hb2); replace hA0 := Lib.hid (hA0.out.below hb2); replace hb0 := Lib.hid (xtrans hb0.out hb2); clear hb2)
      | (go_at_call 11; refine (htg0.out _ hb0.out).mono ?_; rintro e w3 ⟨rfl, hb3⟩; replace hP0 := Lib.hid (hP0.out.below hb3); replace hA0 := Lib.hid (hA0.out.below hb3); replace hb0 := Lib.hid (xtrans hb0.out hb3); clear hb3)
      | (go_at_call 12; refine (hrt0.out _ hb0.out).mono ?_; rintro e w5 ⟨rfl, hb5⟩; replace hP0 := Lib.hid (hP0.out.below hb5); replace hA0 := Lib.hid (hA0.out.below hb5); replace hb0 := Lib.hid (xtrans hb0.out hb5); clear hb5))
    have hP5 := hP0
    have hA5 := hA0
    have hck := Lib.hid fun W (hb : Below w5.heap.size w5 W) => hck0.out W (xtrans hb0.out hb)
    have hrc := Lib.hid fun W (hb : Below w5.heap.size w5 W) => hrc0.out W (xtrans hb0.out hb)
    have hcl := Lib.hid fun W (hb : Below w5.heap.size w5 W) => hcl0.out W (xtrans hb0.out hb)
    have hrl := Lib.hid fun W (hb : Below w5.heap.size w5 W) => hrl0.out W (xtrans hb0.out hb)
    have hwk := Lib.hid fun W (hb : Below w5.heap.size w5 W) => hwk0.out W (xtrans hb0.out hb)
    clear hck0 hrc0 hcl0 hrl0 htg0 hrt0 hwk0 hTt hfw
    refine' wp_region_growL 28 [fixd (.agg pl.toArray), fixd (.int .i64 nk), fixd (.int .i64 nk), fixd (.agg pl.toArray), fixd (.int .i64 nk), fixd (.bool true), fixd (.bool true), fixd (.agg pl.toArray), fixd (.agg la.toArray), fixd (.int .u64 lc), fixd (.agg pl.toArray), fixd (.agg la.toArray), fixd (.int .u64 lc), fixd (.bool true), fixd (.bool true), fixd (.bool true), fixd (.int .u64 lx), fixd (.int .u64 lx), fixd (.bool true), fixd (.bool true), fixd (.bool true), fixd (.bool bb), fixd (.bool bb), fixd (.bool true), fixd (.bool true), fixd (.bool true), fixd (.bool true), fixd (.bool true)] (by kernel_rfl) (by kernel_rfl) ?_
    simp only [List.take_succ_cons, List.take_zero, List.drop_succ_cons, List.drop_zero]
    try simp only [Act.put, List.setIfInBounds_toArray, List.set_cons_succ, List.set_cons_zero, List.nil_append, List.cons_append]
    apply wpGrowV_fix (.agg pl.toArray) rfl rfl
    · intro W hb hF
      rw [exec_load_blkG 27 _ rfl w.heap.size rfl 27 pl _ (hP5.out.below hb) Tryz.underlying27 rfl (by rw [hpl]; kernel_rfl)]
      exact ⟨rfl, xrefl W⟩
    try simp only [Act.put, List.setIfInBounds_toArray, List.set_cons_succ, List.set_cons_zero, List.nil_append, List.cons_append]
    apply wpGrowV_fix (.int .i64 nk) rfl rfl
    · intro W hb hF
      go_simp
      go_at_call 14
      refine (hck.out W hb).mono ?_
      rintro e w' ⟨rfl, hb'⟩
      exact ⟨rfl, hb'⟩
    try simp only [Act.put, List.setIfInBounds_toArray, List.set_cons_succ, List.set_cons_zero, List.nil_append, List.cons_append]
    apply wpGrowV_fix (.int .i64 nk) rfl rfl
    · intro W hb hF
      go_simp
      go_at_call 13
      refine (num_anyP nk W).mono ?_
      rintro e w' ⟨rfl, rfl⟩
      exact ⟨rfl, xrefl _⟩
    try simp only [Act.put, List.setIfInBounds_toArray, List.set_cons_succ, List.set_cons_zero, List.nil_append, List.cons_append]
    apply wpGrowV_fix (.agg pl.toArray) rfl rfl
    · intro W hb hF
      rw [exec_load_blkG 27 _ rfl w.heap.size rfl 27 pl _ (hP5.out.below hb) Tryz.underlying27 rfl (by rw [hpl]; kernel_rfl)]
      exact ⟨rfl, xrefl W⟩
    try simp only [Act.put, List.setIfInBounds_toArray, List.set_cons_succ, List.set_cons_zero, List.nil_append, List.cons_append]
    apply wpGrowV_fix (.int .i64 nk) rfl rfl
    · intro W hb hF
      go_simp
      go_at_call 15
      refine (hrc.out W hb).mono ?_
      rintro e w' ⟨rfl, hb'⟩
      exact ⟨rfl, hb'⟩
    try simp only [Act.put, List.setIfInBounds_toArray, List.set_cons_succ, List.set_cons_zero, List.nil_append, List.cons_append]
    apply wpGrowV_fix (.bool true) rfl rfl
    · intro W hb hF
      go_simp
      first | exact xrefl W | exact ⟨rfl, xrefl W⟩ | exact ⟨by omega, xrefl W⟩
    try simp only [Act.put, List.setIfInBounds_toArray, List.set_cons_succ, List.set_cons_zero, List.nil_append, List.cons_append]
    apply wpGrowV_fix (.bool true) rfl rfl
    · intro W hb hF
      go_simp
      first | exact xrefl W | exact ⟨rfl, xrefl W⟩ | exact ⟨by omega, xrefl W⟩
    try simp only [Act.put, List.setIfInBounds_toArray, List.set_cons_succ, List.set_cons_zero, List.nil_append, List.cons_append]
    apply wpGrowV_fix (.agg pl.toArray) rfl rfl
    · intro W hb hF
      rw [exec_load_blkG 27 _ rfl w.heap.size rfl 27 pl _ (hP5.out.below hb) Tryz.underlying27 rfl (by rw [hpl]; kernel_rfl)]
      exact ⟨rfl, xrefl W⟩
    try simp only [Act.put, List.setIfInBounds_toArray, List.set_cons_succ, List.set_cons_zero, List.nil_append, List.cons_append]
    apply wpGrowV_fix (.agg la.toArray) rfl rfl
    · intro W hb hF
      rw [exec_load_blkG 29 _ rfl (w.heap.size + 1) rfl 29 la _ (hA5.out.below hb) Tryz.underlying29 rfl (by rw [hla]; kernel_rfl)]
      exact ⟨rfl, xrefl W⟩
    try simp only [Act.put, List.setIfInBounds_toArray, List.set_cons_succ, List.set_cons_zero, List.nil_append, List.cons_append]
    apply wpGrowV_fix (.int .u64 lc) rfl rfl
    · intro W hb hF
      go_simp
      go_at_call 16
      refine (hcl.out W hb).mono ?_
      rintro e w' ⟨rfl, hb'⟩
      exact ⟨rfl, hb'⟩
    try simp only [Act.put, List.setIfInBounds_toArray, List.set_cons_succ, List.set_cons_zero, List.nil_append, List.cons_append]
    apply wpGrowV_fix (.agg pl.toArray) rfl rfl
    · intro W hb hF
      rw [exec_load_blkG 27 _ rfl w.heap.size rfl 27 pl _ (hP5.out.below hb) Tryz.underlying27 rfl (by rw [hpl]; kernel_rfl)]
      exact ⟨rfl, xrefl W⟩
    try simp only [Act.put, List.setIfInBounds_toArray, List.set_cons_succ, List.set_cons_zero, List.nil_append, List.cons_append]
    apply wpGrowV_fix (.agg la.toArray) rfl rfl
    · intro W hb hF
      rw [exec_load_blkG 29 _ rfl (w.heap.size + 1) rfl 29 la _ (hA5.out.below hb) Tryz.underlying29 rfl (by rw [hla]; kernel_rfl)]
      exact ⟨rfl, xrefl W⟩
    try simp only [Act.put, List.setIfInBounds_toArray, List.set_cons_succ, List.set_cons_zero, List.nil_append, List.cons_append]
    apply wpGrowV_fix (.int .u64 lc) rfl rfl
    · intro W hb hF
      go_simp
      go_at_call 17
      refine (hrl.out W hb).mono ?_
      rintro e w' ⟨rfl, hb'⟩
      exact ⟨rfl, hb'⟩
    try simp only [Act.put, List.setIfInBounds_toArray, List.set_cons_succ, List.set_cons_zero, List.nil_append, List.cons_append]
    apply wpGrowV_fix (.bool true) rfl rfl
    · intro W hb hF
      go_simp
      first | exact xrefl W | exact ⟨rfl, xrefl W⟩ | exact ⟨by omega, xrefl W⟩
    try simp only [Act.put, List.setIfInBounds_toArray, List.set_cons_succ, List.set_cons_zero, List.nil_append, List.cons_append]
    apply wpGrowV_fix (.bool true) rfl rfl
    · intro W hb hF
      go_simp
      first | exact xrefl W | exact ⟨rfl, xrefl W⟩ | exact ⟨by omega, xrefl W⟩
    try simp only [Act.put, List.setIfInBounds_toArray, List.set_cons_succ, List.set_cons_zero, List.nil_append, List.cons_append]
    apply wpGrowV_fix (.bool true) rfl rfl
    · intro W hb hF
      go_simp
      first | exact xrefl W | exact ⟨rfl, xrefl W⟩ | exact ⟨by omega, xrefl W⟩
    try simp only [Act.put, List.setIfInBounds_toArray, List.set_cons_succ, List.set_cons_zero, List.nil_append, List.cons_append]
    apply wpGrowV_fix (.int .u64 lx) rfl rfl
    · intro W hb hF
      go_simp
      first | exact xrefl W | exact ⟨rfl, xrefl W⟩ | exact ⟨by omega, xrefl W⟩
    try simp only [Act.put, List.setIfInBounds_toArray, List.set_cons_succ, List.set_cons_zero, List.nil_append, List.cons_append]
    apply wpGrowV_fix (.int .u64 lx) rfl rfl
    · intro W hb hF
      go_simp
      first | exact xrefl W | exact ⟨rfl, xrefl W⟩ | exact ⟨by omega, xrefl W⟩
    try simp only [Act.put, List.setIfInBounds_toArray, List.set_cons_succ, List.set_cons_zero, List.nil_append, List.cons_append]
    apply wpGrowV_fix (.bool true) rfl rfl
    · intro W hb hF
      go_simp
      first | exact xrefl W | exact ⟨rfl, xrefl W⟩ | exact ⟨by omega, xrefl W⟩
    try simp only [Act.put, List.setIfInBounds_toArray, List.set_cons_succ, List.set_cons_zero, List.nil_append, List.cons_append]
    apply wpGrowV_fix (.bool true) rfl rfl
    · intro W hb hF
      go_simp
      first | exact xrefl W | exact ⟨rfl, xrefl W⟩ | exact ⟨by omega, xrefl W⟩
    try simp only [Act.put, List.setIfInBounds_toArray, List.set_cons_succ, List.set_cons_zero, List.nil_append, List.cons_append]
    apply wpGrowV_fix (.bool true) rfl rfl
    · intro W hb hF
      go_simp
      first | exact xrefl W | exact ⟨rfl, xrefl W⟩ | exact ⟨by omega, xrefl W⟩
    try simp only [Act.put, List.setIfInBounds_toArray, List.set_cons_succ, List.set_cons_zero, List.nil_append, List.cons_append]
    apply wpGrowV_fix (.bool bb) rfl rfl
    · intro W hb hF
      go_simp
      first | exact xrefl W | exact ⟨rfl, xrefl W⟩ | exact ⟨by omega, xrefl W⟩
    try simp only [Act.put, List.setIfInBounds_toArray, List.set_cons_succ, List.set_cons_zero, List.nil_append, List.cons_append]
    apply wpGrowV_fix (.bool bb) rfl rfl
    · intro W hb hF
      go_simp
      first | exact xrefl W | exact ⟨rfl, xrefl W⟩ | exact ⟨by omega, xrefl W⟩
    try simp only [Act.put, List.setIfInBounds_toArray, List.set_cons_succ, List.set_cons_zero, List.nil_append, List.cons_append]
    apply wpGrowV_fix (.bool true) rfl rfl
    · intro W hb hF
      go_simp
      first | exact xrefl W | exact ⟨rfl, xrefl W⟩ | exact ⟨by omega, xrefl W⟩
    try simp only [Act.put, List.setIfInBounds_toArray, List.set_cons_succ, List.set_cons_zero, List.nil_append, List.cons_append]
    apply wpGrowV_fix (.bool true) rfl rfl
    · intro W hb hF
      go_simp
      first | exact xrefl W | exact ⟨rfl, xrefl W⟩ | exact ⟨by omega, xrefl W⟩
    try simp only [Act.put, List.setIfInBounds_toArray, List.set_cons_succ, List.set_cons_zero, List.nil_append, List.cons_append]
    apply wpGrowV_fix (.bool true) rfl rfl
    · intro W hb hF
      go_simp
      first | exact xrefl W | exact ⟨rfl, xrefl W⟩ | exact ⟨by omega, xrefl W⟩
    try simp only [Act.put, List.setIfInBounds_toArray, List.set_cons_succ, List.set_cons_zero, List.nil_append, List.cons_append]
    apply wpGrowV_fix (.bool true) rfl rfl
    · intro W hb hF
      go_simp
      go_at_call 10
      refine (hwk.out W hb).mono ?_
      rintro e w' ⟨rfl, hb'⟩
      exact ⟨rfl, hb'⟩
    try simp only [Act.put, List.setIfInBounds_toArray, List.set_cons_succ, List.set_cons_zero, List.nil_append, List.cons_append]
    apply wpGrowV_fix (.bool true) rfl rfl
    · intro W hb hF
      go_simp
      first | exact xrefl W | exact ⟨rfl, xrefl W⟩ | exact ⟨by omega, xrefl W⟩
    try simp only [Act.put, List.setIfInBounds_toArray, List.set_cons_succ, List.set_cons_zero, List.nil_append, List.cons_append]
    refine wpGrowV_nil fun w6 hb6 _ => ?_
    replace hb6 := Lib.hid (xtrans hb0.out hb6)
    go_wp2
    go_ret
    exact ⟨rfl, hb6.out⟩
  · rw [decide_eq_false hf] at hfw
    replace hfw := Lib.hid hfw
    clear hf hck0 hrc0 hcl0 hrl0 htg0 hrt0
    go_enter Tryz.func3, Tryz.ntmps3
    go_upto_region 1 with fail
    generalize (w.alloc (.cells pl.toArray 27)).alloc (.cells la.toArray 29) = w1 at *
    go_wp2_with (first
      | (refine wpList_load_blkG rfl 27 _ rfl w.heap.size rfl 27 pl _ hP0.out Tryz.underlying27 rfl (by rw [hpl]; kernel_rfl) ?_)
      | (go_at_call 9; refine (hfw.out _).mono ?_; rintro e w2 ⟨rfl, hb2⟩; replace hb0 := Lib.hid (xtrans hb0.out hb2); clear hb2)
      | (go_at_call 10; refine (hwk0.out _ hb0.out).mono ?_; rintro e w3 ⟨rfl, hb3⟩; replace hb3 := Lib.hid (xtrans hb0.out hb3)))
    go_ret
    exact ⟨rfl, hb3.out⟩
theorem one_adr (zs : List Int) (hl : zs.length = 20) (hw : ∀ z ∈ zs, (Lit.int .u8 z).wf = true) : ∃ a, Adr a ∧ zs.map (Value.int .u8) = adrC a := by
  have hb : ∀ z ∈ zs, 0 ≤ z ∧ z ≤ 255 := fun z hz => by
    have := hw z hz
    simp [Lit.wf, IntKind.min, IntKind.max, IntKind.signed, IntKind.bits] at this
    exact ⟨by omega, by omega⟩
  refine ⟨zs.map Int.toNat, ⟨by rw [List.length_map]; exact hl, fun b hb' => ?_⟩, ?_⟩
  · obtain ⟨z, hz, rfl⟩ := List.mem_map.1 hb'
    have := hb z hz
    omega
  · unfold adrC natI
    rw [List.map_map, List.map_map]
    refine List.map_congr_left fun z hz => ?_
    have := hb z hz
    show Value.int .u8 z = Value.int .u8 ((z.toNat : Nat) : Int)
    congr 1; omega
/-- The law's walk. -/
theorem policyChecks_walk (p : PolN) (pa : Option Addr) (pc : Nat) (pb : Option Addr) (pd : Nat) (z1 : List Int) (x2 : Int) (w : World) (hp : PolAt w p pa pc pb pd) (hl1 : z1.length = 20) (hw1 : ∀ z ∈ z1, (Lit.int .u8 z).wf = true) (hx : 0 ≤ x2 ∧ x2 ≤ 4294967295) (hT : TabP w) :
    Calls Tryz.prog 3 #[polV p pa pc pb pd, .agg (z1.map (Value.int .u8)).toArray, .int .u32 x2] w (Yes w) := by
  obtain ⟨ad, had, e⟩ := one_adr z1 hl1 hw1
  obtain ⟨en, rfl⟩ : ∃ en : Nat, x2 = en := ⟨x2.toNat, by omega⟩
  rw [e]
  exact checks_go p pa pb pc pd ad had en w hp hT
end Go.Proofs.YthpallkphamobaaGreatDoor
