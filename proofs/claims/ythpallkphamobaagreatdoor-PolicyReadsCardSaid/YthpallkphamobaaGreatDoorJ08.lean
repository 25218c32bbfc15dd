/- Texts of this claim, merged; no condition. -/
import Derived.Test.YthpallkphamobaaGreatDoorJ07
import Derived.Test.YthpallkphamobaaGreatDoorJ04
set_option linter.all false
namespace Go.Proofs.YthpallkphamobaaGreatDoor
open Go.RowKit Go.Shelf

theorem pre_get {α : Type} {l m : List α} {j : Nat} {v : α} (h : l[j]? = some v) : (l ++ m)[j]? = some v := by
  obtain ⟨hl, rfl⟩ := List.getElem?_eq_some_iff.1 h
  rw [List.getElem?_append_left hl, List.getElem?_eq_getElem hl]
theorem lab_get (a : List Nat) (h : a.length = 20) (x : BitVec 64) : (clearC (a, x))[20]? = some (labV x) := by
  unfold clearC
  rw [List.getElem?_append_right (by rw [adrC_len, h]; exact Nat.le_refl _), adrC_len, h]
  rfl
theorem clear_step {cl : List (List Nat × BitVec 64)} {i : Nat} (hi : i < cl.length) (a : List Nat) (d : BitVec 64) : (((cl.drop i).find? fun x => decide (x.1 = a)).map (·.2)).getD d = if cl[i].1 = a then cl[i].2 else (((cl.drop (i + 1)).find? fun x => decide (x.1 = a)).map (·.2)).getD d := by
  rw [List.drop_eq_getElem_cons hi, List.find?_cons]
  by_cases h : cl[i].1 = a
  · simp [h]
  · simp [h]
set_option maxRecDepth 100000 in
set_option maxHeartbeats 8000000 in
theorem refClearance_any (p : PolN) (a : List Nat) (pa pb : Option Addr) (c d : Nat) (w : World) (hp : PolAt w p pa c pb d) (ha : Adr a) (hl : p.clears.length ≤ 1000000) :
    Calls Tryz.prog 17 #[polV p pa c pb d, adrV a] w fun e w' => e = .returned (labV (clearF p a)) ∧ Below w.heap.size w w' := by
  have hbe : Below w.heap.size w ((w.alloc (.cells #[labV p.dflt, .slice pa p.clears.length c, .slice pb p.rels.length d] 27)).alloc (.cells (adrC a).toArray 29)) := xalloc (xalloc (xrefl w) _) _
  have hA : BlkG ((w.alloc (.cells #[labV p.dflt, .slice pa p.clears.length c, .slice pb p.rels.length d] 27)).alloc (.cells (adrC a).toArray 29)) (w.heap.size + 1) 29 (adrC a) := by
    have := BlkG.new (w.alloc (.cells #[labV p.dflt, .slice pa p.clears.length c, .slice pb p.rels.length d] 27)) 29 (adrC a)
    rwa [World.size_alloc] at this
  have hP : BlkG ((w.alloc (.cells #[labV p.dflt, .slice pa p.clears.length c, .slice pb p.rels.length d] 27)).alloc (.cells (adrC a).toArray 29)) w.heap.size 27 [labV p.dflt, .slice pa p.clears.length c, .slice pb p.rels.length d] := (BlkG.new w _ _).below (xalloc (xrefl _) _)
  have hC := hp.cl.below hbe
  have hok := Lib.hid hp.ok.c
  have h20 := ha.len
  have hend : Hid ((((p.clears.drop p.clears.length).find? fun x => decide (x.1 = a)).map (·.2)).getD p.dflt = p.dflt) := Lib.hid (by rw [List.drop_length]; rfl)
  have hst : Hid (clearF p a = (((p.clears.drop 0).find? fun x => decide (x.1 = a)).map (·.2)).getD p.dflt) := Lib.hid rfl
  have hstep := Lib.hid fun i (hi : i < p.clears.length) => clear_step hi a p.dflt
  unfold polV
  unfold adrV
  go_enter Tryz.func17, Tryz.ntmps17
  go_wp2
  generalize (w.alloc (.cells #[labV p.dflt, .slice pa p.clears.length c, .slice pb p.rels.length d] 27)).alloc (.cells (adrC a).toArray 29) = w2 at *
  replace hA := Lib.hid hA
  replace hP := Lib.hid hP
  replace hC := Lib.hid hC
  replace hbe := Lib.hid hbe
  go_loopw [5] (fun iv wr => ∃ i : Nat, iv = .int .i64 i ∧ i ≤ p.clears.length ∧ Hid (Below w2.heap.size w2 wr) ∧ Hid (clearF p a = (((p.clears.drop i).find? fun x => decide (x.1 = a)).map (·.2)).getD p.dflt)) (fun iv _ => p.clears.length - (intOf iv).toNat)
  case atStart => exact ⟨0, rfl, by omega, Lib.hid (xrefl _), hst⟩
  case round =>
    clear hst
    obtain ⟨i, rfl, hi, hw, hs⟩ := hrel
    have cP1 := cbel hw.out (hP.out.cell 1 (by simp))
    simp only [List.getElem_cons_succ, List.getElem_cons_zero] at cP1
    by_cases hlt : i < p.clears.length
    · have hltI : (i : Int) < p.clears.length := by omega
      obtain ⟨g, o, rfl, hrow⟩ := (hC.out.below hw.out).elt i hlt
      have hq := hstep.out i hlt
      have hx20 := hok.out _ (List.getElem_mem hlt)
      rcases hxe : p.clears[i] with ⟨xa, xl⟩
      rw [hxe] at hrow hq hx20
      dsimp only at hq hx20
      have hx20 := hx20.1
      have hAr := Lib.hid (BlkG.range (BlkG.below hA.out hw.out))
      have clab := hrow 20 _ (lab_get xa hx20 xl)
      have hwi : IntKind.i64.wrap ((i : Int) + 1) = (i : Int) + 1 := by simp [IntKind.wrap, IntKind.bits, IntKind.signed]; omega
      have hcap := (hC.out.cap)
      replace hrow := Lib.hid hrow
      replace cP1 := Lib.hid cP1
      replace clab := Lib.hid clab
      by_cases heq : xa = a
      · rw [if_pos heq] at hq
        replace hs := Lib.hid (hs.out.trans hq)
        clear hq
        have cP1' := cP1.out
        go_wp2
        clear cP1'
        refine' wp_region_growL 8 [fixd (.pointer (some ⟨w.heap.size, 1, none⟩)), fixd (.slice (some ⟨g, o, none⟩) p.clears.length c), fixd (.int .i64 i), fixd (.pointer (some ⟨g, o + i * 21, none⟩)), fixd (.pointer (some ⟨g, o + i * 21, none⟩)), fixd (adrV xa), fixd (adrV a), fixd (.bool true)] (by kernel_rfl) (by kernel_rfl) ?_
        simp only [List.take_succ_cons, List.take_zero, List.drop_succ_cons, List.drop_zero]
        try simp only [Act.put, List.setIfInBounds_toArray, List.set_cons_succ, List.set_cons_zero, List.nil_append, List.cons_append]
        apply wpGrowV_fix (.pointer (some ⟨w.heap.size, 1, none⟩)) rfl rfl
        · intro W hb hF
          go_simp
          first | exact xrefl W | exact ⟨rfl, xrefl W⟩
        try simp only [Act.put, List.setIfInBounds_toArray, List.set_cons_succ, List.set_cons_zero, List.nil_append, List.cons_append]
        apply wpGrowV_fix (.slice (some ⟨g, o, none⟩) p.clears.length c) rfl rfl
        · intro W hb hF
          have c := cbel hb cP1.out
          go_simp
          first | exact xrefl W | exact ⟨rfl, xrefl W⟩
        try simp only [Act.put, List.setIfInBounds_toArray, List.set_cons_succ, List.set_cons_zero, List.nil_append, List.cons_append]
        apply wpGrowV_fix (.int .i64 i) rfl rfl
        · intro W hb hF
          go_simp
          first | exact xrefl W | exact ⟨rfl, xrefl W⟩
        try simp only [Act.put, List.setIfInBounds_toArray, List.set_cons_succ, List.set_cons_zero, List.nil_append, List.cons_append]
        apply wpGrowV_fix (.pointer (some ⟨g, o + i * 21, none⟩)) rfl rfl
        · intro W hb hF
          go_simp
          first | exact xrefl W | exact ⟨rfl, xrefl W⟩
        try simp only [Act.put, List.setIfInBounds_toArray, List.set_cons_succ, List.set_cons_zero, List.nil_append, List.cons_append]
        apply wpGrowV_fix (.pointer (some ⟨g, o + i * 21, none⟩)) rfl rfl
        · intro W hb hF
          go_simp
          first | exact xrefl W | exact ⟨rfl, xrefl W⟩
        try simp only [Act.put, List.setIfInBounds_toArray, List.set_cons_succ, List.set_cons_zero, List.nil_append, List.cons_append]
        apply wpGrowV_fix (adrV xa) rfl rfl
        · intro W hb hF
          rw [run_load_midV 29 _ rfl (g) (o + i * 21) rfl (adrC xa) _ (fun j v hj => cbel hb (hrow.out j v (pre_get hj))) Tryz.underlying29 rfl (by rw [adrC_len, hx20]; kernel_rfl)]
          exact ⟨rfl, xrefl W⟩
        try simp only [Act.put, List.setIfInBounds_toArray, List.set_cons_succ, List.set_cons_zero, List.nil_append, List.cons_append]
        apply wpGrowV_fix (adrV a) rfl rfl
        · intro W hb hF
          rw [run_load_midV 29 _ rfl (w.heap.size + 1) (0) rfl (adrC a) _ (fun j v hj => cbel hb (hAr.out j v hj)) Tryz.underlying29 rfl (by rw [adrC_len, h20]; kernel_rfl)]
          exact ⟨rfl, xrefl W⟩
        try simp only [Act.put, List.setIfInBounds_toArray, List.set_cons_succ, List.set_cons_zero, List.nil_append, List.cons_append]
        apply wpGrowV_fix (.bool true) rfl rfl
        · intro W hb hF
          unfold adrV adrC
          rw [run_eql_at 29 _ (.tmp 18) (.tmp 19) rfl 5 20 .u8 .u8 (natI xa) (natI a) rfl rfl Tryz.underlying29 Tryz.underlying5 (by kernel_rfl) (by kernel_rfl) (by kernel_rfl) (by simp [natI]; omega) (by simp [natI]; omega)]
          rw [decide_eq_true (by rw [heq])]; exact ⟨rfl, xrefl W⟩
        try simp only [Act.put, List.setIfInBounds_toArray, List.set_cons_succ, List.set_cons_zero, List.nil_append, List.cons_append]
        intro W hbW _
        have cP := cbel hbW cP1.out
        have cL := cbel hbW clab.out
        replace hw := Lib.hid (xtrans hw.out hbW)
        go_wp2
        go_ret
        exact ⟨by rw [hs.out]; rfl, xtrans hbe.out hw.out⟩
      · rw [if_neg heq] at hq
        replace hs := Lib.hid (hs.out.trans hq)
        clear hq
        have cP1' := cP1.out
        go_wp2
        clear cP1'
        refine' wp_region_growL 8 [fixd (.pointer (some ⟨w.heap.size, 1, none⟩)), fixd (.slice (some ⟨g, o, none⟩) p.clears.length c), fixd (.int .i64 i), fixd (.pointer (some ⟨g, o + i * 21, none⟩)), fixd (.pointer (some ⟨g, o + i * 21, none⟩)), fixd (adrV xa), fixd (adrV a), fixd (.bool false)] (by kernel_rfl) (by kernel_rfl) ?_
        simp only [List.take_succ_cons, List.take_zero, List.drop_succ_cons, List.drop_zero]
        try simp only [Act.put, List.setIfInBounds_toArray, List.set_cons_succ, List.set_cons_zero, List.nil_append, List.cons_append]
        apply wpGrowV_fix (.pointer (some ⟨w.heap.size, 1, none⟩)) rfl rfl
        · intro W hb hF
          go_simp
          first | exact xrefl W | exact ⟨rfl, xrefl W⟩
        try simp only [Act.put, List.setIfInBounds_toArray, List.set_cons_succ, List.set_cons_zero, List.nil_append, List.cons_append]
        apply wpGrowV_fix (.slice (some ⟨g, o, none⟩) p.clears.length c) rfl rfl
        · intro W hb hF
          have c := cbel hb cP1.out
          go_simp
          first | exact xrefl W | exact ⟨rfl, xrefl W⟩
        try simp only [Act.put, List.setIfInBounds_toArray, List.set_cons_succ, List.set_cons_zero, List.nil_append, List.cons_append]
        apply wpGrowV_fix (.int .i64 i) rfl rfl
        · intro W hb hF
          go_simp
          first | exact xrefl W | exact ⟨rfl, xrefl W⟩
        try simp only [Act.put, List.setIfInBounds_toArray, List.set_cons_succ, List.set_cons_zero, List.nil_append, List.cons_append]
        apply wpGrowV_fix (.pointer (some ⟨g, o + i * 21, none⟩)) rfl rfl
        · intro W hb hF
          go_simp
          first | exact xrefl W | exact ⟨rfl, xrefl W⟩
        try simp only [Act.put, List.setIfInBounds_toArray, List.set_cons_succ, List.set_cons_zero, List.nil_append, List.cons_append]
        apply wpGrowV_fix (.pointer (some ⟨g, o + i * 21, none⟩)) rfl rfl
        · intro W hb hF
          go_simp
          first | exact xrefl W | exact ⟨rfl, xrefl W⟩
        try simp only [Act.put, List.setIfInBounds_toArray, List.set_cons_succ, List.set_cons_zero, List.nil_append, List.cons_append]
        apply wpGrowV_fix (adrV xa) rfl rfl
        · intro W hb hF
          rw [run_load_midV 29 _ rfl (g) (o + i * 21) rfl (adrC xa) _ (fun j v hj => cbel hb (hrow.out j v (pre_get hj))) Tryz.underlying29 rfl (by rw [adrC_len, hx20]; kernel_rfl)]
          exact ⟨rfl, xrefl W⟩
        try simp only [Act.put, List.setIfInBounds_toArray, List.set_cons_succ, List.set_cons_zero, List.nil_append, List.cons_append]
        apply wpGrowV_fix (adrV a) rfl rfl
        · intro W hb hF
          rw [run_load_midV 29 _ rfl (w.heap.size + 1) (0) rfl (adrC a) _ (fun j v hj => cbel hb (hAr.out j v hj)) Tryz.underlying29 rfl (by rw [adrC_len, h20]; kernel_rfl)]
          exact ⟨rfl, xrefl W⟩
        try simp only [Act.put, List.setIfInBounds_toArray, List.set_cons_succ, List.set_cons_zero, List.nil_append, List.cons_append]
        apply wpGrowV_fix (.bool false) rfl rfl
        · intro W hb hF
          unfold adrV adrC
          rw [run_eql_at 29 _ (.tmp 18) (.tmp 19) rfl 5 20 .u8 .u8 (natI xa) (natI a) rfl rfl Tryz.underlying29 Tryz.underlying5 (by kernel_rfl) (by kernel_rfl) (by kernel_rfl) (by simp [natI]; omega) (by simp [natI]; omega)]
          rw [decide_eq_false (fun e => heq (natI_inj.1 e))]; exact ⟨rfl, xrefl W⟩
        try simp only [Act.put, List.setIfInBounds_toArray, List.set_cons_succ, List.set_cons_zero, List.nil_append, List.cons_append]
        intro W hbW _
        replace hw := Lib.hid (xtrans hw.out hbW)
        go_wp2
        exact ⟨⟨i + 1, by first | rfl | simp, by omega, hw, hs⟩, by simp [intOf]; omega⟩
    · obtain rfl : i = p.clears.length := by omega
      have hs2 := Lib.hid (hs.out.trans hend.out)
      have cP0 := cbel hw.out (hP.out.cell 0 (by simp))
      simp only [List.getElem_cons_zero] at cP0
      clear hlt
      go_wp2
      go_ret
      exact ⟨by rw [hs2.out]; rfl, xtrans hbe.out hw.out⟩
theorem ent_get (a : List Nat) (h : a.length = 20) (e : Nat) (x : BitVec 64) : (relC (a, e, x))[20]? = some (.int .u32 e) ∧ (relC (a, e, x))[21]? = some (labV x) := by
  unfold relC
  refine ⟨?_, ?_⟩
  · rw [List.getElem?_append_right (by rw [adrC_len, h]; exact Nat.le_refl _), adrC_len, h]; rfl
  · rw [List.getElem?_append_right (by rw [adrC_len, h]; omega), adrC_len, h]; rfl
def tgtV (o : Option (BitVec 64)) : Value := .tuple #[labV (o.getD 0), .bool o.isSome]
end Go.Proofs.YthpallkphamobaaGreatDoor
