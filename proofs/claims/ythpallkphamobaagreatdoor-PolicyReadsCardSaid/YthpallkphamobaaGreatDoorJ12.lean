/- Texts of this claim, merged; no condition. -/
import Derived.Test.YthpallkphamobaaGreatDoorJ11
set_option linter.all false
namespace Go.Proofs.YthpallkphamobaaGreatDoor
open Go.RowKit Go.Shelf

theorem list20 {α : Type} (a : List α) (h : a.length = 20) : ∃ b0 b1 b2 b3 b4 b5 b6 b7 b8 b9 b10 b11 b12 b13 b14 b15 b16 b17 b18 b19, a = [b0, b1, b2, b3, b4, b5, b6, b7, b8, b9, b10, b11, b12, b13, b14, b15, b16, b17, b18, b19] := by
  match a, h with
  | [b0, b1, b2, b3, b4, b5, b6, b7, b8, b9, b10, b11, b12, b13, b14, b15, b16, b17, b18, b19], _ => exact ⟨b0, b1, b2, b3, b4, b5, b6, b7, b8, b9, b10, b11, b12, b13, b14, b15, b16, b17, b18, b19, rfl⟩
theorem built_rel (a : List Nat) (e : Nat) (t : BitVec 64) (h : a.length = 20) : Tryz.prog.built 67 [(0, adrV a), (1, .int .u32 e), (2, labV t)] = some (relC (a, e, t)).toArray := by
  obtain ⟨b0, b1, b2, b3, b4, b5, b6, b7, b8, b9, b10, b11, b12, b13, b14, b15, b16, b17, b18, b19, rfl⟩ := list20 a h
  clear h
  kernel_rfl
theorem wpList_build {P : Program} {ops : Array Oper} {rest : List Oper} {o : Oper} {ac : Act} {w : World} {Q : Exit → Act → World → Prop} (hgd : o.guard = none) (t : TypeId) (parts : Array (Nat × Operand)) (ho : o.op = .build t parts) (vals : List (Nat × Value)) (hv : parts.toList.map (fun p => (p.1, ac.eval p.2)) = vals) (cells : Array Value) (hb : P.built t vals = some cells)
    (h : wpList P ops Q rest (ac.put o.dst (.agg cells)) w) : wpList P ops Q (o :: rest) ac w :=
  wpList_exec hgd (.agg cells) (by
    have hr := run_build (P := P) w t (parts.map fun p => (p.1, ac.eval p.2)) cells (by rw [Array.toList_map, hv]; exact hb)
    unfold execOp
    simp only [ho, hr, Sem.run_bind, Sem.run_pure, Result.andThen_ok]) h
set_option maxRecDepth 100000 in
set_option maxHeartbeats 4000000 in
theorem target1_any (x : List Nat × Nat × BitVec 64) (a : List Nat) (en : Nat) (pa pe : Nat) (w : World) (hx : Adr x.1) (ha : Adr a) (hA : BlkG w pa 29 (adrC a)) (hE : w.cell? ⟨pe, 0, none⟩ = some (.int .u32 en)) :
    Calls Tryz.prog 39 (#[.agg (relC x).toArray] ++ #[.pointer (some ⟨pa, 0, none⟩), .pointer (some ⟨pe, 0, none⟩)]) w fun e w' => e = .returned (.bool (decide (x.1 = a ∧ x.2.1 = en))) ∧ Below w.heap.size w w' := by
  have hbe : Below w.heap.size w (w.alloc (.cells (relC x).toArray 67)) := xalloc (xrefl w) _
  have hX := BlkG.new w 67 (relC x)
  have hXr := Lib.hid (BlkG.range hX)
  have cL := blk_cell hX (ent_get x.1 hx.len x.2.1 x.2.2).2
  have hAr := Lib.hid (BlkG.range (hA.below hbe))
  have cE := cbel hbe hE
  have heq := eql_rel x (a, en, x.2.2) hx ha
  have hd : decide (x = (a, en, x.2.2)) = decide (x.1 = a ∧ x.2.1 = en) := by
    rw [Bool.eq_iff_iff, decide_eq_true_eq, decide_eq_true_eq]
    obtain ⟨x1, x2, x3⟩ := x
    simp
  rw [hd] at heq
  have hlx := relC_len hx
  have hA20 : (adrC a).length = 20 := by rw [adrC_len, ha.len]
  replace hbe := Lib.hid hbe
  clear hA hX hE hd
  go_enter Tryz.func39, Tryz.ntmps39
  go_wp2_with (first
    | (refine wpList_load_mid rfl 67 _ rfl w.heap.size 0 rfl (relC x) _ hXr.out Tryz.underlying67 rfl (by rw [hlx]; kernel_rfl) ?_)
    | (refine wpList_load_mid rfl 29 _ rfl pa 0 rfl (adrC a) _ hAr.out Tryz.underlying29 rfl (by rw [adrC_len, ha.len]; kernel_rfl) ?_)
    | (refine wpList_build rfl 67 _ rfl [(0, adrV a), (1, .int .u32 en), (2, labV x.2.2)] rfl _ (built_rel a en x.2.2 ha.len) ?_))
  go_ret
  exact ⟨by simp, hbe.out⟩
set_option maxRecDepth 100000 in
set_option maxHeartbeats 4000000 in
theorem target_any (p : PolN) (a : List Nat) (en : Nat) (pa pb : Option Addr) (c d : Nat) (w : World) (hp : PolAt w p pa c pb d) (ha : Adr a) (hl : p.rels.length ≤ 1000000) :
    Calls Tryz.prog 11 #[polV p pa c pb d, adrV a, .int .u32 en] w fun e w' => e = .returned (tgtV (targetF p a en)) ∧ Below w.heap.size w w' := by
  have hbe : Below w.heap.size w (((w.alloc (.cells #[labV p.dflt, .slice pa p.clears.length c, .slice pb p.rels.length d] 27)).alloc (.cells (adrC a).toArray 29)).alloc (.cells #[.int .u32 en] 30)) := xalloc (xalloc (xalloc (xrefl w) _) _) _
  have hA : BlkG (((w.alloc (.cells #[labV p.dflt, .slice pa p.clears.length c, .slice pb p.rels.length d] 27)).alloc (.cells (adrC a).toArray 29)).alloc (.cells #[.int .u32 en] 30)) (w.heap.size + 1) 29 (adrC a) := by
    have := (BlkG.new (w.alloc (.cells #[labV p.dflt, .slice pa p.clears.length c, .slice pb p.rels.length d] 27)) 29 (adrC a)).below (xalloc (xrefl _) (.cells #[.int .u32 en] 30))
    rwa [World.size_alloc] at this
  have hE : BlkG (((w.alloc (.cells #[labV p.dflt, .slice pa p.clears.length c, .slice pb p.rels.length d] 27)).alloc (.cells (adrC a).toArray 29)).alloc (.cells #[.int .u32 en] 30)) (w.heap.size + 1 + 1) 30 [.int .u32 en] := by
    have := BlkG.new ((w.alloc (.cells #[labV p.dflt, .slice pa p.clears.length c, .slice pb p.rels.length d] 27)).alloc (.cells (adrC a).toArray 29)) 30 [.int .u32 en]
    rwa [World.size_alloc, World.size_alloc] at this
  have hP : BlkG (((w.alloc (.cells #[labV p.dflt, .slice pa p.clears.length c, .slice pb p.rels.length d] 27)).alloc (.cells (adrC a).toArray 29)).alloc (.cells #[.int .u32 en] 30)) w.heap.size 27 [labV p.dflt, .slice pa p.clears.length c, .slice pb p.rels.length d] := (BlkG.new w _ _).below (xalloc (xalloc (xrefl _) _) _)
  have cP1 := hP.cell 2 (by simp)
  simp only [List.getElem_cons_succ, List.getElem_cons_zero] at cP1
  have cE := hE.cell 0 (by simp)
  simp only [List.getElem_cons_zero] at cE
  have hfi := Lib.hid (first_relC_any p.rels (fun x => decide (x.1 = a ∧ x.2.1 = en)) 39 #[.pointer (some ⟨w.heap.size + 1, 0, none⟩), .pointer (some ⟨w.heap.size + 1 + 1, 0, none⟩)] (enters_of Tryz.func39 (by kernel_rfl) rfl) pb d _ (hp.re.below hbe) hl (rows_lenR _ fun x hx => hp.ok.adrR hx) relC_one
    (fun x hx W hW => target1_any x a en (w.heap.size + 1) (w.heap.size + 1 + 1) W (hp.ok.adrR hx) ha (hA.below hW) (cbel hW cE)))
  have hmf : ∀ (fn : Fn) (first cap : Array Value) (w : World), (Instr.makeFunc fn first cap).run Tryz.prog w = .ok (.func fn first cap) w := fun _ _ _ _ => rfl
  have hcl : targetF p a en = (p.rels.find? fun x => decide (x.1 = a ∧ x.2.1 = en)).map (·.2.2) := rfl
  rw [hcl]
  unfold polV adrV
  have hrow : ∀ o : Option (List Nat × Nat × BitVec 64), (∀ x, o = some x → x ∈ p.rels) → (fir_relC o).length = 22 ∧ (fir_relC o).all (·.oneCell') = true ∧ (fir_relC o)[21]? = some (labV ((o.map (·.2.2)).getD 0)) := fun o ho => by
    cases o with
    | none => exact ⟨rfl, by decide, by kernel_rfl⟩
    | some x =>
      have hx := hp.ok.adrR (ho x rfl)
      exact ⟨relC_len hx, relC_one x, (ent_get x.1 hx.len x.2.1 x.2.2).2⟩
  obtain ⟨h22, hone, h21⟩ := hrow _ fun x hx => List.mem_of_find?_eq_some hx
  generalize (p.rels.find? fun x => decide (x.1 = a ∧ x.2.1 = en)) = O at *
  replace hbe := Lib.hid hbe
  clear hA hp hE hP hrow hcl
  go_enter Tryz.func11, Tryz.ntmps11
  go_wp2_with (first
    | (go_at_call 38; refine hfi.out.mono ?_; rintro e w2 ⟨rfl, hb2⟩; replace hb2 := Lib.hid (xtrans hbe.out hb2))
    | (refine wpList_store_blkG rfl 67 _ _ rfl w2.heap.size rfl 67 zrelC (fir_relC O) (BlkG.new w2 _ _) rfl (by rw [h22]; rfl) (by rw [h22]; kernel_rfl) hone ?_; intro w3 hB3 ho3; have hb3 := ho3.below (xalloc (xrefl w2) _) (xalloc (xrefl w2) (.cells zrelC.toArray 67)).size (by rintro k rfl; exact Nat.le_refl _); have cL3 := blk_cell hB3 h21; replace hb3 := Lib.hid (xtrans hb2.out hb3); clear hB3 ho3))
  go_ret2
  exact ⟨by unfold tgtV; simp, hb3.out⟩
set_option maxRecDepth 100000 in
set_option maxHeartbeats 4000000 in
theorem right3_any (p : PolN) (x : List Nat × Nat × BitVec 64) (pp : Nat) (pa pb : Option Addr) (c d : Nat) (w : World) (hC : PolAt w p pa c pb d) (hx : Adr x.1) (hlc : p.clears.length ≤ 1000000) (hP : BlkG w pp 27 [labV p.dflt, .slice pa p.clears.length c, .slice pb p.rels.length d]) :
    Calls Tryz.prog 79 (#[.agg (relC x).toArray] ++ #[.pointer (some ⟨pp, 0, none⟩)]) w fun e w' => e = .returned (.bool (!okR p x)) ∧ Below w.heap.size w w' := by
  have hbe : Below w.heap.size w (w.alloc (.cells (relC x).toArray 67)) := xalloc (xrefl w) _
  have hX := BlkG.new w 67 (relC x)
  have hXr := Lib.hid (BlkG.range hX)
  have cX := Lib.hid (blk_cell hX (ent_get x.1 hx.len x.2.1 x.2.2).2)
  have hPr := Lib.hid (BlkG.range (hP.below hbe))
  replace hC := Lib.hid (hC.below hbe)
  replace hbe := Lib.hid hbe
  replace hx := Lib.hid hx
  clear hP hX
  go_enter Tryz.func79, Tryz.ntmps79
  go_wp2
  generalize w.alloc (.cells (relC x).toArray 67) = w2 at *
  refine' wp_region_growL 8 [fixd (.pointer (some ⟨w.heap.size, 21, none⟩)), fixd (labV x.2.2), fixd (polV p pa c pb d), fixd (.pointer (some ⟨w.heap.size, 0, none⟩)), fixd (adrV x.1), fixd (labV (clearF p x.1)), fixd (.bool (okR p x)), fixd (.bool (!okR p x))] (by kernel_rfl) (by kernel_rfl) ?_
  simp only [List.take_succ_cons, List.take_zero, List.drop_succ_cons, List.drop_zero]
  try simp only [Act.put, List.setIfInBounds_toArray, List.set_cons_succ, List.set_cons_zero, List.nil_append, List.cons_append]
  apply wpGrowV_fix (.pointer (some ⟨w.heap.size, 21, none⟩)) rfl rfl
  · intro W hb hF
    go_simp
    first | exact xrefl W | exact ⟨rfl, xrefl W⟩
  try simp only [Act.put, List.setIfInBounds_toArray, List.set_cons_succ, List.set_cons_zero, List.nil_append, List.cons_append]
  apply wpGrowV_fix (labV x.2.2) rfl rfl
  · intro W hb hF
    have c := cbel hb cX.out
    go_simp
    first | exact xrefl W | exact ⟨rfl, xrefl W⟩
  try simp only [Act.put, List.setIfInBounds_toArray, List.set_cons_succ, List.set_cons_zero, List.nil_append, List.cons_append]
  apply wpGrowV_fix (polV p pa c pb d) rfl rfl
  · intro W hb hF
    rw [run_load_midV 27 _ rfl (pp) (0) rfl ([labV p.dflt, .slice pa p.clears.length c, .slice pb p.rels.length d]) _ (fun j v hj => cbel hb (hPr.out j v hj)) Tryz.underlying27 rfl (by kernel_rfl)]
    exact ⟨rfl, xrefl W⟩
  try simp only [Act.put, List.setIfInBounds_toArray, List.set_cons_succ, List.set_cons_zero, List.nil_append, List.cons_append]
  apply wpGrowV_fix (.pointer (some ⟨w.heap.size, 0, none⟩)) rfl rfl
  · intro W hb hF
    go_simp
    first | exact xrefl W | exact ⟨rfl, xrefl W⟩
  try simp only [Act.put, List.setIfInBounds_toArray, List.set_cons_succ, List.set_cons_zero, List.nil_append, List.cons_append]
  apply wpGrowV_fix (adrV x.1) rfl rfl
  · intro W hb hF
    rw [run_load_midV 29 _ rfl (w.heap.size) (0) rfl (adrC x.1) _ (fun j v hj => cbel hb (hXr.out j v (pre_get hj))) Tryz.underlying29 rfl (by rw [adrC_len, hx.out.len]; kernel_rfl)]
    exact ⟨rfl, xrefl W⟩
  try simp only [Act.put, List.setIfInBounds_toArray, List.set_cons_succ, List.set_cons_zero, List.nil_append, List.cons_append]
  apply wpGrowV_fix (labV (clearF p x.1)) rfl rfl
  · intro W hb hF
    go_simp
    go_at_call 16
    refine (clearance_any p x.1 pa pb c d W (hC.out.below hb) hx.out hlc).mono ?_
    rintro e w' ⟨rfl, hb'⟩
    exact ⟨rfl, hb'⟩
  try simp only [Act.put, List.setIfInBounds_toArray, List.set_cons_succ, List.set_cons_zero, List.nil_append, List.cons_append]
  apply wpGrowV_fix (.bool (okR p x)) rfl rfl
  · intro W hb hF
    go_simp
    go_at_call 80
    refine (below_any x.2.2 (clearF p x.1) W).mono ?_
    rintro e w' ⟨rfl, rfl⟩
    exact ⟨rfl, xrefl _⟩
  try simp only [Act.put, List.setIfInBounds_toArray, List.set_cons_succ, List.set_cons_zero, List.nil_append, List.cons_append]
  apply wpGrowV_fix (.bool (!okR p x)) rfl rfl
  · intro W hb hF
    go_simp
    first | exact xrefl W | exact ⟨rfl, xrefl W⟩
  try simp only [Act.put, List.setIfInBounds_toArray, List.set_cons_succ, List.set_cons_zero, List.nil_append, List.cons_append]
  intro W hbW _
  go_wp2
  go_ret
  exact ⟨rfl, xtrans hbe.out hbW⟩
end Go.Proofs.YthpallkphamobaaGreatDoor
