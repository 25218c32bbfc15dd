/- Texts of this claim, merged; no condition. -/
import Derived.Test.YthpallkphamobaaGreatDoorJ10
set_option linter.all false
namespace Go.Proofs.YthpallkphamobaaGreatDoor
open Go.RowKit Go.Shelf

def zclearC : List Value := [.int .u8 0, .int .u8 0, .int .u8 0, .int .u8 0, .int .u8 0, .int .u8 0, .int .u8 0, .int .u8 0, .int .u8 0, .int .u8 0, .int .u8 0, .int .u8 0, .int .u8 0, .int .u8 0, .int .u8 0, .int .u8 0, .int .u8 0, .int .u8 0, .int .u8 0, .int .u8 0, .int .u64 0]
def fir_clearC (o : Option (List Nat × BitVec 64)) : List Value := match o with | some x => clearC x | none => zclearC
set_option maxRecDepth 100000 in
set_option maxHeartbeats 4000000 in
theorem first_clearC_any (l : List (List Nat × BitVec 64)) (p : (List Nat × BitVec 64) → Bool) (f : FuncId) (caps : Array Value) (he : ∀ args w, (callFunc f args).run Tryz.prog w = .ok (.enter f args) w) (a : Option Addr) (c : Nat) (w : World) (hl : RowsAt 21 clearC w a c l) (hlen : l.length ≤ 1000000) (hrow : ∀ x ∈ l, (clearC x).length = 21) (hone : ∀ x, (clearC x).all (·.oneCell') = true)
    (hf : ∀ x ∈ l, ∀ W, Below w.heap.size w W → Calls Tryz.prog f (#[.agg (clearC x).toArray] ++ caps) W fun e w' => e = .returned (.bool (p x)) ∧ Below W.heap.size W w') :
    Calls Tryz.prog 44 #[.slice a l.length c, .func (.func f) #[] caps] w fun e w' => e = .returned (.tuple #[.agg (fir_clearC (l.find? p)).toArray, .bool (l.find? p).isSome]) ∧ Below w.heap.size w w' := by
  have hb0 : Below w.heap.size w (w.alloc (.cells ([.int .u8 0, .int .u8 0, .int .u8 0, .int .u8 0, .int .u8 0, .int .u8 0, .int .u8 0, .int .u8 0, .int .u8 0, .int .u8 0, .int .u8 0, .int .u8 0, .int .u8 0, .int .u8 0, .int .u8 0, .int .u8 0, .int .u8 0, .int .u8 0, .int .u8 0, .int .u8 0, .int .u64 0] : List Value).toArray 65)) := xalloc (xrefl w) _
  have hB : BlkG (w.alloc (.cells ([.int .u8 0, .int .u8 0, .int .u8 0, .int .u8 0, .int .u8 0, .int .u8 0, .int .u8 0, .int .u8 0, .int .u8 0, .int .u8 0, .int .u8 0, .int .u8 0, .int .u8 0, .int .u8 0, .int .u8 0, .int .u8 0, .int .u8 0, .int .u8 0, .int .u8 0, .int .u8 0, .int .u64 0] : List Value).toArray 65)) w.heap.size 65 [.int .u8 0, .int .u8 0, .int .u8 0, .int .u8 0, .int .u8 0, .int .u8 0, .int .u8 0, .int .u8 0, .int .u8 0, .int .u8 0, .int .u8 0, .int .u8 0, .int .u8 0, .int .u8 0, .int .u8 0, .int .u8 0, .int .u8 0, .int .u8 0, .int .u8 0, .int .u8 0, .int .u64 0] := BlkG.new w _ _
  have hix := Lib.hid (idxclearC_any l p f caps he a c _ (hl.below hb0) hlen hrow fun x hx W hW => hf x hx W (xtrans hb0 hW))
  replace hl := Lib.hid hl
  have hu := Tryz.underlying65
  cases hfd : l.find? p with
  | none =>
    have hno : idxI p l = -1 := idxI_none p l fun j h => by
      have := List.find?_eq_none.1 hfd l[j] (List.getElem_mem h)
      simpa using this
    rw [hno] at hix
    replace hb0 := Lib.hid hb0
    replace hB := Lib.hid hB
    clear hf hrow hno hfd
    go_enter Tryz.func44, Tryz.ntmps44
    go_wp2_with (first
      | (go_at_call 82; refine hix.out.mono ?_; rintro e w2 ⟨rfl, hb2⟩; replace hB := Lib.hid (hB.out.below hb2); replace hb0 := Lib.hid (xtrans hb0.out hb2))
      | (refine wpList_load_mid rfl 65 _ rfl w.heap.size 0 rfl [.int .u8 0, .int .u8 0, .int .u8 0, .int .u8 0, .int .u8 0, .int .u8 0, .int .u8 0, .int .u8 0, .int .u8 0, .int .u8 0, .int .u8 0, .int .u8 0, .int .u8 0, .int .u8 0, .int .u8 0, .int .u8 0, .int .u8 0, .int .u8 0, .int .u8 0, .int .u8 0, .int .u64 0] _ (BlkG.range hB.out) hu rfl (by kernel_rfl) ?_)
      | (refine wpList_store_blkG rfl 65 _ _ rfl w.heap.size rfl 65 [.int .u8 0, .int .u8 0, .int .u8 0, .int .u8 0, .int .u8 0, .int .u8 0, .int .u8 0, .int .u8 0, .int .u8 0, .int .u8 0, .int .u8 0, .int .u8 0, .int .u8 0, .int .u8 0, .int .u8 0, .int .u8 0, .int .u8 0, .int .u8 0, .int .u8 0, .int .u8 0, .int .u64 0] [.int .u8 0, .int .u8 0, .int .u8 0, .int .u8 0, .int .u8 0, .int .u8 0, .int .u8 0, .int .u8 0, .int .u8 0, .int .u8 0, .int .u8 0, .int .u8 0, .int .u8 0, .int .u8 0, .int .u8 0, .int .u8 0, .int .u8 0, .int .u8 0, .int .u8 0, .int .u8 0, .int .u64 0] hB.out rfl rfl (by kernel_rfl) (by decide) ?_; intro w3 hB3 ho3; have hb3 := Lib.hid (ho3.below hb0.out hb0.out.size (by rintro k rfl; exact Nat.le_refl _)); replace hB3 := Lib.hid hB3))
    exact bodyPost_ret (results_blkG2 (p := 4) rfl _ _ w.heap.size 65 _ _ rfl hB3.out hu rfl (by kernel_rfl)) rfl ⟨rfl, hb3.out⟩
  | some x =>
    obtain ⟨hpx, i, hi, hxi, hpre⟩ := List.find?_eq_some_iff_getElem.1 hfd
    have hat : idxI p l = (i : Int) := idxI_at p l i hi (by rw [hxi]; exact hpx) fun j h hj => by have := hpre j hj; simpa using this
    rw [hat] at hix
    have hiI : (i : Int) < l.length := by omega
    have hxm : x ∈ l := hxi ▸ List.getElem_mem hi
    have hr21 := hrow x hxm
    have hone2 := hone x
    obtain ⟨g, o, rfl, hr⟩ := hl.out.elt i hi
    rw [hxi] at hr
    have hcap := hl.out.cap
    replace hr := Lib.hid hr
    replace hb0 := Lib.hid hb0
    replace hB := Lib.hid hB
    clear hf hrow hfd hpre hat hone
    go_enter Tryz.func44, Tryz.ntmps44
    go_wp2_with (first
      | (go_at_call 82; refine hix.out.mono ?_; rintro e w2 ⟨rfl, hb2⟩; replace hB := Lib.hid (hB.out.below hb2); replace hb0 := Lib.hid (xtrans hb0.out hb2))
      | (refine wpList_load_mid rfl 65 _ rfl g (o + i * 21) rfl (clearC x) _ (fun j v hj => cbel hb0.out (hr.out j v hj)) hu rfl (by rw [hr21]; kernel_rfl) ?_)
      | (refine wpList_store_blkG rfl 65 _ _ rfl w.heap.size rfl 65 [.int .u8 0, .int .u8 0, .int .u8 0, .int .u8 0, .int .u8 0, .int .u8 0, .int .u8 0, .int .u8 0, .int .u8 0, .int .u8 0, .int .u8 0, .int .u8 0, .int .u8 0, .int .u8 0, .int .u8 0, .int .u8 0, .int .u8 0, .int .u8 0, .int .u8 0, .int .u8 0, .int .u64 0] (clearC x) hB.out rfl (by rw [hr21]; rfl) (by rw [hr21]; kernel_rfl) hone2 ?_; intro w3 hB3 ho3; have hb3 := Lib.hid (ho3.below hb0.out hb0.out.size (by rintro k rfl; exact Nat.le_refl _)); replace hB3 := Lib.hid hB3))
    exact bodyPost_ret (results_blkG2 (p := 4) rfl _ _ w.heap.size 65 _ _ rfl hB3.out hu rfl (by rw [hr21]; kernel_rfl)) rfl ⟨rfl, hb3.out⟩
def zrelC : List Value := [.int .u8 0, .int .u8 0, .int .u8 0, .int .u8 0, .int .u8 0, .int .u8 0, .int .u8 0, .int .u8 0, .int .u8 0, .int .u8 0, .int .u8 0, .int .u8 0, .int .u8 0, .int .u8 0, .int .u8 0, .int .u8 0, .int .u8 0, .int .u8 0, .int .u8 0, .int .u8 0, .int .u32 0, .int .u64 0]
def fir_relC (o : Option (List Nat × Nat × BitVec 64)) : List Value := match o with | some x => relC x | none => zrelC
set_option maxRecDepth 100000 in
set_option maxHeartbeats 4000000 in
theorem first_relC_any (l : List (List Nat × Nat × BitVec 64)) (p : (List Nat × Nat × BitVec 64) → Bool) (f : FuncId) (caps : Array Value) (he : ∀ args w, (callFunc f args).run Tryz.prog w = .ok (.enter f args) w) (a : Option Addr) (c : Nat) (w : World) (hl : RowsAt 22 relC w a c l) (hlen : l.length ≤ 1000000) (hrow : ∀ x ∈ l, (relC x).length = 22) (hone : ∀ x, (relC x).all (·.oneCell') = true)
    (hf : ∀ x ∈ l, ∀ W, Below w.heap.size w W → Calls Tryz.prog f (#[.agg (relC x).toArray] ++ caps) W fun e w' => e = .returned (.bool (p x)) ∧ Below W.heap.size W w') :
    Calls Tryz.prog 38 #[.slice a l.length c, .func (.func f) #[] caps] w fun e w' => e = .returned (.tuple #[.agg (fir_relC (l.find? p)).toArray, .bool (l.find? p).isSome]) ∧ Below w.heap.size w w' := by
  have hb0 : Below w.heap.size w (w.alloc (.cells ([.int .u8 0, .int .u8 0, .int .u8 0, .int .u8 0, .int .u8 0, .int .u8 0, .int .u8 0, .int .u8 0, .int .u8 0, .int .u8 0, .int .u8 0, .int .u8 0, .int .u8 0, .int .u8 0, .int .u8 0, .int .u8 0, .int .u8 0, .int .u8 0, .int .u8 0, .int .u8 0, .int .u32 0, .int .u64 0] : List Value).toArray 67)) := xalloc (xrefl w) _
  have hB : BlkG (w.alloc (.cells ([.int .u8 0, .int .u8 0, .int .u8 0, .int .u8 0, .int .u8 0, .int .u8 0, .int .u8 0, .int .u8 0, .int .u8 0, .int .u8 0, .int .u8 0, .int .u8 0, .int .u8 0, .int .u8 0, .int .u8 0, .int .u8 0, .int .u8 0, .int .u8 0, .int .u8 0, .int .u8 0, .int .u32 0, .int .u64 0] : List Value).toArray 67)) w.heap.size 67 [.int .u8 0, .int .u8 0, .int .u8 0, .int .u8 0, .int .u8 0, .int .u8 0, .int .u8 0, .int .u8 0, .int .u8 0, .int .u8 0, .int .u8 0, .int .u8 0, .int .u8 0, .int .u8 0, .int .u8 0, .int .u8 0, .int .u8 0, .int .u8 0, .int .u8 0, .int .u8 0, .int .u32 0, .int .u64 0] := BlkG.new w _ _
  have hix := Lib.hid (idxrelC_any l p f caps he a c _ (hl.below hb0) hlen hrow fun x hx W hW => hf x hx W (xtrans hb0 hW))
  replace hl := Lib.hid hl
  have hu := Tryz.underlying67
  cases hfd : l.find? p with
  | none =>
    have hno : idxI p l = -1 := idxI_none p l fun j h => by
      have := List.find?_eq_none.1 hfd l[j] (List.getElem_mem h)
      simpa using this
    rw [hno] at hix
    replace hb0 := Lib.hid hb0
    replace hB := Lib.hid hB
    clear hf hrow hno hfd
    go_enter Tryz.func38, Tryz.ntmps38
    go_wp2_with (first
      | (go_at_call 72; refine hix.out.mono ?_; rintro e w2 ⟨rfl, hb2⟩; replace hB := Lib.hid (hB.out.below hb2); replace hb0 := Lib.hid (xtrans hb0.out hb2))
      | (refine wpList_load_mid rfl 67 _ rfl w.heap.size 0 rfl [.int .u8 0, .int .u8 0, .int .u8 0, .int .u8 0, .int .u8 0, .int .u8 0, .int .u8 0, .int .u8 0, .int .u8 0, .int .u8 0, .int .u8 0, .int .u8 0, .int .u8 0, .int .u8 0, .int .u8 0, .int .u8 0, .int .u8 0, .int .u8 0, .int .u8 0, .int .u8 0, .int .u32 0, .int .u64 0] _ (BlkG.range hB.out) hu rfl (by kernel_rfl) ?_)
      | (refine wpList_store_blkG rfl 67 _ _ rfl w.heap.size rfl 67 [.int .u8 0, .int .u8 0, .int .u8 0, .int .u8 0, .int .u8 0, .int .u8 0, .int .u8 0, .int .u8 0, .int .u8 0, .int .u8 0, .int .u8 0, .int .u8 0, .int .u8 0, .int .u8 0, .int .u8 0, .int .u8 0, .int .u8 0, .int .u8 0, .int .u8 0, .int .u8 0, .int .u32 0, .int .u64 0] [.int .u8 0, .int .u8 0, .int .u8 0, .int .u8 0, .int .u8 0, .int .u8 0, .int .u8 0, .int .u8 0, .int .u8 0, .int .u8 0, .int .u8 0, .int .u8 0, .int .u8 0, .int .u8 0, .int .u8 0, .int .u8 0, .int .u8 0, .int .u8 0, .int .u8 0, .int .u8 0, .int .u32 0, .int .u64 0] hB.out rfl rfl (by kernel_rfl) (by decide) ?_; intro w3 hB3 ho3; have hb3 := Lib.hid (ho3.below hb0.out hb0.out.size (by rintro k rfl; exact Nat.le_refl _)); replace hB3 := Lib.hid hB3))
    exact bodyPost_ret (results_blkG2 (p := 4) rfl _ _ w.heap.size 67 _ _ rfl hB3.out hu rfl (by kernel_rfl)) rfl ⟨rfl, hb3.out⟩
  | some x =>
    obtain ⟨hpx, i, hi, hxi, hpre⟩ := List.find?_eq_some_iff_getElem.1 hfd
    have hat : idxI p l = (i : Int) := idxI_at p l i hi (by rw [hxi]; exact hpx) fun j h hj => by have := hpre j hj; simpa using this
    rw [hat] at hix
    have hiI : (i : Int) < l.length := by omega
    have hxm : x ∈ l := hxi ▸ List.getElem_mem hi
    have hr21 := hrow x hxm
    have hone2 := hone x
    obtain ⟨g, o, rfl, hr⟩ := hl.out.elt i hi
    rw [hxi] at hr
    have hcap := hl.out.cap
    replace hr := Lib.hid hr
    replace hb0 := Lib.hid hb0
    replace hB := Lib.hid hB
    clear hf hrow hfd hpre hat hone
    go_enter Tryz.func38, Tryz.ntmps38
    go_wp2_with (first
      | (go_at_call 72; refine hix.out.mono ?_; rintro e w2 ⟨rfl, hb2⟩; replace hB := Lib.hid (hB.out.below hb2); replace hb0 := Lib.hid (xtrans hb0.out hb2))
      | (refine wpList_load_mid rfl 67 _ rfl g (o + i * 22) rfl (relC x) _ (fun j v hj => cbel hb0.out (hr.out j v hj)) hu rfl (by rw [hr21]; kernel_rfl) ?_)
      | (refine wpList_store_blkG rfl 67 _ _ rfl w.heap.size rfl 67 [.int .u8 0, .int .u8 0, .int .u8 0, .int .u8 0, .int .u8 0, .int .u8 0, .int .u8 0, .int .u8 0, .int .u8 0, .int .u8 0, .int .u8 0, .int .u8 0, .int .u8 0, .int .u8 0, .int .u8 0, .int .u8 0, .int .u8 0, .int .u8 0, .int .u8 0, .int .u8 0, .int .u32 0, .int .u64 0] (relC x) hB.out rfl (by rw [hr21]; rfl) (by rw [hr21]; kernel_rfl) hone2 ?_; intro w3 hB3 ho3; have hb3 := Lib.hid (ho3.below hb0.out hb0.out.size (by rintro k rfl; exact Nat.le_refl _)); replace hB3 := Lib.hid hB3))
    exact bodyPost_ret (results_blkG2 (p := 4) rfl _ _ w.heap.size 67 _ _ rfl hB3.out hu rfl (by rw [hr21]; kernel_rfl)) rfl ⟨rfl, hb3.out⟩
theorem eql_adr (a b : List Nat) (ha : Adr a) (hb : Adr b) (W : World) : (binOp .eql 29 (adrV a) (adrV b)).run Tryz.prog W = .ok (.bool (decide (a = b))) W := by
  have h := run_eql_ints 29 5 20 .u8 .u8 (natI a) (natI b) W Tryz.underlying29 Tryz.underlying5 (by kernel_rfl) (by kernel_rfl) (by rw [natI_len]; exact ha.len) (by rw [natI_len]; exact hb.len)
  have e : decide (natI a = natI b) = decide (a = b) := by
    rw [Bool.eq_iff_iff, decide_eq_true_eq, decide_eq_true_eq]
    exact natI_inj
  rw [e] at h
  exact h
set_option maxRecDepth 100000 in
set_option maxHeartbeats 2000000 in
theorem clearance1_any (x : List Nat × BitVec 64) (a : List Nat) (pa : Nat) (w : World) (hx : Adr x.1) (ha : Adr a) (hA : BlkG w pa 29 (adrC a)) :
    Calls Tryz.prog 45 (#[.agg (clearC x).toArray] ++ #[.pointer (some ⟨pa, 0, none⟩)]) w fun e w' => e = .returned (.bool (decide (x.1 = a))) ∧ Below w.heap.size w w' := by
  have hbe : Below w.heap.size w (w.alloc (.cells (clearC x).toArray 65)) := xalloc (xrefl w) _
  have hXr := Lib.hid (BlkG.range (BlkG.new w 65 (clearC x)))
  have hAr := Lib.hid (BlkG.range (hA.below hbe))
  have heq := eql_adr x.1 a hx ha
  unfold adrV at heq
  replace hbe := Lib.hid hbe
  clear hA
  go_enter Tryz.func45, Tryz.ntmps45
  go_wp2_with (first
    | (refine wpList_load_mid rfl 29 _ rfl w.heap.size 0 rfl (adrC x.1) _ (fun j v hj => hXr.out j v (pre_get hj)) Tryz.underlying29 rfl (by rw [adrC_len, hx.len]; kernel_rfl) ?_)
    | (refine wpList_load_mid rfl 29 _ rfl pa 0 rfl (adrC a) _ hAr.out Tryz.underlying29 rfl (by rw [adrC_len, ha.len]; kernel_rfl) ?_))
  go_ret
  exact ⟨rfl, hbe.out⟩
theorem rows_len (l : List (List Nat × BitVec 64)) (h : ∀ x ∈ l, Adr x.1) : ∀ x ∈ l, (clearC x).length = 21 := fun x hx => clearC_len (h x hx)
theorem rows_lenR (l : List (List Nat × Nat × BitVec 64)) (h : ∀ x ∈ l, Adr x.1) : ∀ x ∈ l, (relC x).length = 22 := fun x hx => relC_len (h x hx)
set_option maxRecDepth 100000 in
set_option maxHeartbeats 4000000 in
theorem clearance_any (p : PolN) (a : List Nat) (pa pb : Option Addr) (c d : Nat) (w : World) (hp : PolAt w p pa c pb d) (ha : Adr a) (hl : p.clears.length ≤ 1000000) :
    Calls Tryz.prog 16 #[polV p pa c pb d, adrV a] w fun e w' => e = .returned (labV (clearF p a)) ∧ Below w.heap.size w w' := by
  have hbe : Below w.heap.size w ((w.alloc (.cells #[labV p.dflt, .slice pa p.clears.length c, .slice pb p.rels.length d] 27)).alloc (.cells (adrC a).toArray 29)) := xalloc (xalloc (xrefl w) _) _
  have hA : BlkG ((w.alloc (.cells #[labV p.dflt, .slice pa p.clears.length c, .slice pb p.rels.length d] 27)).alloc (.cells (adrC a).toArray 29)) (w.heap.size + 1) 29 (adrC a) := by
    have := BlkG.new (w.alloc (.cells #[labV p.dflt, .slice pa p.clears.length c, .slice pb p.rels.length d] 27)) 29 (adrC a)
    rwa [World.size_alloc] at this
  have hP : BlkG ((w.alloc (.cells #[labV p.dflt, .slice pa p.clears.length c, .slice pb p.rels.length d] 27)).alloc (.cells (adrC a).toArray 29)) w.heap.size 27 [labV p.dflt, .slice pa p.clears.length c, .slice pb p.rels.length d] := (BlkG.new w _ _).below (xalloc (xrefl _) _)
  have cP1 := hP.cell 1 (by simp)
  simp only [List.getElem_cons_succ, List.getElem_cons_zero] at cP1
  have hfi := Lib.hid (first_clearC_any p.clears (fun x => decide (x.1 = a)) 45 #[.pointer (some ⟨w.heap.size + 1, 0, none⟩)] (enters_of Tryz.func45 (by kernel_rfl) rfl) pa c _ (hp.cl.below hbe) hl (rows_len _ fun x hx => hp.ok.adrC hx) clearC_one
    (fun x hx W hW => clearance1_any x a (w.heap.size + 1) W (hp.ok.adrC hx) ha (hA.below hW)))
  have hmf : ∀ (fn : Fn) (first cap : Array Value) (w : World), (Instr.makeFunc fn first cap).run Tryz.prog w = .ok (.func fn first cap) w := fun _ _ _ _ => rfl
  have hcl : clearF p a = ((p.clears.find? fun x => decide (x.1 = a)).map (·.2)).getD p.dflt := rfl
  have hu := Tryz.underlying65
  rw [hcl]
  clear hcl
  unfold polV adrV
  cases hfd : p.clears.find? fun x => decide (x.1 = a) with
  | none =>
    rw [hfd] at hfi
    replace hP := Lib.hid hP
    replace hbe := Lib.hid hbe
    clear hA hp
    go_enter Tryz.func16, Tryz.ntmps16
    go_wp2_with (first
      | (go_at_call 44; refine hfi.out.mono ?_; rintro e w2 ⟨rfl, hb2⟩; have cP0 := (BlkG.below hP.out hb2).cell 0 (by simp); simp only [List.getElem_cons_zero] at cP0; replace cP0 := Lib.hid cP0; replace hb2 := Lib.hid (xtrans hbe.out hb2))
      | (refine wpList_store_blkG rfl 65 _ _ rfl w2.heap.size rfl 65 zclearC zclearC (BlkG.new w2 _ _) rfl rfl (by kernel_rfl) (by decide) ?_; intro w3 hB3 ho3; have hb3 := ho3.below (xalloc (xrefl w2) _) (xalloc (xrefl w2) (.cells zclearC.toArray 65)).size (by rintro k rfl; exact Nat.le_refl _); have cP3 := cbel hb3 cP0.out; replace hb3 := Lib.hid (xtrans hb2.out hb3); clear hB3 ho3))
    go_ret
    exact ⟨rfl, hb3.out⟩
  | some x =>
    rw [hfd] at hfi
    have hxm := List.mem_of_find?_eq_some hfd
    have hx := hp.ok.adrC hxm
    have hlx := clearC_len hx
    have hone := clearC_one x
    have hl20 := lab_get x.1 hx.len x.2
    replace hP := Lib.hid hP
    replace hbe := Lib.hid hbe
    clear hA hp hx hxm
    go_enter Tryz.func16, Tryz.ntmps16
    go_wp2_with (first
      | (go_at_call 44; refine hfi.out.mono ?_; rintro e w2 ⟨rfl, hb2⟩; replace hb2 := Lib.hid (xtrans hbe.out hb2))
      | (refine wpList_store_blkG rfl 65 _ _ rfl w2.heap.size rfl 65 zclearC (clearC x) (BlkG.new w2 _ _) rfl (by rw [hlx]; rfl) (by rw [hlx]; kernel_rfl) hone ?_; intro w3 hB3 ho3; have hb3 := ho3.below (xalloc (xrefl w2) _) (xalloc (xrefl w2) (.cells zclearC.toArray 65)).size (by rintro k rfl; exact Nat.le_refl _); have cL3 := blk_cell hB3 hl20; replace hb3 := Lib.hid (xtrans hb2.out hb3); clear hB3 ho3))
    go_ret
    exact ⟨rfl, hb3.out⟩
end Go.Proofs.YthpallkphamobaaGreatDoor
namespace Go.Proofs.YthpallkphamobaaGreatDoor
open Go.RowKit Go.Shelf

theorem eqFields_cons {P : Program} {w : World} {d : Nat} {xs ys : Array Value} {f : Field} {fs : List Field} {a b : Value} {r : Bool} (hn : f.name ≠ "_") (pa : (part f.type xs f.offset).run P w = .ok a w) (pb : (part f.type ys f.offset).run P w = .ok b w) (he : (Op.equalIn d f.type a b).run P w = .ok r w) :
    (Op.eqFields d xs ys (f :: fs)).run P w = if r = true then (Op.eqFields d xs ys fs).run P w else .ok false w := by
  rw [Op.eqFields, if_pos hn]
  simp only [Sem.run_bind, pa, pb, he, Result.andThen_ok]
  cases r <;> simp
theorem part_cell {P : Program} {e : TypeId} {q : IntKind} {cs : Array Value} {k : Nat} {v : Value} (w : World) (he : P.underlying e = some (.int q)) (hk : cs[k]? = some v) : (part e cs k).run P w = .ok v w := by
  have hagg : (isAgg e).run P w = .ok false w := by
    unfold isAgg
    rw [Sem.run_bind, run_underlying he w]
    rfl
  simp [part, hagg, Sem.run_bind, hk]
theorem part_adr (a : List Nat) (ha : Adr a) (r : List Value) (w : World) : (part 29 (adrC a ++ r).toArray 0).run Tryz.prog w = .ok (adrV a) w := by
  have hagg : (isAgg 29).run Tryz.prog w = .ok true w := by
    unfold isAgg
    rw [Sem.run_bind, run_underlying Tryz.underlying29 w]
    rfl
  have hsz : (sizeOf 29).run Tryz.prog w = .ok 20 w := by kernel_rfl
  simp only [part, hagg, hsz, Sem.run_bind, Sem.run_pure, Result.andThen_ok, if_true, Nat.zero_add]
  have : (adrC a ++ r).toArray.extract 0 20 = (adrC a).toArray := by
    apply Array.ext'
    simp [List.take_append, adrC_len, ha.len]
  rw [this]
  rfl
set_option maxRecDepth 100000 in
theorem equal_adr (a b : List Nat) (ha : Adr a) (hb : Adr b) (w : World) : (Op.equalIn 9999 29 (adrV a) (adrV b)).run Tryz.prog w = .ok (decide (a = b)) w := by
  obtain ⟨i, hi⟩ : ∃ i, Tryz.prog.info? 5 = some i := Option.isSome_iff_exists.1 (by kernel_rfl)
  have hc : Tryz.prog.cellsOf 5 = 1 := by kernel_rfl
  have h := run_equalIn_array (P := Tryz.prog) w 9998 (adrC a).toArray (adrC b).toArray Tryz.underlying29 hi
  rw [hc, List.range_eq_range'] at h
  have h2 := run_eqItems_ints (P := Tryz.prog) 9997 5 .u8 .u8 (natI a) (natI b) w Tryz.underlying5 (by rw [natI_len, natI_len, ha.len, hb.len]) 20 0 (by rw [natI_len, ha.len])
  refine h.trans (h2.trans ?_)
  congr 1
  rw [Bool.eq_iff_iff, decide_eq_true_eq, decide_eq_true_eq]
  exact natI_inj
theorem relC_get (x : List Nat × Nat × BitVec 64) (hx : Adr x.1) : (relC x).toArray[20]? = some (.int .u32 x.2.1) ∧ (relC x).toArray[21]? = some (labV x.2.2) := by
  obtain ⟨h1, h2⟩ := ent_get x.1 hx.len x.2.1 x.2.2
  exact ⟨by simpa using h1, by simpa using h2⟩
theorem clearC_get (x : List Nat × BitVec 64) (hx : Adr x.1) : (clearC x).toArray[20]? = some (labV x.2) := by
  have h := lab_get x.1 hx.len x.2
  simpa using h
set_option maxRecDepth 100000 in
theorem eql_rel (x y : List Nat × Nat × BitVec 64) (hx : Adr x.1) (hy : Adr y.1) (w : World) : (binOp .eql 67 (.agg (relC x).toArray) (.agg (relC y).toArray)).run Tryz.prog w = .ok (.bool (decide (x = y))) w := by
  have hf : (Tryz.prog.fieldsOf 67).toList = [(Tryz.prog.fieldsOf 67).toList[0]!, (Tryz.prog.fieldsOf 67).toList[1]!, (Tryz.prog.fieldsOf 67).toList[2]!] := by kernel_rfl
  obtain ⟨f0, h0⟩ : ∃ f, f = (Tryz.prog.fieldsOf 67).toList[0]! := ⟨_, rfl⟩
  obtain ⟨f1, h1⟩ : ∃ f, f = (Tryz.prog.fieldsOf 67).toList[1]! := ⟨_, rfl⟩
  obtain ⟨f2, h2⟩ : ∃ f, f = (Tryz.prog.fieldsOf 67).toList[2]! := ⟨_, rfl⟩
  rw [run_eql_struct, show (10000 : Nat) = 9999 + 1 from rfl, run_equalIn_agg w 9999 67 _ _ (by kernel_rfl) (by kernel_rfl), hf, ← h0, ← h1, ← h2]
  have n0 : f0.name ≠ "_" ∧ f0.type = 29 ∧ f0.offset = 0 := by subst h0; exact ⟨by rw [show ((Tryz.prog.fieldsOf 67).toList[0]!).name = "Address" by kernel_rfl]; decide, by kernel_rfl, by kernel_rfl⟩
  have n1 : f1.name ≠ "_" ∧ f1.type = 30 ∧ f1.offset = 20 := by subst h1; exact ⟨by rw [show ((Tryz.prog.fieldsOf 67).toList[1]!).name = "Entry" by kernel_rfl]; decide, by kernel_rfl, by kernel_rfl⟩
  have n2 : f2.name ≠ "_" ∧ f2.type = 23 ∧ f2.offset = 21 := by subst h2; exact ⟨by rw [show ((Tryz.prog.fieldsOf 67).toList[2]!).name = "Target" by kernel_rfl]; decide, by kernel_rfl, by kernel_rfl⟩
  clear h0 h1 h2 hf
  obtain ⟨nm0, ty0, of0⟩ := n0
  obtain ⟨nm1, ty1, of1⟩ := n1
  obtain ⟨nm2, ty2, of2⟩ := n2
  rw [eqFields_cons (r := decide (x.1 = y.1)) nm0 (by rw [ty0, of0]; exact part_adr x.1 hx _ w) (by rw [ty0, of0]; exact part_adr y.1 hy _ w) (by rw [ty0]; exact equal_adr _ _ hx hy w)]
  rw [eqFields_cons (r := ((x.2.1 : Int) == (y.2.1 : Int))) nm1 (by rw [ty1, of1]; exact part_cell w Tryz.underlying30 (relC_get x hx).1) (by rw [ty1, of1]; exact part_cell w Tryz.underlying30 (relC_get y hy).1) (by rw [ty1]; exact run_equalIn_int w 9998 _ _ _ _ _ Tryz.underlying30)]
  rw [eqFields_cons (r := (iv64 x.2.2 == iv64 y.2.2)) nm2 (by rw [ty2, of2]; exact part_cell w Tryz.underlying23 (relC_get x hx).2) (by rw [ty2, of2]; exact part_cell w Tryz.underlying23 (relC_get y hy).2) (by rw [ty2]; exact run_equalIn_int w 9998 _ _ _ _ _ Tryz.underlying23)]
  have hd : (decide (x = y) : Bool) = (decide (x.1 = y.1) && (((x.2.1 : Int) == (y.2.1 : Int)) && (iv64 x.2.2 == iv64 y.2.2))) := by
    rw [Bool.eq_iff_iff, decide_eq_true_eq, Bool.and_eq_true, Bool.and_eq_true, decide_eq_true_eq, beq_iff_eq, beq_iff_eq, iv64_inj]
    obtain ⟨x1, x2, x3⟩ := x
    obtain ⟨y1, y2, y3⟩ := y
    simp only [Prod.mk.injEq]
    constructor
    · rintro ⟨h1, h2, h3⟩; exact ⟨h1, by omega, h3⟩
    · rintro ⟨h1, h2, h3⟩; exact ⟨h1, by omega, h3⟩
  rw [hd]
  cases decide (x.1 = y.1) <;> cases ((x.2.1 : Int) == (y.2.1 : Int)) <;> cases (iv64 x.2.2 == iv64 y.2.2) <;> simp [Op.eqFields]
set_option maxRecDepth 100000 in
theorem eql_clear (x y : List Nat × BitVec 64) (hx : Adr x.1) (hy : Adr y.1) (w : World) : (binOp .eql 65 (.agg (clearC x).toArray) (.agg (clearC y).toArray)).run Tryz.prog w = .ok (.bool (decide (x = y))) w := by
  have hf : (Tryz.prog.fieldsOf 65).toList = [(Tryz.prog.fieldsOf 65).toList[0]!, (Tryz.prog.fieldsOf 65).toList[1]!] := by kernel_rfl
  obtain ⟨f0, h0⟩ : ∃ f, f = (Tryz.prog.fieldsOf 65).toList[0]! := ⟨_, rfl⟩
  obtain ⟨f1, h1⟩ : ∃ f, f = (Tryz.prog.fieldsOf 65).toList[1]! := ⟨_, rfl⟩
  rw [run_eql_struct, show (10000 : Nat) = 9999 + 1 from rfl, run_equalIn_agg w 9999 65 _ _ (by kernel_rfl) (by kernel_rfl), hf, ← h0, ← h1]
  have n0 : f0.name ≠ "_" ∧ f0.type = 29 ∧ f0.offset = 0 := by subst h0; exact ⟨by rw [show ((Tryz.prog.fieldsOf 65).toList[0]!).name = "Address" by kernel_rfl]; decide, by kernel_rfl, by kernel_rfl⟩
  have n1 : f1.name ≠ "_" ∧ f1.type = 23 ∧ f1.offset = 20 := by subst h1; exact ⟨by rw [show ((Tryz.prog.fieldsOf 65).toList[1]!).name = "Label" by kernel_rfl]; decide, by kernel_rfl, by kernel_rfl⟩
  clear h0 h1 hf
  obtain ⟨nm0, ty0, of0⟩ := n0
  obtain ⟨nm1, ty1, of1⟩ := n1
  rw [eqFields_cons (r := decide (x.1 = y.1)) nm0 (by rw [ty0, of0]; exact part_adr x.1 hx _ w) (by rw [ty0, of0]; exact part_adr y.1 hy _ w) (by rw [ty0]; exact equal_adr _ _ hx hy w)]
  rw [eqFields_cons (r := (iv64 x.2 == iv64 y.2)) nm1 (by rw [ty1, of1]; exact part_cell w Tryz.underlying23 (clearC_get x hx)) (by rw [ty1, of1]; exact part_cell w Tryz.underlying23 (clearC_get y hy)) (by rw [ty1]; exact run_equalIn_int w 9998 _ _ _ _ _ Tryz.underlying23)]
  have hd : (decide (x = y) : Bool) = (decide (x.1 = y.1) && (iv64 x.2 == iv64 y.2)) := by
    rw [Bool.eq_iff_iff, decide_eq_true_eq, Bool.and_eq_true, decide_eq_true_eq, beq_iff_eq, iv64_inj]
    obtain ⟨x1, x2⟩ := x
    obtain ⟨y1, y2⟩ := y
    simp
  rw [hd]
  cases decide (x.1 = y.1) <;> cases (iv64 x.2 == iv64 y.2) <;> simp [Op.eqFields]
end Go.Proofs.YthpallkphamobaaGreatDoor
