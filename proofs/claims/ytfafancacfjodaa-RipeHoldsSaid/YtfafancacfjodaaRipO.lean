/- The program's digest (layer 24): the blocks, one after the other. -/
import Derived.Test.YtfafancacfjodaaRipN
import Derived.Test.YtfafancacfjodaaShaL
namespace Go.Proofs.Ytfafancacfjodaa
open Go.RowKit Go.Shelf
attribute [local go_sem] Oper.semAt_some

def pairsB (pd : List (BitVec 8)) {nb : Nat} (l : List (Ix nb)) : List BlkP := l.zipIdx.map fun p => (p.2, blockF (byteF pd p.1.1))
theorem pairsB_len (pd : List (BitVec 8)) {nb : Nat} (l : List (Ix nb)) : (pairsB pd l).length = l.length := by simp [pairsB]
theorem pairsB_snoc (pd : List (BitVec 8)) {nb : Nat} (l : List (Ix nb)) (x : Ix nb) : pairsB pd (l ++ [x]) = pairsB pd l ++ [(l.length, blockF (byteF pd x.1))] := by
  simp [pairsB, List.zipIdx_append]
theorem pairsB_range (pd : List (BitVec 8)) {nb : Nat} (l : List (Ix nb)) (k : Nat) (h : valsI l = List.range k) : pairsB pd l = (List.range k).map (blkAt pd) := by
  have hl : l.length = k := by have := congrArg List.length h; simpa [valsI] using this
  apply List.ext_getElem
  · simp [pairsB, hl]
  · intro i h1 h2
    have hi : i < l.length := by simpa [pairsB] using h1
    have e := congrArg (·[i]?) h
    simp [valsI, hi, show i < k by omega] at e
    simp [pairsB, blkAt, e]

def BlkI (pd : List (BitVec 8)) (B nb l pb po : Nat) (J : (Nat → Prop) → List BlkP → World → Prop) (O : Nat → Prop) (pre : List (Ix nb)) (W : World) : Prop :=
  J (fun k => O k ∨ (B ≤ k ∧ k < B + 4)) (pairsB pd pre) W ∧ W.cell? ⟨B, 0, none⟩ = some (.func (.yield l) #[] #[]) ∧ W.cell? ⟨B + 1, 0, none⟩ = some (.int .i64 pre.length) ∧ W.frozen? ⟨B + 1, 0, none⟩ = false ∧ RowAt .u8 W (some ⟨pb, po, none⟩) (pd.map iv8) ∧ pre.length ≤ nb + 1
def BlkX (pd : List (BitVec 8)) (B nb : Nat) (Jx : (Nat → Prop) → List BlkP → World → Prop) (c : Code) (O : Nat → Prop) (pre : List (Ix nb)) (W : World) : Prop :=
  c = .exit 0 ∧ Jx (fun k => O k ∨ (B ≤ k ∧ k < B + 4)) (pairsB pd pre) W
theorem blkI_stable (pd : List (BitVec 8)) (B nb l pb po : Nat) (J : (Nat → Prop) → List BlkP → World → Prop) (hJ : Stable B J) (hpb : pb < B) : Stable (B + 4) (BlkI pd B nb l pb po J) := by
  rintro O O' s W W' ⟨h1, h2, h3, h4, h5, h6⟩ hO hon hO'
  have no : ∀ k, k < B + 4 → ¬ O k := fun k hk h => by have := hO k h; omega
  refine ⟨hJ _ _ _ _ _ h1 (fun k h => ?_) (hon.mono fun k _ h => .inl h) (fun k h => ?_), hon.cell h2 (no _ (by simp)), hon.cell h3 (no _ (by simp)), hon.frozen h3 h4 (no _ (by simp)), h5.only hon (fun x hx => by cases hx; exact no _ (by simp only; omega)), h6⟩
  · rcases h with h | h
    · have := hO k h; omega
    · exact h.1
  · rcases h with h | h
    · exact (hO' k h).elim (fun h => .inl (.inl h)) .inr
    · exact .inl (.inr h)
theorem blkX_stable (pd : List (BitVec 8)) (B nb : Nat) (Jx : (Nat → Prop) → List BlkP → World → Prop) (c : Code) (hJ : Stable B Jx) : Stable (B + 4) (BlkX pd B nb Jx c) := by
  rintro O O' s W W' ⟨hc, h1⟩ hO hon hO'
  refine ⟨hc, hJ _ _ _ _ _ h1 (fun k h => ?_) (hon.mono fun k _ h => .inl h) (fun k h => ?_)⟩
  · rcases h with h | h
    · have := hO k h; omega
    · exact h.1
  · rcases h with h | h
    · exact (hO' k h).elim (fun h => .inl (.inl h)) .inr
    · exact .inl (.inr h)

set_option maxRecDepth 100000 in
set_option maxHeartbeats 2000000 in
theorem blocks_seq (pd : List (BitVec 8)) (bx pb po pc nb : Nat) (W : World) (hpd : pd.length = 64 * nb) (hnb : nb < 100000) (hbx : W.cell? ⟨bx, 0, none⟩ = some (.slice (some ⟨pb, po, none⟩) pd.length pc)) (hrow : RowAt .u8 W (some ⟨pb, po, none⟩) (pd.map iv8))
    (hpc : pd.length ≤ pc) (hpc2 : pc ≤ 9223372036854775807) (hpb : pb < W.heap.size) :
    SeqB Try.prog 31 #[.pointer (some ⟨bx, 0, none⟩)] encB (fun k => k = pb) (fun xs => xs = (List.range nb).map (blkAt pd)) (fun pre => ∃ k, k ≤ nb ∧ pre = (List.range k).map (blkAt pd)) (nb + 1) false W := by
  rw [hpd] at hbx hpc
  replace hpd := Lib.hid hpd
  intro l J Jx hJ hJx hY h0 _
  replace hJ := Lib.hid hJ
  replace hJx := Lib.hid hJx
  replace hY := Lib.hid hY
  replace hrow := Lib.hid hrow
  refine callsIn_of_wp_marks Try.func31 rfl trivial ?_ rfl
  simp only [Try.ntmps31, List.size_toArray, List.length_cons, List.length_nil, Nat.reduceAdd, Nat.reduceSub, Array.replicate_succ, Array.replicate_zero, List.push_toArray, List.append_toArray, List.nil_append, List.cons_append]
  gi_wp2
  refine wpIn_wide.2 ?_
  go_step3
  go_wp2_with fail
  go_step3
  have hbx2 := cbel (xalloc (xalloc (xrefl W) (.cells #[.func (.yield l) #[] #[]] 59)) (.cells #[.int .i64 0] 3)) hbx
  go_wp2_with (go_at_call 32; refine (chunk_any _ _ _ _).mono ?_; rintro e w' ⟨rfl, rfl⟩)
  obtain ⟨W0, hW0⟩ : ∃ W0, (((W.alloc (Obj.cells #[.func (.yield l) #[] #[]] 59)).alloc (Obj.cells #[.int .i64 0] 3)).alloc (Obj.cells #[.slice (some ⟨pb, po, none⟩) (64 * nb) pc] 22)).alloc (Obj.cells #[.int .i64 64] 3) = W0 := ⟨_, rfl⟩
  have hs0 : W0.heap.size = W.heap.size + 4 := by rw [← hW0]; simp
  have hb0 : Below W.heap.size W W0 := by rw [← hW0]; exact xalloc (xalloc (xalloc (xalloc (xrefl W) _) _) _) _
  have cS : W0.cell? ⟨W.heap.size + 2, 0, none⟩ = some (.slice (some ⟨pb, po, none⟩) (64 * nb) pc) := by rw [← hW0]; simp [go_sem]
  have cX : W0.cell? ⟨W.heap.size + 3, 0, none⟩ = some (.int .i64 64) := by rw [← hW0]; simp [go_sem]
  have h00 : BlkI pd W.heap.size nb l pb po J (fun _ => False) [] W0 := by
    refine ⟨hJ.out _ _ _ _ _ h0 (fun k h => h.elim) (Below.only hb0) (fun k h => h.elim (fun h => h.elim) (fun h => .inr h.1)), ?_, ?_, ?_, hrow.out.below hb0, Nat.zero_le _⟩ <;> rw [← hW0] <;> simp [go_sem]
  rw [hW0]
  clear hW0 hbx2
  refine (wpIn_wide (n := 0)).1 ?_
  refine wp_rangeB (gf := 44) (lb := #[.pointer (some ⟨W.heap.size + 2, 0, none⟩), .pointer (some ⟨W.heap.size + 3, 0, none⟩)]) rfl (enters_of Try.func44 (by kernel_rfl) rfl) (encs := fun x : Ix nb => #[.slice (some ⟨pb, po + 64 * x.1, none⟩) 64 64]) (Rd := fun k => k = W.heap.size + 2 ∨ k = W.heap.size + 3)
    (S := fun xs => valsI xs = List.range nb) (Sp := fun pre => ∃ k, k ≤ nb ∧ valsI pre = List.range k) (N := nb + 1) (inf := false) (fun k h => by omega)
    (fun W1 hb1 => chunk_seq _ _ pb po nb pc W1 (cbel hb1 cS) (cbel hb1 cX) hnb hpc hpc2) (fun x => rfl) (BlkI pd W.heap.size nb l pb po J) (BlkX pd W.heap.size nb Jx) (by rw [hs0]; exact blkI_stable pd W.heap.size nb l pb po J hJ.out hpb) (fun c => by rw [hs0]; exact blkX_stable pd W.heap.size nb Jx c hJx.out) h00 (fun h => by cases h) ?round ?done ?stop
  case round =>
    rintro l1 O pre x W1 hOl hO ⟨h1, h2, h3, h4, h5, h6⟩ hlen
    rw [hs0] at hO
    gi_wp2
    refine ⟨Keep.refl _ _, fun W2 hon => ?_⟩
    have hl3 : W.heap.size + 4 ≤ l1 := (hO l1 hOl).1
    have c0 := hon.cell h2 (by simp; omega)
    have c1 := hon.cell h3 (by simp; omega)
    have f1 := hon.frozen h3 h4 (by simp; omega)
    have hr2 := h5.only hon (fun x hx => by cases hx; simp only; omega)
    have hJ2 := hJ.out _ (fun k => O k ∨ (W.heap.size ≤ k ∧ k < W.heap.size + 4)) _ _ W2 h1 (fun k h => h.elim (fun h => by have := hO k h; omega) (fun h => h.1)) (hon.mono fun k _ e => .inl (by rw [e]; exact hOl)) (fun k h => .inl h)
    have hs2 := hon.size
    have hs24 : W.heap.size + 4 < W2.heap.size := by have := (hO l1 hOl).2; omega
    have hO2 : ∀ k, O k → W.heap.size + 4 ≤ k ∧ k < W2.heap.size := fun k h => by have := hO k h; omega
    have hxb := Blk.new (q := .u32) W2 30 (List.replicate 16 0)
    have hb2 := xalloc (xrefl W2) (Obj.cells ((List.replicate 16 0).map (Value.int .u32)).toArray 30)
    have hx64 : 64 * x.1 + 64 ≤ pd.length := by rw [hpd.out]; have := x.2; omega
    clear h1 h2 h3 h4 h5 hon hO
    obtain ⟨k, hk⟩ := x
    simp only at hx64
    replace hO2 := Lib.hid hO2
    replace hr2 := Lib.hid hr2
    gi_wp2
    gi_loopw [13] (fun iv wx => ∃ i : Nat, i ≤ 64 ∧ iv = .int .i64 i ∧ Blk .u32 wx W2.heap.size 30 (rowI 16 (blockTo (byteF pd k) i)) ∧ Below W2.heap.size W2 wx) (fun iv _ => 64 - (intOf iv).toNat)
    case atStart => exact ⟨0, by omega, rfl, by rw [blockTo_zero]; exact hxb, hb2⟩
    case round =>
      clear hxb hb2
      obtain ⟨i, hi, rfl, hX, hbw⟩ := hrel
      by_cases hlt : i < 64
      · have hlt2 : (i : Int) < 64 := by omega
        obtain ⟨j, hj⟩ : ∃ j, j = i / 4 := ⟨_, rfl⟩
        obtain ⟨m, hm⟩ : ∃ m, m = i % 4 := ⟨_, rfl⟩
        have hset := blockTo_set (byteF pd k) i
        rw [← hj, ← hm] at hset
        have hj16 : j < 16 := by omega
        have hj2 : (j : Int) < 16 := by omega
        have hm2 : 8 * ((i : Int) % 4) < 32 := by omega
        have hm3 : 0 ≤ 8 * ((i : Int) % 4) := by omega
        have hjI : IntKind.i64.wrap ((i : Int) / 4) = (j : Int) := by rw [IntKind.wrap_i64]; omega
        have d1 := hX.cell j (by rw [rowI_len]; omega)
        rw [rowI_get] at d1
        have g1 := hX.frozen j
        obtain ⟨b', o', e1, d2⟩ := (hr2.out.below hbw) (64 * k + i) (by simp; omega)
        cases e1
        simp only [List.getElem_map] at d2
        have hbv : pd[64 * k + i]'(by omega) = pd.getD (64 * k + i) 0 := by simp [show 64 * k + i < pd.length by omega]
        rw [hbv, iv8_w8, ← Nat.add_assoc] at d2
        replace d2 : wr.cell? ⟨pb, po + 64 * k + i, none⟩ = some (.int .u8 (iv32 (byteF pd k i))) := d2
        clear hbv
        generalize blockTo (byteF pd k) i j = acc at d1 hset
        have hb8 : iv32 (byteF pd k i) < 256 := by
          show iv32 (w8 _) < 256
          rw [← iv8_w8]; exact (iv8_bd _).2
        have hbd := iv32_bd (byteF pd k i)
        generalize byteF pd k i = y at d2 hset hb8 hbd
        have e6 : IntKind.u32.wrap (iv32 y) = iv32 y := by rw [IntKind.wrap_u32]; omega
        have e7 : IntKind.i64.wrap (8 * ((i : Int) % 4)) = 8 * ((i : Int) % 4) := by rw [IntKind.wrap_i64]; omega
        have e10 : (8 * ((i : Int) % 4)).toNat = 8 * m := by omega
        have d1' := Lib.hid d1
        replace hset := Lib.hid hset
        replace g1 := Lib.hid g1
        replace hj := Lib.hid hj
        replace hm := Lib.hid hm
        replace hX := Lib.hid hX
        replace hbw := Lib.hid hbw
        clear d1
        have d1 := d1'
        clear d1'
        gi_wp2_with fail
        refine wpIn_region_growL 12 [fixd (.int .i64 i), fixd (.int .i64 j), fixd (.pointer (some ⟨W2.heap.size, j, none⟩)), fixd (.int .u32 (iv32 (acc))), fixd (.int .u8 (iv32 y)), fixd (.int .u32 (iv32 (y))), fixd (.int .i64 i), fixd (.int .i64 ((i : Int) % 4)), fixd (.int .i64 (8 * ((i : Int) % 4))), fixd (.int .u32 (iv32 (shl32 y (8 * m)))), fixd (.int .u32 (iv32 (or32 acc (shl32 y (8 * m))))), fixd (.pointer (some ⟨W2.heap.size, j, none⟩))] (by kernel_rfl) (by kernel_rfl) (by kernel_rfl) ?_
        simp only [List.take_succ_cons, List.take_zero, List.drop_succ_cons, List.drop_zero]
        try simp only [Act.put, List.setIfInBounds_toArray, List.set_cons_succ, List.set_cons_zero, List.nil_append, List.cons_append]
        refine wpGrowV_fix _ rfl rfl (fun W hb _ => by go_simp; first | exact xrefl W | exact ⟨rfl, xrefl W⟩) ?_
        try simp only [Act.put, List.setIfInBounds_toArray, List.set_cons_succ, List.set_cons_zero, List.nil_append, List.cons_append]
        refine wpGrowV_fix _ rfl rfl (fun W hb _ => by go_simp; first | exact xrefl W | exact ⟨rfl, xrefl W⟩) ?_
        try simp only [Act.put, List.setIfInBounds_toArray, List.set_cons_succ, List.set_cons_zero, List.nil_append, List.cons_append]
        refine wpGrowV_fix _ rfl rfl (fun W hb _ => by go_simp; first | exact xrefl W | exact ⟨rfl, xrefl W⟩) ?_
        try simp only [Act.put, List.setIfInBounds_toArray, List.set_cons_succ, List.set_cons_zero, List.nil_append, List.cons_append]
        refine wpGrowV_fix _ rfl rfl (fun W hb _ => by have c := cbel hb d1.out; go_simp; first | exact xrefl W | exact ⟨rfl, xrefl W⟩) ?_
        try simp only [Act.put, List.setIfInBounds_toArray, List.set_cons_succ, List.set_cons_zero, List.nil_append, List.cons_append]
        refine wpGrowV_fix _ rfl rfl (fun W hb _ => by go_simp; first | exact xrefl W | exact ⟨rfl, xrefl W⟩) ?_
        try simp only [Act.put, List.setIfInBounds_toArray, List.set_cons_succ, List.set_cons_zero, List.nil_append, List.cons_append]
        refine wpGrowV_fix _ rfl rfl (fun W hb _ => by go_simp; first | exact xrefl W | exact ⟨rfl, xrefl W⟩) ?_
        try simp only [Act.put, List.setIfInBounds_toArray, List.set_cons_succ, List.set_cons_zero, List.nil_append, List.cons_append]
        refine wpGrowV_fix _ rfl rfl (fun W hb _ => by go_simp; first | exact xrefl W | exact ⟨rfl, xrefl W⟩) ?_
        try simp only [Act.put, List.setIfInBounds_toArray, List.set_cons_succ, List.set_cons_zero, List.nil_append, List.cons_append]
        refine wpGrowV_fix _ rfl rfl (fun W hb _ => by go_simp; first | exact xrefl W | exact ⟨rfl, xrefl W⟩) ?_
        try simp only [Act.put, List.setIfInBounds_toArray, List.set_cons_succ, List.set_cons_zero, List.nil_append, List.cons_append]
        refine wpGrowV_fix _ rfl rfl (fun W hb _ => by go_simp; first | exact xrefl W | exact ⟨rfl, xrefl W⟩) ?_
        try simp only [Act.put, List.setIfInBounds_toArray, List.set_cons_succ, List.set_cons_zero, List.nil_append, List.cons_append]
        refine wpGrowV_fix _ rfl rfl (fun W hb _ => by go_simp; first | exact xrefl W | exact ⟨rfl, xrefl W⟩) ?_
        try simp only [Act.put, List.setIfInBounds_toArray, List.set_cons_succ, List.set_cons_zero, List.nil_append, List.cons_append]
        refine wpGrowV_fix _ rfl rfl (fun W hb _ => by go_simp; first | exact xrefl W | exact ⟨rfl, xrefl W⟩) ?_
        try simp only [Act.put, List.setIfInBounds_toArray, List.set_cons_succ, List.set_cons_zero, List.nil_append, List.cons_append]
        refine wpGrowV_fix _ rfl rfl (fun W hb _ => by go_simp; first | exact xrefl W | exact ⟨rfl, xrefl W⟩) ?_
        try simp only [Act.put, List.setIfInBounds_toArray, List.set_cons_succ, List.set_cons_zero, List.nil_append, List.cons_append]
        refine wpGrowV_nil fun Wa hba _ => ?_
        have c1' := cbel hba d1.out
        have f1' := fbel hba d1.out g1.out
        have hs2 := (hX.out.below hba).set j (iv32 (or32 acc (shl32 y (8 * m))))
        rw [hset.out] at hs2
        have hba2 := Lib.hid (xsetb (xtrans hbw.out hba) (c := W2.heap.size) (i := j) (Nat.le_refl _) (.int .u32 (iv32 (or32 acc (shl32 y (8 * m))))))
        replace hs2 := Lib.hid hs2
        clear d1 g1 d2 hX hbw hba
        gi_wp2
        exact ⟨⟨i + 1, by omega, rfl, hs2.out, hba2.out⟩, by simp [intOf]; omega⟩
      · have hi64 : i = 64 := by omega
        subst hi64
        rw [blockTo_all] at hX
        clear hlt
        have c0w := cbel hbw c0
        have c1w := cbel hbw c1
        have f1w := fbel hbw c1 f1
        have hsw := hbw.size
        have hJw := hJ.out _ (fun k => O k ∨ (W.heap.size ≤ k ∧ k < W.heap.size + 4)) _ _ wr hJ2 (fun k h => h.elim (fun h => by have := hO2.out k h; omega) (fun h => h.1)) (Below.only hbw) (fun k h => .inl h)
        have hOw : ∀ k, (O k ∨ (W.heap.size ≤ k ∧ k < W.heap.size + 4)) → W.heap.size ≤ k ∧ k < wr.heap.size := fun k h => by
          rcases h with h | h
          · have := hO2.out k h; omega
          · omega
        obtain ⟨fn, tmps, assign, body, hy, hR⟩ := hY.out (fun k => O k ∨ (W.heap.size ≤ k ∧ k < W.heap.size + 4)) (pairsB pd pre) (pre.length, blockF (byteF pd k)) wr hOw hJw (by rw [pairsB_len]; omega)
        rw [← pairsB_snoc pd pre ⟨k, hk⟩] at hR
        unfold encB arrV at hy
        dsimp only at hy
        have hRB : (Try.prog.info? 30).map (·.size) = some (rowI 16 (blockF (byteF pd k))).length := by rw [rowI_len]; kernel_rfl
        generalize rowI 16 (blockF (byteF pd k)) = RB at hX hy hRB
        replace hRB := Lib.hid hRB
        gi_wp2_with (refine wpListIn_load_blk rfl 30 _ rfl W2.heap.size rfl .u32 30 RB _ _ hX Try.underlying30 hRB.out ?_)
        have hR' : RoundIn (Fence.wide.inRound l1) 0 Try.prog l fn tmps assign body wr fun e X' =>
            e = .returned (.bool true) ∧ J (fun k => O k ∨ (W.heap.size ≤ k ∧ k < W.heap.size + 4)) (pairsB pd (pre ++ [⟨k, hk⟩])) X' ∧ Keep (fun k => (O k ∨ (W.heap.size ≤ k ∧ k < W.heap.size + 4)) ∨ k = pb) wr X' ∨
            e = .returned (.bool false) ∧ Jx (fun k => O k ∨ (W.heap.size ≤ k ∧ k < W.heap.size + 4)) (pairsB pd (pre ++ [⟨k, hk⟩])) X' ∧ Keep (fun k => (O k ∨ (W.heap.size ≤ k ∧ k < W.heap.size + 4)) ∨ k = pb) wr X' := hR
        refine ⟨rfl, hR'.mono ?_⟩
        rintro e W3 (⟨rfl, hJ3, hk3⟩ | ⟨rfl, hJx3, hk3⟩)
        · have c13 := hk3.cell c1w (.inl (.inr (by simp)))
          have f13 := hk3.frozen c1w f1w (.inl (.inr (by simp)))
          have c03 := hk3.cell c0w (.inl (.inr (by simp)))
          have hr3 : RowAt .u8 W3 (some ⟨pb, po, none⟩) (pd.map iv8) := fun i hi => by
            obtain ⟨b', o', e1, e2⟩ := (hr2.out.below hbw) i hi
            cases e1
            exact ⟨pb, po, rfl, hk3.cell e2 (.inr rfl)⟩
          have hs3 := hk3.size
          have hJn := hJ.out _ (fun k => O k ∨ (W.heap.size ≤ k ∧ k < W.heap.size + 4)) _ _ (W3.setCell ⟨W.heap.size + 1, 0, none⟩ (.int .i64 (pre.length + 1 : Int))) hJ3 (fun k h => (hOw k h).1) ((Only.refl _ W3).setCell ⟨W.heap.size + 1, 0, none⟩ _ (.inr (by simp))) (fun k h => .inl h)
          have hkeep : Keep (fun k => O k ∨ k = W.heap.size + 2 ∨ k = W.heap.size + 3) W2 (W3.setCell ⟨W.heap.size + 1, 0, none⟩ (.int .i64 (pre.length + 1 : Int))) := by
            refine ((Below.keep hbw).trans (hk3.mono fun k _ h => ?_)).setCell ⟨W.heap.size + 1, 0, none⟩ _ (fun h => ?_)
            · rcases h with h | h
              · exact .inl (.inl h)
              · exact .inl (.inr (by omega))
            · rcases h with h | h
              · have := hO2.out _ h; simp only at this; omega
              · simp only at h; omega
          have hI1 := csame (.int .i64 (pre.length + 1 : Int)) c13
          have hI0 := cne (.int .i64 (pre.length + 1 : Int)) (show (⟨W.heap.size + 1, 0, none⟩ : Addr) ≠ ⟨W.heap.size, 0, none⟩ from fun e => by injection e with e1; omega) c03
          have hIr := hr3.only ((Only.refl (· = W.heap.size + 1) W3).setCell ⟨W.heap.size + 1, 0, none⟩ (.int .i64 (pre.length + 1 : Int)) rfl) (fun x hx => by cases hx; simp only; omega)
          have hIf := fset (a := ⟨W.heap.size + 1, 0, none⟩) (.int .i64 (pre.length + 1 : Int)) f13
          replace hJn := Lib.hid hJn
          replace hkeep := Lib.hid hkeep
          replace hI1 := Lib.hid hI1
          replace hI0 := Lib.hid hI0
          replace hIr := Lib.hid hIr
          replace hIf := Lib.hid hIf
          clear hR hR' hy hJ3 hk3 hr3 hJw hOw c0w c1w f1w
          gi_wp2
          exact ⟨hkeep.out, hJn.out, hI0.out, by simpa using hI1.out, hIf.out, hIr.out, by simp; omega⟩
        · gi_wp2
          refine ⟨(Below.keep hbw).trans (hk3.mono fun k _ h => ?_), rfl, hJx3⟩
          rcases h with h | h
          · exact .inl (.inl h)
          · exact .inl (.inr (by omega))
  case done =>
    rintro D xs O W1 hD hOD hO hS ⟨h1, h2, h3, h4, h5, h6⟩ hK
    gi_wp2
    refine ⟨by simp, .inl ⟨_, _, rfl, run_takeDeferred hK, ?_⟩⟩
    have hput := (Only.refl (fun k => O k ∨ (W.heap.size ≤ k ∧ k < W.heap.size + 4)) W1).putObj D (.deferred none) (.inl hOD)
    refine ⟨_, results_none rfl _ _ _, ⟨_, rfl⟩, .inl ⟨_, _, pairsB_range pd xs nb hS, fun k h => ?_, hJ.out _ _ _ _ _ h1 (fun k h => ?_) hput (fun k h => .inl h)⟩⟩
    all_goals
      rcases h with h | h
      · have := hO k h; omega
      · exact h.1
  case stop =>
    rintro D c pre O W1 hD hOD hO ⟨k, hk, hpre⟩ ⟨rfl, hj⟩ hK
    gi_wp2
    refine ⟨by simp, .inl ⟨_, _, rfl, run_takeDeferred hK, ?_⟩⟩
    have hput := (Only.refl (fun k => O k ∨ (W.heap.size ≤ k ∧ k < W.heap.size + 4)) W1).putObj D (.deferred none) (.inl hOD)
    refine ⟨_, results_none rfl _ _ _, ⟨_, rfl⟩, .inr ⟨_, _, ⟨k, hk, pairsB_range pd pre k hpre⟩, fun k h => ?_, hJx.out _ _ _ _ _ hj (fun k h => ?_) hput (fun k h => .inl h)⟩⟩
    all_goals
      rcases h with h | h
      · have := hO k h; omega
      · exact h.1
end Go.Proofs.Ytfafancacfjodaa
