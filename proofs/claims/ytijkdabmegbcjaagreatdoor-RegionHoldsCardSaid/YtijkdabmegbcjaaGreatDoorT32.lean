/- Texts of this claim, merged; no condition. -/
import Derived.Test.YtijkdabmegbcjaaGreatDoorT30
import Derived.Test.YtijkdabmegbcjaaGreatDoorT31
import Derived.Test.YtijkdabmegbcjaaGreatDoorTA
set_option linter.all false
namespace Go.Proofs.YtijkdabmegbcjaaGreatDoor
open Go.RowKit Go.Shelf
attribute [local go_sem] Oper.semAt_some
theorem blk_range {w : World} {b : Nat} {T : TypeId} {vs : List Value} (h : BlkG w b T vs) : w.rangeAt b 0 vs := fun j v hj => by
  obtain ⟨hlt, rfl⟩ := List.getElem?_eq_some_iff.1 hj
  rw [Nat.zero_add]
  exact h.cell j hlt
theorem wpListIn_store_blkG {F : Fence} {N : Nat} {P : Program} {ops : Array Oper} {rest : List Oper} {o : Oper} {a : Act} {w : World} {Q : Exit → Act → World → Prop} (hgd : o.guard = none) (ty : TypeId) (x y : Operand) (ho : o.op = .store ty x y)
    (b : Nat) (hx : a.eval x = .pointer (some ⟨b, 0, none⟩)) (T : TypeId) (vs vs' : List Value) (hB : BlkG w b T vs) (hy : a.eval y = .agg vs'.toArray) (hl : vs'.length = vs.length) (hi : (P.info? ty).map (·.size) = some vs'.length) (h1 : vs'.all (·.oneCell') = true)
    (h : ∀ w', BlkG w' b T vs' → Only (· = b) w w' → wpListIn F N P ops Q rest (a.put o.dst undef) w') : wpListIn F N P ops Q (o :: rest) a w := by
  refine wpListIn_plain hgd fun K hK' => ?_
  unfold Oper.wpIn
  refine ⟨by simp [Oper.about, ho], ?_⟩
  rw [Oper.semAt_plain F _ _ (by rw [ho]; intro c hc; cases hc)]
  have hrun := run_storeAt_mid (P := P) w b 0 ty vs'.toArray (by simpa [hl] using hB.there) (by simpa using hi) (by simpa using h1)
  unfold execOp
  simp only [ho, hx, hy, Sem.run_bind, hrun, Result.andThen_ok, Sem.run_pure, Oper.uponIn]
  refine hK' _ _ (h _ ?_ (setCells_only _ _ _ _))
  have := setCells_blk b T vs' [] vs w (by simpa [BlkG] using hB) (by simp [hl])
  simpa [BlkG] using this
theorem wpAt_block {F : Fence} {n : Nat} {P : Program} {f0 : FuncId} {Q : Exit → Act → World → Prop} {a : Act} {w : World} {id : Nat} {c : Code} (h : Code.wpAt f0 F n P c (Exit.inBlock id Q) a w) : Code.wpAt f0 F n P (Code.block id c) Q a w := by
  intro b k cs hf hro hb hr
  have h0 : (lone (b.atR a (.code (.block id c) :: k)) cs w).fenced P F := fenced_calm hb hr rfl
  obtain ⟨e, a₁, w₁, hq, harr⟩ := h b (.inBlock id :: k) cs hf hro hb hr
  cases e with
  | normal => exact ⟨.normal, a₁, w₁, hq, .head h0 stepR_block (StepsIn.trans harr (.one (fenced_calm hb hr rfl) stepR_inBlock))⟩
  | exit id' =>
    by_cases hid : id' = id
    · simp only [Exit.inBlock, hid, if_true] at hq
      exact ⟨.normal, a₁, w₁, hq, .head h0 stepR_block (harr.1 k (by simp [exitTo, hid]))⟩
    · simp only [Exit.inBlock, hid, if_false] at hq
      have this : (id == id') = false := by simp; exact fun h => hid h.symm
      have hx : exitTo id' (.inBlock id :: k) = exitTo id' k := by simp [exitTo, this]
      exact ⟨.exit id', a₁, w₁, hq, fun k' hk => .head h0 stepR_block (harr.1 k' (by rw [hx]; exact hk)),
        fun hr' hk => let ⟨k₁, h1, h2⟩ := harr.2 hr' (by rw [hx]; exact hk); ⟨k₁, h1, .head h0 stepR_block h2⟩⟩
  | goto l =>
    have hx : gotoIn l (.inBlock id :: k) = gotoIn l k := by simp [gotoIn]
    exact ⟨_, a₁, w₁, hq, fun k' hk => .head h0 stepR_block (harr.1 k' (by rw [hx]; exact hk)),
      fun hr' hk => let ⟨k₁, h1, h2⟩ := harr.2 hr' (by rw [hx]; exact hk); ⟨k₁, h1, .head h0 stepR_block h2⟩⟩
  | ret => exact ⟨_, a₁, w₁, hq, .of_steps (.one h0 stepR_block) harr⟩
  | panic ch => exact ⟨_, a₁, w₁, hq, .of_steps (.one h0 stepR_block) harr⟩
  | outgrown => exact ⟨_, a₁, w₁, hq, .of_steps (.one h0 stepR_block) harr⟩
def alF (cs : List Nat) (B : BlkN) (l : List Nat) (o : Option StN) : Option StN := l.foldl (fun o i => o.bind fun s => if B.first ≤ i ∧ i ≤ B.last then (opS cs i).map (thenS s) else some s) o
def aloneS (cs : List Nat) (B : BlkN) : Option StN := if B.exit = true then none else alF cs B (opsL cs) (some zeroS)
theorem alF_none (cs : List Nat) (B : BlkN) : ∀ l, alF cs B l none = none
  | [] => rfl
  | x :: l => by unfold alF; rw [List.foldl_cons]; exact alF_none cs B l
theorem alF_app (cs : List Nat) (B : BlkN) (l m : List Nat) (o : Option StN) : alF cs B (l ++ m) o = alF cs B m (alF cs B l o) := by unfold alF; rw [List.foldl_append]
theorem alF_snoc (cs : List Nat) (B : BlkN) (l : List Nat) (x : Nat) (s : StN) (h : alF cs B l (some zeroS) = some s) : alF cs B (l ++ [x]) (some zeroS) = if B.first ≤ x ∧ x ≤ B.last then (opS cs x).map (thenS s) else some s := by
  rw [alF_app, h]; rfl
theorem alF_cut {cs : List Nat} {B : BlkN} {k : Nat} (h : alF cs B ((opsL cs).take k) (some zeroS) = none) : alF cs B (opsL cs) (some zeroS) = none := by
  rw [← List.take_append_drop k (opsL cs), alF_app, h, alF_none]
theorem sm_zero : SmS 0 zeroS := ⟨by decide, by decide, by decide, by decide, by decide⟩
theorem sm_then {A B : Int} {s o : StN} (h : SmS A s) (k : SmS B o) : SmS (A + B) (thenS s o) := by
  obtain ⟨a0, a1, a2, a3, a4⟩ := h
  obtain ⟨b0, b1, b2, b3, b4⟩ := k
  refine ⟨?_, ?_, ?_, ?_, ?_⟩ <;> simp only [thenS, smallF, bigF] <;> (try split) <;> omega
theorem sm_or {A : Int} {s o : StN} (h : SmS A s) (k : SmS A o) : SmS A (orS s o) := by
  obtain ⟨a0, a1, a2, a3, a4⟩ := h
  obtain ⟨b0, b1, b2, b3, b4⟩ := k
  refine ⟨?_, ?_, ?_, ?_, ?_⟩ <;> simp only [orS, smallF, bigF] <;> (try split) <;> omega
theorem sm_up {A B : Int} {s : StN} (h : SmS A s) (hAB : A ≤ B) : SmS B s := by
  obtain ⟨a0, a1, a2, a3, a4⟩ := h
  exact ⟨by omega, by omega, by omega, by omega, by omega⟩
theorem sm_op {cs : List Nat} (h : ∀ b ∈ cs, b < 256) {i : Nat} {s : StN} (hs : opS cs i = some s) : SmS 32000 s := by
  unfold opS at hs
  split at hs
  · cases hs
    obtain ⟨h1, h2, h3⟩ := info_small _ (byN_lt h i)
    refine ⟨?_, ?_, ?_, ?_, ?_⟩ <;> simp only [opT, bigF] <;> (try split) <;> omega
  · cases hs
def LookC (a : Option Addr) (n c : Nat) (mb : Nat) (en : Int) (kb db : Nat) : List Value := [.slice a n c, .map (some mb), .int .i64 en, .map (some kb), .map (some db)]
def AlI (cs : List Nat) (B : BlkN) (w1 : World) (ob : Nat) (_ : Nat → Prop) (pre : List Nat) (W : World) : Prop :=
  ∃ acc, alF cs B pre (some zeroS) = some acc ∧ SmS (32000 * pre.length) acc ∧ BlkG W ob 142 (stC acc) ∧ Only (fun k => k = ob ∨ w1.heap.size ≤ k) w1 W
def AlP (cs : List Nat) (B : BlkN) (w1 : World) (ob : Nat) (ch : List PanicEntry) (_ : Nat → Prop) (_ : List Nat) (W : World) : Prop :=
  ch = noneP ∧ alF cs B (opsL cs) (some zeroS) = none ∧ Only (fun k => k = ob ∨ w1.heap.size ≤ k) w1 W
theorem alI_stable (cs : List Nat) (B : BlkN) (w1 : World) (ob : Nat) (h : ob < w1.heap.size) : Stable w1.heap.size (AlI cs B w1 ob) := by
  rintro O O' pre W W' ⟨acc, h1, h2, h3, h4⟩ hO hon hO'
  exact ⟨acc, h1, h2, h3.only hon (fun hk => by have := hO _ hk; omega), h4.trans (hon.mono fun k _ hk => .inr (hO k hk))⟩
set_option maxRecDepth 100000 in
set_option maxHeartbeats 4000000 in
theorem aloneB_any (cs : List Nat) (B : BlkN) (lb : Nat) (a : Option Addr) (c mb : Nat) (en : Int) (kb db : Nat) (p : Option Addr) (q : Nat) (w : World) (hC : CodeAt w a c cs) (hL : BlkG w lb 146 (LookC a cs.length c mb en kb db)) :
    Calls Tryz.prog 151 #[.pointer (some ⟨lb, 0, none⟩), blkV p q B] w fun e w' => StR (aloneS cs B) e ∧ Below w.heap.size w w' := by
  have hb3 : Below w.heap.size w (((w.alloc (.cells #[.pointer (some ⟨lb, 0, none⟩)] 108)).alloc (.cells #[.int .i64 B.first, .int .i64 B.last, .slice p B.next.length q, .bool B.exit] 51)).alloc (.cells #[.int .u64 0, .int .u64 0, .int .i64 0, .int .i64 0, .int .i64 0] 142)) := xalloc (xalloc (xalloc (xrefl w) _) _) _
  have hP3 : BlkG (((w.alloc (.cells #[.pointer (some ⟨lb, 0, none⟩)] 108)).alloc (.cells #[.int .i64 B.first, .int .i64 B.last, .slice p B.next.length q, .bool B.exit] 51)).alloc (.cells #[.int .u64 0, .int .u64 0, .int .i64 0, .int .i64 0, .int .i64 0] 142)) w.heap.size 108 [.pointer (some ⟨lb, 0, none⟩)] := ((BlkG.new w _ _).alloc _).alloc _
  have hX3 : BlkG (((w.alloc (.cells #[.pointer (some ⟨lb, 0, none⟩)] 108)).alloc (.cells #[.int .i64 B.first, .int .i64 B.last, .slice p B.next.length q, .bool B.exit] 51)).alloc (.cells #[.int .u64 0, .int .u64 0, .int .i64 0, .int .i64 0, .int .i64 0] 142)) (w.heap.size + 1) 51 [.int .i64 B.first, .int .i64 B.last, .slice p B.next.length q, .bool B.exit] := by have := (BlkG.new (w.alloc (.cells #[.pointer (some ⟨lb, 0, none⟩)] 108)) 51 [.int .i64 B.first, .int .i64 B.last, .slice p B.next.length q, .bool B.exit]).alloc (.cells #[.int .u64 0, .int .u64 0, .int .i64 0, .int .i64 0, .int .i64 0] 142); rwa [World.size_alloc] at this
  have hR3 : BlkG (((w.alloc (.cells #[.pointer (some ⟨lb, 0, none⟩)] 108)).alloc (.cells #[.int .i64 B.first, .int .i64 B.last, .slice p B.next.length q, .bool B.exit] 51)).alloc (.cells #[.int .u64 0, .int .u64 0, .int .i64 0, .int .i64 0, .int .i64 0] 142)) (w.heap.size + 1 + 1) 142 [.int .u64 0, .int .u64 0, .int .i64 0, .int .i64 0, .int .i64 0] := by have := BlkG.new ((w.alloc (.cells #[.pointer (some ⟨lb, 0, none⟩)] 108)).alloc (.cells #[.int .i64 B.first, .int .i64 B.last, .slice p B.next.length q, .bool B.exit] 51)) 142 [.int .u64 0, .int .u64 0, .int .i64 0, .int .i64 0, .int .i64 0]; rwa [World.size_alloc, World.size_alloc] at this
  have hs3 : (((w.alloc (.cells #[.pointer (some ⟨lb, 0, none⟩)] 108)).alloc (.cells #[.int .i64 B.first, .int .i64 B.last, .slice p B.next.length q, .bool B.exit] 51)).alloc (.cells #[.int .u64 0, .int .u64 0, .int .i64 0, .int .i64 0, .int .i64 0] 142)).heap.size = w.heap.size + 1 + 1 + 1 := by rw [World.size_alloc, World.size_alloc, World.size_alloc]
  have cx3 : (((w.alloc (.cells #[.pointer (some ⟨lb, 0, none⟩)] 108)).alloc (.cells #[.int .i64 B.first, .int .i64 B.last, .slice p B.next.length q, .bool B.exit] 51)).alloc (.cells #[.int .u64 0, .int .u64 0, .int .i64 0, .int .i64 0, .int .i64 0] 142)).cell? ⟨w.heap.size + 1, 3, none⟩ = some (.bool B.exit) := hX3.cell 3 (by simp)
  refine (callsIn_wide (n := 0)).1 ?_
  refine callsIn_of_wpAt_marks Tryz.func151 rfl trivial ?_ rfl
  simp only [Tryz.ntmps151, List.size_toArray, List.length_cons, List.length_nil, Nat.reduceAdd, Nat.reduceSub, Array.replicate_succ, Array.replicate_zero, List.push_toArray, List.append_toArray, List.nil_append, List.cons_append]
  refine wpAt_seq (wpAt_of_wpIn ?_)
  unfold blkV blkC
  gi_wp2
  refine wpAt_seq (wpAt_of_wpIn ?_)
  obtain ⟨w3, hw3⟩ : ∃ w3, (((w.alloc (.cells #[.pointer (some ⟨lb, 0, none⟩)] 108)).alloc (.cells #[.int .i64 B.first, .int .i64 B.last, .slice p B.next.length q, .bool B.exit] 51)).alloc (.cells #[.int .u64 0, .int .u64 0, .int .i64 0, .int .i64 0, .int .i64 0] 142)) = w3 := ⟨_, rfl⟩
  rw [hw3] at hb3 hP3 hX3 hR3 cx3 hs3 ⊢
  clear hw3
  cases hx : B.exit with
  | true =>
    rw [hx] at cx3
    have e0 : aloneS cs B = none := by unfold aloneS; rw [if_pos hx]
    rw [e0]
    replace hb3 := qh hb3
    clear hP3 hX3 hR3
    gi_wp2
    refine ⟨trivial, rfl, (callsIn_wide.2 (must_false _)).mono ?_⟩
    rintro e w' ⟨rfl, rfl⟩
    exact ⟨rfl, hb3.out⟩
  | false =>
    rw [hx] at cx3 hX3
    have hfin : aloneS cs B = alF cs B (opsL cs) (some zeroS) := by unfold aloneS; rw [if_neg (by rw [hx]; simp)]
    rw [hfin]
    have hlen := hC.len
    have hol := opsL_len cs
    have hok := hC.ok
    replace hb3 := qh hb3
    replace hP3 := qh hP3
    replace hX3 := qh hX3
    replace hR3 := qh hR3
    replace hs3 := qh hs3
    replace hC := qh hC
    have hC0 := hC
    replace hL := qh hL
    gi_wp2
    refine ⟨trivial, rfl, (callsIn_wide.2 (must_true _)).mono ?_⟩
    rintro e w' ⟨rfl, rfl⟩
    gi_wp2
    refine wpAt_seq (wpAt_of_wpIn ?_)
    gi_wp2
    have hb4 : Below w3.heap.size w3 (w3.alloc (.cells #[.int .u64 0, .int .u64 0, .int .i64 0, .int .i64 0, .int .i64 0] 142)) := xalloc (xrefl w3) _
    have hA4 : BlkG (w3.alloc (.cells #[.int .u64 0, .int .u64 0, .int .i64 0, .int .i64 0, .int .i64 0] 142)) (w.heap.size + 1 + 1 + 1) 142 (stC zeroS) := by have := BlkG.new w3 142 (stC zeroS); rw [hs3.out] at this; exact this
    have hs4 : (w3.alloc (.cells #[.int .u64 0, .int .u64 0, .int .i64 0, .int .i64 0, .int .i64 0] 142)).heap.size = w.heap.size + 1 + 1 + 1 + 1 := by rw [World.size_alloc, hs3.out]
    have hP4 := qh (hP3.out.below hb4)
    have hX4 := qh (hX3.out.below hb4)
    have hR4 := qh (hR3.out.below hb4)
    have hb04 := xtrans hb3.out hb4
    have hL4 := hL.out.below hb04
    have hC4 := qh (hC.out.below hb04)
    obtain ⟨w4, hw4⟩ : ∃ w4, w3.alloc (.cells #[.int .u64 0, .int .u64 0, .int .i64 0, .int .i64 0, .int .i64 0] 142) = w4 := ⟨_, rfl⟩
    rw [hw4] at hb04 hA4 hs4 hP4 hX4 hR4 hL4 hC4 ⊢
    rw [hs3.out]
    have cl4 : w4.cell? ⟨w.heap.size, 0, none⟩ = some (.pointer (some ⟨lb, 0, none⟩)) := hP4.out.cell 0 (by simp)
    have ct4 : w4.cell? ⟨lb, 0, none⟩ = some (.slice a cs.length c) := hL4.cell 0 (by simp [LookC])
    have hlb : lb < w.heap.size := hL.out.lt
    have hold := qh (fun k (h0 : cs ≠ [] ∧ ∃ y, a = some y ∧ y.block = k) => codeRd_old (w' := w) (bx := 0) hC.out h0.2 h0.1)
    clear hw4 hb4 hP3 hX3 hR3 hb3 hs3 cx3
    replace hb04 := qh hb04
    replace hA4 := qh hA4
    replace hs4 := qh hs4
    replace hL4 := qh hL4
    refine wpAt_seq (wpAt_seq (wpAt_of_wpIn ?_))
    gi_wp2
    refine ⟨trivial, rfl, (callsIn_wide.2 (ops_any _ _ _ _)).mono ?_⟩
    rintro e w' ⟨rfl, rfl⟩
    have hb5 : Below w4.heap.size w4 (w4.alloc (.cells #[.slice a cs.length c] 22)) := xalloc (xrefl w4) _
    have hx5 : Box (w4.alloc (.cells #[.slice a cs.length c] 22)) w4.heap.size (.slice a cs.length c) 22 := Box.new w4 _ _
    have hs5 : (w4.alloc (.cells #[.slice a cs.length c] 22)).heap.size = w4.heap.size + 1 := World.size_alloc _ _
    have hA5 := hA4.out.below hb5
    have hP5 := hP4.out.below hb5
    have hX5 := hX4.out.below hb5
    have hR5 := hR4.out.below hb5
    have hL5 := hL4.out.below hb5
    have hC5 := hC4.out.below hb5
    have hb05 := xtrans hb04.out hb5
    obtain ⟨w5, hw5⟩ : ∃ w5, w4.alloc (.cells #[.slice a cs.length c] 22) = w5 := ⟨_, rfl⟩
    rw [hw5] at hx5 hs5 hA5 hP5 hX5 hR5 hL5 hC5 hb05 ⊢
    clear hw5 hb5
    have hbx : w4.heap.size = w.heap.size + 1 + 1 + 1 + 1 := hs4.out
    rw [hbx] at hx5 hs5 ⊢
    clear cl4 ct4 hb04 hA4 hs4 hL4 hP4 hX4 hR4 hC4 hL hC hbx
    replace hA5 := qh hA5
    replace hP5 := qh hP5
    replace hX5 := qh hX5
    replace hR5 := qh hR5
    replace hL5 := qh hL5
    replace hC5 := qh hC5
    replace hb05 := qh hb05
    replace hx5 := qh hx5
    gi_wp2
    refine wpAt_block ?_
    refine wp_rangeX (gf := 130) (lb := #[.pointer (some ⟨w.heap.size + 1 + 1 + 1 + 1, 0, none⟩)]) rfl (enters_of Tryz.func130 (by kernel_rfl) rfl) (encs := encOp cs) (Rd := codeRd (w.heap.size + 1 + 1 + 1 + 1) a cs)
      (S := fun xs => xs = opsL cs) (Sp := fun pre => ∃ k, k ≤ (opsL cs).length ∧ pre = (opsL cs).take k) (N := (opsL cs).length)
      (fun k hk => by
        rcases hk with rfl | hk
        · omega
        · have := hold.out k hk; omega) (fun W hW => ops_seqX cs _ a c W (hx5.out.below hW) (hC5.out.below hW)) (fun x => rfl) (AlI cs B w5 (w.heap.size + 1 + 1 + 1)) (fun _ _ _ _ => False) (AlP cs B w5 (w.heap.size + 1 + 1 + 1)) (alI_stable cs B w5 _ (by omega)) (fun _ _ _ _ _ _ h _ _ _ => h)
      ⟨zeroS, rfl, by simpa using sm_zero, hA5.out, Only.refl _ _⟩ ⟨_, Tryz.func151⟩ ?round ?done ?stop ?pan
    case round =>
      rintro l O pre x W1 hOl hO ⟨acc, hac, hsm, hA, hon0⟩ hlen ⟨k0, hk0, hsp⟩
      obtain ⟨hxl, hxe, -⟩ := take_snoc hk0 hsp
      have hxm : x < cs.length := by rw [← hxe]; exact opsL_lt (List.getElem_mem hxl)
      have hstep := alF_snoc cs B pre x acc hac
      have hcutn := fun h => alF_cut (cs := cs) (B := B) (k := k0) (by rw [← hsp]; exact h)
      have hxl2 := hO l hOl
      unfold encOp
      dsimp only
      gi_wp2
      refine ⟨Keep.refl _ _, fun W2 hon => ?_⟩
      have hsz2 := hon.size
      have hon2 : Only (fun k => k = w.heap.size + 1 + 1 + 1 ∨ w5.heap.size ≤ k) w5 W2 := hon0.trans (hon.mono fun k _ e => .inr (by rw [e]; exact hxl2.1))
      have hA2 : BlkG W2 (w.heap.size + 1 + 1 + 1) 142 (stC acc) := hA.only hon (fun e => by omega)
      have hX2 := hX5.out.only hon2 (by omega)
      have hL2 := hL5.out.only hon2 (by omega)
      have hP2 := hP5.out.only hon2 (by omega)
      have hb2 := hon2.below hb05.out (by omega) (by rintro k (rfl | h) <;> omega)
      have hC2 : Hid (∀ W, Below W2.heap.size W2 W → CodeAt W a c cs) := qh fun W hW => hC0.out.below (xtrans hb2 hW)
      have hsmo := fun s h => sm_op (s := s) (i := x) hok h
      have cx0 : W2.cell? ⟨w.heap.size + 1, 0, none⟩ = some (.int .i64 B.first) := hX2.cell 0 (by simp)
      have cx1 : W2.cell? ⟨w.heap.size + 1, 1, none⟩ = some (.int .i64 B.last) := hX2.cell 1 (by simp)
      have cl2 : W2.cell? ⟨w.heap.size, 0, none⟩ = some (.pointer (some ⟨lb, 0, none⟩)) := hP2.cell 0 (by simp)
      have hT2 : Hid (W2.rangeAt lb 0 [.slice a cs.length c]) := qh fun j v hj => by
        have : j = 0 := by
          have := (List.getElem?_eq_some_iff.1 hj).1
          simpa using this
        subst this
        have e : v = .slice a cs.length c := by simpa using hj.symm
        rw [e]
        exact hL2.cell 0 (by simp [LookC])
      have hkeep : ∀ W', Only (fun k => k = w.heap.size + 1 + 1 + 1 ∨ W2.heap.size ≤ k) W2 W' → Keep (fun k => O k ∨ codeRd (w.heap.size + 1 + 1 + 1 + 1) a cs k) W2 W' := fun W' ho => ⟨ho.size, fun k hk hr => ho.same k hk (by
        rcases hr with h | h | h
        · have := hO k h; omega
        · omega
        · have := hold.out k h; omega)⟩
      have hsmn : (32000 : Int) * pre.length + 32000 = 32000 * (pre ++ [x]).length := by rw [List.length_append]; simp; omega
      have hup : (32000 : Int) * pre.length ≤ 1000000000000000 := by omega
      have hu := Tryz.underlying142
      have hut := Tryz.underlying144
      have hfre := hA2.free
      replace hA2 := qh hA2
      replace hkeep := qh hkeep
      replace hon2 := qh hon2
      replace hb2 := qh hb2
      clear hX2 hL2 hP2 hA hon hon0 hsp hxe
      by_cases h1 : B.first ≤ x
      · have h1I : (B.first : Int) ≤ (x : Int) := by omega
        by_cases h2 : x ≤ B.last
        · have h2I : (x : Int) ≤ (B.last : Int) := by omega
          rw [if_pos ⟨h1, h2⟩] at hstep
          have hop := fun W (hW : Below w.heap.size w W) => op_any cs x a c W (hC0.out.below hW) hxm
          cases hox : opS cs x with
          | some y =>
            rw [hox] at hstep hop
            unfold StR at hop
            have hsy := hsmo y hox
            have hth := qh fun W => then_any acc y W (sm_up hsm hup) (sm_up hsy (by omega))
            have hst2 : alF cs B (pre ++ [x]) (some zeroS) = some (thenS acc y) := hstep
            have hsm2 : SmS (32000 * (pre ++ [x]).length) (thenS acc y) := by rw [← hsmn]; exact sm_then hsm hsy
            replace hop := qh hop
            replace hst2 := qh hst2
            replace hsm2 := qh hsm2
            clear hstep hox hcutn hsy hsm hac hsmo
            gi_wp2
            refine' wpIn_region_growS (goesB (fun _ _ => False)) 9 [fixdS (.agg (stC acc).toArray), fixdS _, fixdS _, fixdS _, fixdS (.agg #[.slice a cs.length c]), fixdS _, fixdS _, fixdS (stV y), fixdS (stV (thenS acc y))] (by kernel_rfl) (by kernel_rfl) (by kernel_rfl) trivial (fun x ch W hd h => h.elim) ?_
            rotate_left 5
            simp only [List.take_succ_cons, List.take_zero, List.drop_succ_cons, List.drop_zero]
            try simp only [Act.put, zA, zB, zC, zD, zE]
            refine wpGrowS_load_part rfl 142 _ rfl (w.heap.size + 1 + 1 + 1) 0 rfl (stC acc) _ (fun W hb => rangeAt_below (blk_range hA2.out) hb) hu rfl (by kernel_rfl) rfl rfl ?_
            try simp only [Act.put, zA, zB, zC, zD, zE]
            refine' wpGrowS_fix _ rfl rfl rfl (fun b W hS hb _ => by have c := cbel hb cl2; go_simp; first | exact xrefl W | exact ⟨rfl, xrefl W⟩) ?_
            try simp only [Act.put, zA, zB, zC, zD, zE]
            refine' wpGrowS_fix _ rfl rfl rfl (fun b W hS hb _ => by go_simp; first | exact xrefl W | exact ⟨rfl, xrefl W⟩) ?_
            try simp only [Act.put, zA, zB, zC, zD, zE]
            refine' wpGrowS_fix _ rfl rfl rfl (fun b W hS hb _ => by go_simp; first | exact xrefl W | exact ⟨rfl, xrefl W⟩) ?_
            try simp only [Act.put, zA, zB, zC, zD, zE]
            refine wpGrowS_load_part rfl 144 _ rfl lb 0 rfl [.slice a cs.length c] _ (fun W hb => rangeAt_below hT2.out hb) hut rfl (by kernel_rfl) rfl rfl ?_
            try simp only [Act.put, zA, zB, zC, zD, zE]
            refine' wpGrowS_fix _ rfl rfl rfl (fun b W hS hb _ => by go_simp; first | exact xrefl W | exact ⟨rfl, xrefl W⟩) ?_
            try simp only [Act.put, zA, zB, zC, zD, zE]
            refine' wpGrowS_fix _ rfl rfl rfl (fun b W hS hb _ => by go_simp; first | exact xrefl W | exact ⟨rfl, xrefl W⟩) ?_
            try simp only [Act.put, zA, zB, zC, zD, zE]
            refine wpGrowS_fix (stV y) rfl rfl rfl (fun b W hS hb _ => ?_) ?_
            · go_simp
              go_at_call 165
              refine (hop.out W (xtrans hb2.out hb)).mono ?_
              rintro e w' ⟨rfl, hb'⟩
              exact ⟨rfl, hb'⟩
            try simp only [Act.put, zA, zB, zC, zD, zE]
            refine wpGrowS_fix (stV (thenS acc y)) rfl rfl rfl (fun b W hS hb _ => ?_) ?_
            · go_simp
              go_at_call 152
              refine (hth.out W).mono ?_
              rintro e w' ⟨rfl, hb'⟩
              exact ⟨rfl, hb'⟩
            try simp only [Act.put, zA, zB, zC, zD, zE]
            refine wpGrowS_nil fun W5 hb5 _ _ => ?_
            have hA5b := qh (hA2.out.below hb5)
            gi_wp2_with (refine wpListIn_store_blkG rfl 142 _ _ rfl (w.heap.size + 1 + 1 + 1) rfl 142 (stC acc) (stC (thenS acc y)) hA5b.out rfl rfl (by kernel_rfl) rfl ?_; intro W6 hA6 ho6; replace hA6 := qh hA6; replace ho6 := qh ho6)
            have hto : Only (fun k => k = w.heap.size + 1 + 1 + 1 ∨ W2.heap.size ≤ k) W2 W6 := (Below.only hb5).trans (ho6.out.mono fun k _ e => .inl e)
            exact ⟨hkeep.out _ hto, thenS acc y, hst2.out, hsm2.out, hA6.out, hon2.out.trans (hto.mono fun k _ e => e.imp id fun h => Nat.le_trans hon2.out.size h)⟩
          | none =>
            rw [hox] at hstep hop
            unfold StR at hop
            have hno := qh (hcutn hstep)
            replace hop := qh hop
            clear hstep hox hcutn hsm hac hsmo
            gi_wp2
            refine' wpIn_region_growS (goesB (fun ch W' => ch = noneP ∧ Below W2.heap.size W2 W')) 9 [fixdS (.agg (stC acc).toArray), fixdS _, fixdS _, fixdS _, fixdS (.agg #[.slice a cs.length c]), fixdS _, fixdS _, neverT, fixdS undef] (by kernel_rfl) (by kernel_rfl) (by kernel_rfl) trivial (fun x ch W hd h => ?_) ?_
            rotate_left 6
            simp only [List.take_succ_cons, List.take_zero, List.drop_succ_cons, List.drop_zero]
            try simp only [Act.put, zA, zB, zC, zD, zE]
            refine wpGrowS_load_part rfl 142 _ rfl (w.heap.size + 1 + 1 + 1) 0 rfl (stC acc) _ (fun W hb => rangeAt_below (blk_range hA2.out) hb) hu rfl (by kernel_rfl) rfl rfl ?_
            try simp only [Act.put, zA, zB, zC, zD, zE]
            refine' wpGrowS_fix _ rfl rfl rfl (fun b W hS hb _ => by have c := cbel hb cl2; go_simp; first | exact xrefl W | exact ⟨rfl, xrefl W⟩) ?_
            try simp only [Act.put, zA, zB, zC, zD, zE]
            refine' wpGrowS_fix _ rfl rfl rfl (fun b W hS hb _ => by go_simp; first | exact xrefl W | exact ⟨rfl, xrefl W⟩) ?_
            try simp only [Act.put, zA, zB, zC, zD, zE]
            refine' wpGrowS_fix _ rfl rfl rfl (fun b W hS hb _ => by go_simp; first | exact xrefl W | exact ⟨rfl, xrefl W⟩) ?_
            try simp only [Act.put, zA, zB, zC, zD, zE]
            refine wpGrowS_load_part rfl 144 _ rfl lb 0 rfl [.slice a cs.length c] _ (fun W hb => rangeAt_below hT2.out hb) hut rfl (by kernel_rfl) rfl rfl ?_
            try simp only [Act.put, zA, zB, zC, zD, zE]
            refine' wpGrowS_fix _ rfl rfl rfl (fun b W hS hb _ => by go_simp; first | exact xrefl W | exact ⟨rfl, xrefl W⟩) ?_
            try simp only [Act.put, zA, zB, zC, zD, zE]
            refine' wpGrowS_fix _ rfl rfl rfl (fun b W hS hb _ => by go_simp; first | exact xrefl W | exact ⟨rfl, xrefl W⟩) ?_
            try simp only [Act.put, zA, zB, zC, zD, zE]
            refine wpGrowS_any neverT rfl rfl (fun b W _ hS hb _ => ?_) (fun v hv => ?_)
            · go_simp
              go_at_call 165
              refine (hop.out W (xtrans hb2.out hb)).mono ?_
              rintro e w' ⟨rfl, hb'⟩
              exact .inr ⟨_, rfl, rfl, xtrans hb hb'⟩
            have hv : v = undef := hv
            subst hv
            try simp only [Act.put, zA, zB, zC, zD, zE]
            refine wpGrowS_fix undef rfl rfl rfl (fun b W hS hb hF => ?_) ?_
            · exact (hF 7 (by kernel_rfl) (by simp)).elim
            try simp only [Act.put, zA, zB, zC, zD, zE]
            · refine wpGrowS_nil fun W5 hb5 _ hmem => ?_
              exact (hmem 7 (by decide)).elim
            have hto : Only (fun k => k = w.heap.size + 1 + 1 + 1 ∨ W2.heap.size ≤ k) W2 W := Below.only h.2
            exact ⟨by simpa using hd, hkeep.out _ hto, h.1, hno.out, hon2.out.trans (hto.mono fun k _ e => e.imp id fun h => Nat.le_trans hon2.out.size h)⟩
        · have h2I : ¬ (x : Int) ≤ (B.last : Int) := by omega
          rw [if_neg (fun h => h2 h.2)] at hstep
          replace hstep := qh hstep
          have hsm2 := qh (sm_up hsm (B := 32000 * (pre ++ [x]).length) (by omega))
          clear hsm hac hcutn hsmo
          gi_wp2
          exact ⟨hkeep.out _ (Only.refl _ _), acc, hstep.out, hsm2.out, hA2.out, hon2.out⟩
      · have h1I : ¬ (B.first : Int) ≤ (x : Int) := by omega
        rw [if_neg (fun h => h1 h.1)] at hstep
        replace hstep := qh hstep
        have hsm2 := qh (sm_up hsm (B := 32000 * (pre ++ [x]).length) (by omega))
        clear hsm hac hcutn hsmo
        gi_wp2
        exact ⟨hkeep.out _ (Only.refl _ _), acc, hstep.out, hsm2.out, hA2.out, hon2.out⟩
    case done =>
      rintro D xs O W hD hOD hO rfl ⟨acc, hac, hsm, hA, hon0⟩ hK
      rw [hac]
      have hu := Tryz.underlying142
      have hR6 := qh (hR5.out.only hon0 (by omega))
      have hb6 := qh (hon0.below hb05.out (by omega) (by rintro k (rfl | h) <;> omega))
      have hDl := Array.getElem?_eq_some_iff.1 hK |>.1
      replace hA := qh hA
      replace hK := qh hK
      have hDo : D ≠ w.heap.size + 1 + 1 := by omega
      clear hon0 hsm hac
      refine wpAt_of_wpIn (wpIn_wide.2 ?_)
      go_wp2_with (first
        | (refine wpList_load_blkG rfl 142 _ rfl (w.heap.size + 1 + 1 + 1) rfl 142 (stC acc) _ hA.out hu rfl (by kernel_rfl) ?_)
        | (refine wpList_store_blkG rfl 142 _ _ rfl (w.heap.size + 1 + 1) rfl 142 [.int .u64 0, .int .u64 0, .int .i64 0, .int .i64 0, .int .i64 0] (stC acc) hR6.out rfl rfl (by kernel_rfl) rfl ?_; intro w7 hR7 ho7; have hK7 := qh ((ho7.same D (Array.getElem?_eq_some_iff.1 hK.out).1 hDo).trans hK.out); replace hR7 := qh hR7; replace hb6 := qh (ho7.below hb6.out hb6.out.size (by rintro k rfl; omega)); clear ho7))
      have ho := (Only.refl (fun k => k = D) w7).putObj D (.deferred none) rfl
      refine ⟨by simp, .inl ⟨_, _, rfl, run_takeDeferred hK7.out, ?_⟩⟩
      exact ⟨_, results_blkG rfl _ _ (w.heap.size + 1 + 1) 142 _ _ rfl (hR7.out.only ho (by omega)) hu rfl (by kernel_rfl), rfl, ho.below hb6.out hb6.out.size (by rintro k rfl; omega)⟩
    case stop =>
      rintro D c' pre O W hD hOD hO hSp hf hK
      exact hf.elim
    case pan =>
      rintro D ch pre O W hD hOD hO hSp ⟨rfl, hno, hon0⟩ hK
      rw [hno]
      have hb6 := hon0.below hb05.out (by omega) (by rintro k (rfl | h) <;> omega)
      have ho := (Only.refl (fun k => k = D) W).putObj D (.deferred none) rfl
      refine ⟨by simp, .inl ⟨_, _, rfl, run_takeDeferred hK, ?_⟩⟩
      exact ⟨rfl, ho.below hb6 hb6.size (by rintro k rfl; omega)⟩
end Go.Proofs.YtijkdabmegbcjaaGreatDoor
