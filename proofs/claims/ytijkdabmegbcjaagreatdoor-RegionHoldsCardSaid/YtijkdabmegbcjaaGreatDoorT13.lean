/- Texts of this claim, merged; no condition. -/
import Derived.Test.YtijkdabmegbcjaaGreatDoorT12
import Derived.Test.YtijkdabmegbcjaaGreatDoorTA
set_option linter.all false
namespace Go.Proofs.YtijkdabmegbcjaaGreatDoor
open Go.RowKit
theorem fixed_last {cs g : List Nat} (hg : g ∈ grps cs) : fixedN cs (lstN g) = fixG cs g := by
  unfold fixedN
  cases h : (grps cs).find? (fun g' => decide (lstN g' = lstN g)) with
  | none =>
    have := List.find?_eq_none.1 h g hg
    simp at this
  | some g' =>
    have h1 := List.mem_of_find?_eq_some h
    have h2 := List.find?_some h
    simp at h2
    have : g' = g := grps_one h1 hg (by rw [← h2]; exact lst_mem (grps_ne h1)) (lst_mem (grps_ne hg))
    rw [this]
theorem end_not {x : Nat} (h : endN x = true) : x ≠ 86 ∧ x ≠ 87 := by
  constructor <;> (rintro rfl; revert h; decide)
theorem blk_end {cs g : List Nat} (h : endN (byN cs (lstN g)) = true) : blkN cs g = ⟨fstN g, lstN g, [], true⟩ := by
  obtain ⟨h1, h2⟩ := end_not h
  unfold blkN tosJ tosF
  rw [if_pos ⟨h1, h2⟩, if_neg h1, if_pos (.inl h)]
  rfl
theorem blk_86 {cs g : List Nat} (h : byN cs (lstN g) = 86) : blkN cs g = ⟨fstN g, lstN g, setL (tosJ cs g).1, (tosJ cs g).2⟩ := by
  unfold blkN tosF
  rw [if_pos h, List.append_nil, Bool.or_false]
theorem blk_no {cs g : List Nat} (he : endN (byN cs (lstN g)) = false) (h : byN cs (lstN g) ≠ 86) (hn : cs.length ≤ nxN cs (lstN g)) : blkN cs g = ⟨fstN g, lstN g, setL (tosJ cs g).1, true⟩ := by
  unfold blkN tosF
  rw [if_neg h, if_pos (.inr hn), List.append_nil, Bool.or_true]
theorem blk_so {cs g : List Nat} (he : endN (byN cs (lstN g)) = false) (h : byN cs (lstN g) ≠ 86) (hn : nxN cs (lstN g) < cs.length) : blkN cs g = ⟨fstN g, lstN g, insW (nxN cs (lstN g)) (setL (tosJ cs g).1), (tosJ cs g).2⟩ := by
  unfold blkN tosF
  rw [if_neg h, if_neg (by rw [he]; simp; omega), Bool.or_false]
  show _ = _
  rw [setL_snoc]
theorem tos_jump {cs g : List Nat} (hg : g ∈ grps cs) (h : byN cs (lstN g) = 86 ∨ byN cs (lstN g) = 87) : tosJ cs g = match fixedN cs (lstN g) with | none => (marksL cs, true) | some n => if markN cs n = true then ([n], false) else ([], true) := by
  unfold tosJ
  rw [if_neg (by rcases h with h | h <;> simp [h]), fixed_last hg]
  cases fixG cs g <;> rfl
theorem tos_not {cs g : List Nat} (h1 : byN cs (lstN g) ≠ 86) (h2 : byN cs (lstN g) ≠ 87) : tosJ cs g = ([], false) := by
  unfold tosJ
  rw [if_pos ⟨h1, h2⟩]
theorem IntsAt.only {O : Nat → Prop} {w w' : World} {a : Option Addr} {c : Nat} {l : List Nat} (h : IntsAt w a c l) (ho : Only O w w') (ha : ∀ x, a = some x → ¬ O x.block) : IntsAt w' a c l := ⟨h.row.only ho ha, h.nil⟩
def intsT (B : Nat) (l : List Nat) : Told := ⟨fun v => ∃ a c, v = .slice a l.length c, fun v W => ∀ a c, v = .slice a l.length c → IntsAt W a c l ∧ ∀ x, a = some x → B ≤ x.block, ⟨_, none, 0, rfl⟩, fun v W W' h hb a c e => ⟨(h a c e).1.below hb, (h a c e).2⟩⟩
structure XSt (w W : World) (f l : Nat) (nx : List Nat) (e : Bool) (p : Option Addr) (q : Nat) : Prop where
  blk : BlkG W w.heap.size 51 (blkC p q ⟨f, l, nx, e⟩)
  res : BlkG W (w.heap.size + 1) 51 (blkC none 0 blk0)
  ints : IntsAt W p q nx
  new : ∀ x, p = some x → w.heap.size + 2 ≤ x.block
  bel : Below w.heap.size w W
  two : w.heap.size + 2 ≤ W.heap.size
section
variable {w W W' : World} {f l : Nat} {nx nx' : List Nat} {e : Bool} {p p' : Option Addr} {q q' k : Nat}
theorem XSt.step (h : XSt w W f l nx e p q) (hb : Below W.heap.size W W') : XSt w W' f l nx e p q := ⟨h.blk.below hb, h.res.below hb, h.ints.below hb, h.new, xtrans h.bel hb, Nat.le_trans h.two hb.size⟩
theorem XSt.other (h : XSt w W f l nx e p q) (ho : Only (· = k) W W') (hk : w.heap.size + 2 ≤ k) (hp : ∀ x, p = some x → x.block ≠ k) : XSt w W' f l nx e p q :=
  ⟨h.blk.only ho (by omega), h.res.only ho (by omega), h.ints.only ho hp, h.new, ho.below h.bel h.bel.size (by rintro i rfl; omega), Nat.le_trans h.two ho.size⟩
theorem XSt.exit (h : XSt w W f l nx e p q) (hX : BlkG W' w.heap.size 51 ((blkC p q ⟨f, l, nx, e⟩).set 3 (.bool true))) (ho : Only (· = w.heap.size) W W') : XSt w W' f l nx true p q :=
  ⟨hX, h.res.only ho (by omega), h.ints.only ho (fun x hx e => by have := h.new x hx; omega), h.new, ho.below h.bel h.bel.size (by rintro i rfl; omega), Nat.le_trans h.two ho.size⟩
theorem XSt.next (h : XSt w W f l nx e p q) (hX : BlkG W' w.heap.size 51 ((blkC p q ⟨f, l, nx, e⟩).set 2 (.slice p' nx'.length q'))) (ho : Only (· = w.heap.size) W W') (hI : IntsAt W p' q' nx') (hn : ∀ x, p' = some x → w.heap.size + 2 ≤ x.block) : XSt w W' f l nx' e p' q' :=
  ⟨hX, h.res.only ho (by omega), hI.only ho (fun x hx e => by have := hn x hx; omega), hn, ho.below h.bel h.bel.size (by rintro i rfl; omega), Nat.le_trans h.two ho.size⟩
theorem XSt.cells (h : XSt w W f l nx e p q) : W.cell? ⟨w.heap.size, 1, none⟩ = some (.int .i64 l) ∧ W.cell? ⟨w.heap.size, 2, none⟩ = some (.slice p nx.length q) := ⟨h.blk.cell 1 (by show 1 < 4; omega), h.blk.cell 2 (by show 2 < 4; omega)⟩
theorem XSt.far (h : XSt w W f l nx e p q) {a : Option Addr} (ha : ∀ x, a = some x → W.heap.size ≤ x.block) : ∀ x, a = some x → w.heap.size + 2 ≤ x.block := fun x hx => Nat.le_trans h.two (ha x hx)
theorem XSt.done (h : XSt w W f l nx e p q) (ho : Only (· = w.heap.size + 1) W W') : IntsAt W' p q nx ∧ (∀ x, p = some x → w.heap.size ≤ x.block) ∧ Below w.heap.size w W' :=
  ⟨h.ints.only ho (fun x hx e => by have := h.new x hx; omega), fun x hx => by have := h.new x hx; omega, ho.below h.bel h.bel.size (by rintro i rfl; omega)⟩
theorem XSt.start (w : World) (f l : Nat) : XSt w ((w.alloc (.cells #[.int .i64 f, .int .i64 l, .slice none 0 0, .bool false] 51)).alloc (.cells #[.int .i64 0, .int .i64 0, .slice none 0 0, .bool false] 51)) f l [] false none 0 :=
  ⟨(BlkG.new w _ (blkC none 0 ⟨f, l, [], false⟩)).alloc _, by
    have := BlkG.new (w.alloc (.cells #[.int .i64 f, .int .i64 l, .slice none 0 0, .bool false] 51)) 51 (blkC none 0 blk0)
    rw [World.size_alloc] at this
    exact this, intsAt_nil _, fun x hx => (by cases hx), xalloc (xalloc (xrefl w) _) _, by rw [World.size_alloc, World.size_alloc]; omega⟩
end
set_option maxRecDepth 100000 in
set_option maxHeartbeats 16000000 in
theorem refGoes_anyL (cs g : List Nat) (hg : g ∈ grps cs) (a : Option Addr) (c : Nat) (w : World) (h : CodeL w a c cs) :
    Calls Tryz.prog 44 #[.slice a cs.length c, .agg #[.int .i64 (fstN g), .int .i64 (lstN g), .slice none 0 0, .bool false]] w fun e w' => (∃ p q, e = .returned (blkV p q (blkN cs g)) ∧ IntsAt w' p q (blkN cs g).next ∧ (∀ x, p = some x → w.heap.size ≤ x.block)) ∧ Below w.heap.size w w' := by
  have hcl := h.len
  have hxl := opsL_lt (grps_mem hg (lst_mem (grps_ne hg)))
  obtain ⟨b, o, rfl, hc, h256⟩ := h.get hxl
  have hxI : ((lstN g : Nat) : Int) < cs.length := by omega
  have hS := qh (XSt.start w (fstN g) (lstN g))
  have hc0 := cbel hS.out.bel hc
  have hbeh := fun W (hW : Below w.heap.size w W) => refBehind11_anyL cs (lstN g) _ c W (h.below hW) hxl
  have hends := qh fun W => refEnds_any (byN cs (lstN g)) W h256
  have hfix := fun W (hW : Below w.heap.size w W) => refFixed_anyL cs (lstN g) _ c W (h.below hW)
  simp only [fixedZ_nat, optV, wordV_L] at hfix
  have hmarks := qh fun W (hW : Below w.heap.size w W) => refMarks_anyL cs _ c W (h.below hW)
  have hN0 : (fixedN cs (lstN g)).getD 0 < 2 ^ 256 := by
    cases hf : fixedN cs (lstN g) with
    | none => simp
    | some n => exact fixedN_lt h.ok hf
  have hsmall := fun W => refSmall_any ((fixedN cs (lstN g)).getD 0) W hN0
  have hmark := fun W (hW : Below w.heap.size w W) => refMark_anyL cs ((fixedN cs (lstN g)).getD 0) _ c W (h.below hW) hN0
  simp only [wordV_L] at hsmall hmark
  have hML : (marksL cs).length ≤ 1048576 := by
    have h1 := List.length_filter_le (fun i => byN cs i == 91) (opsL cs)
    have h2 := opsL_len cs
    unfold marksL; omega
  have hMl : (setL (marksL cs)).length ≤ 2097200 := by have := setL_len (marksL cs); omega
  have hend : Hid (endN (byN cs (lstN g)) = true → blkN cs g = ⟨fstN g, lstN g, [], true⟩) := qh blk_end
  have h86 : Hid (byN cs (lstN g) = 86 → blkN cs g = ⟨fstN g, lstN g, setL (tosJ cs g).1, (tosJ cs g).2⟩) := qh blk_86
  have hno : Hid (endN (byN cs (lstN g)) = false → byN cs (lstN g) ≠ 86 → cs.length ≤ nxN cs (lstN g) → blkN cs g = ⟨fstN g, lstN g, setL (tosJ cs g).1, true⟩) := qh blk_no
  have hso : Hid (endN (byN cs (lstN g)) = false → byN cs (lstN g) ≠ 86 → nxN cs (lstN g) < cs.length → blkN cs g = ⟨fstN g, lstN g, insW (nxN cs (lstN g)) (setL (tosJ cs g).1), (tosJ cs g).2⟩) := qh blk_so
  have hJj : Hid ((byN cs (lstN g) = 86 ∨ byN cs (lstN g) = 87) → tosJ cs g = match fixedN cs (lstN g) with | none => (marksL cs, true) | some n => if markN cs n = true then ([n], false) else ([], true)) := qh (tos_jump hg)
  have hJ0 : Hid (byN cs (lstN g) ≠ 86 → byN cs (lstN g) ≠ 87 → tosJ cs g = ([], false)) := qh tos_not
  have hu := Tryz.underlying51
  have huw := Tryz.underlying32
  clear h hc hg
  obtain ⟨hx1, hx2⟩ := hS.out.cells
  generalize blkN cs g = R at *
  generalize tosJ cs g = J at *
  generalize marksL cs = M at *
  generalize nxN cs (lstN g) = nx at *
  generalize fixedN cs (lstN g) = fx at *
  generalize lstN g = l at *
  generalize fstN g = f at *
  generalize byN cs l = x at *
  generalize hL : (wordL (fx.getD 0)).map (Value.int .u64) = L at *
  replace hL := qh hL
  replace hfix := qh hfix
  cases hef : endN x with
  | true =>
    have hR := hend.out hef
    subst hR
    rw [hef] at hends
    generalize hzq : (if nx < cs.length then (nx : Int) else -1) = zq at *
    generalize (x : Int) = xz at *
    clear hzq hend h86 hno hso hJj hJ0 hef hsmall hmark hmarks hfix hL
    replace hbeh := qh hbeh
    go_enter Tryz.func44, Tryz.ntmps44
    go_wp2_with (first
      | (go_at_call 78; refine (hbeh.out _ hS.out.bel).mono ?_; rintro e w1 ⟨rfl, hb1⟩; replace hS := qh (hS.out.step hb1); clear hx1 hx2; obtain ⟨hx1, hx2⟩ := hS.out.cells; (try replace hW := qh (hW.out.below hb1)); (try replace hIm := qh (hIm.out.below hb1)); clear hb1)
      | (go_at_call 79; refine (hends.out _).mono ?_; rintro e w1 ⟨rfl, hb1⟩; replace hS := qh (hS.out.step hb1); clear hx1 hx2; obtain ⟨hx1, hx2⟩ := hS.out.cells; (try replace hW := qh (hW.out.below hb1)); (try replace hIm := qh (hIm.out.below hb1)); clear hb1)
      | (refine wpList_store_at rfl 4 _ _ rfl w.heap.size 3 rfl 51 _ (.bool true) hS.out.blk (by show 3 < 4; omega) rfl (by kernel_rfl) rfl ?_; intro w6 hX6 ho6; replace hS := qh (hS.out.exit hX6 ho6); clear hX6 hx1 hx2; obtain ⟨hx1, hx2⟩ := hS.out.cells; clear ho6)
      | (refine wpList_load_blkG rfl 51 _ rfl w.heap.size rfl 51 _ _ hS.out.blk hu rfl (by kernel_rfl) ?_)
      | (refine wpList_store_blkG rfl 51 _ _ rfl (w.heap.size + 1) rfl 51 _ _ hS.out.res rfl rfl (by kernel_rfl) rfl ?_; intro w9 hD ho9; have hfin := qh (hS.out.done ho9); replace hD := qh hD; clear ho9))
    have hq := hD
    have hq2 := hfin
    refine bodyPost_ret (results_blkG (p := 4) rfl _ _ (w.heap.size + 1) 51 _ _ rfl hD.out hu rfl (by kernel_rfl)) rfl ?_
    exact ⟨⟨_, _, rfl, hfin.out.1, hfin.out.2.1⟩, hfin.out.2.2⟩
  | false =>
    rw [hef] at hends
    by_cases e1 : x = 86
    · subst e1
      have hJ := hJj.out (.inl rfl)
      clear hJj hJ0
      replace hef := hef
      cases fx with
      | none =>
        simp only [Option.getD_none] at hL hsmall hmark hN0
        replace hN0 := qh hN0
        generalize smallN 0 = sm at *
        replace hsmall := qh hsmall
        have hJ : J = (M, true) := hJ
        have hR := h86.out rfl
        rw [hJ] at hR
        subst hR
        clear hJ h86 hno hso hend
        generalize hzq : (if nx < cs.length then (nx : Int) else -1) = zq at *
        clear hzq
        replace hbeh := qh hbeh
        go_enter Tryz.func44, Tryz.ntmps44
        go_wp2_with (first
          | (go_at_call 78; refine (hbeh.out _ hS.out.bel).mono ?_; rintro e w1 ⟨rfl, hb1⟩; replace hS := qh (hS.out.step hb1); clear hx1 hx2; obtain ⟨hx1, hx2⟩ := hS.out.cells; (try replace hW := qh (hW.out.below hb1)); (try replace hIm := qh (hIm.out.below hb1)); clear hb1)
          | (go_at_call 79; refine (hends.out _).mono ?_; rintro e w1 ⟨rfl, hb1⟩; replace hS := qh (hS.out.step hb1); clear hx1 hx2; obtain ⟨hx1, hx2⟩ := hS.out.cells; (try replace hW := qh (hW.out.below hb1)); (try replace hIm := qh (hIm.out.below hb1)); clear hb1)
          | (go_at_call 19; refine (hfix.out _ hS.out.bel).mono ?_; rintro e w1 ⟨rfl, hb1⟩; replace hS := qh (hS.out.step hb1); clear hx1 hx2; obtain ⟨hx1, hx2⟩ := hS.out.cells; (try replace hW := qh (hW.out.below hb1)); (try replace hIm := qh (hIm.out.below hb1)); clear hb1)
          | (go_at_call 80; refine (hmarks.out _ hS.out.bel).mono ?_; rintro e w1 ⟨⟨v1, rfl, hv1⟩, hb1⟩; obtain ⟨am, cm, rfl, hIm0, hzm⟩ := hv1.at; clear hv1; replace hzm := qh (hS.out.far hzm); replace hS := qh (hS.out.step hb1); clear hx1 hx2; obtain ⟨hx1, hx2⟩ := hS.out.cells; (try replace hW := qh (hW.out.below hb1)); (try replace hIm := qh (hIm.out.below hb1)); clear hb1; have hIm := qh hIm0; clear hIm0)
          | (go_at_call 81; refine (hsmall.out _).mono ?_; rintro e w1 ⟨rfl, hb1⟩; replace hS := qh (hS.out.step hb1); clear hx1 hx2; obtain ⟨hx1, hx2⟩ := hS.out.cells; (try replace hW := qh (hW.out.below hb1)); (try replace hIm := qh (hIm.out.below hb1)); clear hb1)
          | (refine wpList_store_blkG rfl 32 _ _ rfl w1.heap.size rfl 32 [.int .u64 0, .int .u64 0, .int .u64 0, .int .u64 0] L (BlkG.new w1 _ _) rfl (by rw [← hL.out]; rfl) (by rw [← hL.out]; kernel_rfl) (by rw [← hL.out]; rfl) ?_; intro w6 hW6 ho6; have hW := qh hW6; clear hW6; replace hS := qh ((hS.out.step (xalloc (xrefl w1) _)).other ho6 hS.out.two (fun x hx => by cases hx)); clear hx1 hx2 ho6; obtain ⟨hx1, hx2⟩ := hS.out.cells)
          | (refine wpList_load_blkG rfl 32 _ rfl _ rfl 32 L _ hW.out huw rfl (by rw [← hL.out]; kernel_rfl) ?_))
        clear hx1 hx2 hW
        go_loopw [12] (fun iv wx => ∃ (i : Nat) (p : Option Addr) (q : Nat), i ≤ M.length ∧ iv = .int .i64 i ∧ Hid (XSt w wx f l (setL (M.take i)) false p q) ∧ Hid (IntsAt wx am cm M)) (fun iv _ => 1048700 - (intOf iv).toNat)
        case atStart => exact ⟨0, none, 0, by omega, rfl, hS, hIm⟩
        case round =>
          clear hS hIm
          obtain ⟨i, p, q, hi, rfl, hS, hIm⟩ := hrel
          obtain ⟨hx1, hx2⟩ := hS.out.cells
          by_cases hlt : i < M.length
          · have hltI : (i : Int) < M.length := by omega
            obtain ⟨bm, om, rfl, hm1⟩ := hIm.out.get hlt
            have hst : setL (M.take (i + 1)) = insW M[i] (setL (M.take i)) := by rw [List.take_succ_eq_append_getElem hlt, setL_snoc]
            have hPl : (setL (M.take i)).length ≤ 2097200 := by have := setL_len (M.take i); rw [List.length_take] at this; omega
            replace hst := qh hst
            generalize M[i] = y at *
            generalize setL (M.take i) = P at *
            go_wp2
            refine wp_region_growL 7 [fixd (.pointer (some ⟨w.heap.size, 2, none⟩)), fixd (.slice p P.length q), fixd (.slice (some ⟨bm, om, none⟩) M.length cm), fixd (.int .i64 i), fixd (.pointer (some ⟨bm, om + i, none⟩)), fixd (.int .i64 y), intsT (w.heap.size + 2) (insW y P)] (by kernel_rfl) (by kernel_rfl) ?_
            simp only [List.take_succ_cons, List.take_zero, List.drop_succ_cons, List.drop_zero]
            try simp only [Act.put, zA, zB, zC, zD, zE]
            refine wpGrowV_fix _ rfl rfl (fun W hb _ => by go_simp; first | exact xrefl W | exact ⟨rfl, xrefl W⟩) ?_
            try simp only [Act.put, zA, zB, zC, zD, zE]
            refine wpGrowV_fix _ rfl rfl (fun W hb _ => by have c := cbel hb hx2; go_simp; first | exact xrefl W | exact ⟨rfl, xrefl W⟩) ?_
            try simp only [Act.put, zA, zB, zC, zD, zE]
            refine wpGrowV_fix _ rfl rfl (fun W hb _ => by go_simp; first | exact xrefl W | exact ⟨rfl, xrefl W⟩) ?_
            try simp only [Act.put, zA, zB, zC, zD, zE]
            refine wpGrowV_fix _ rfl rfl (fun W hb _ => by go_simp; first | exact xrefl W | exact ⟨rfl, xrefl W⟩) ?_
            try simp only [Act.put, zA, zB, zC, zD, zE]
            refine wpGrowV_fix _ rfl rfl (fun W hb _ => by go_simp; first | exact xrefl W | exact ⟨rfl, xrefl W⟩) ?_
            try simp only [Act.put, zA, zB, zC, zD, zE]
            refine wpGrowV_fix _ rfl rfl (fun W hb _ => by have c := cbel hb hm1; go_simp; first | exact xrefl W | exact ⟨rfl, xrefl W⟩) ?_
            try simp only [Act.put, zA, zB, zC, zD, zE]
            refine wpGrowV_any (intsT (w.heap.size + 2) (insW y P)) rfl rfl (fun W hb _ => ?_) (fun v hv => ?_)
            · go_simp
              go_at_call 52
              refine (refWith_any _ _ _ _ _ (hS.out.step hb).ints hPl).mono ?_
              rintro e w1 ⟨⟨v1, rfl, hv1⟩, hb1⟩
              obtain ⟨p5, q5, rfl, hI5, hz5⟩ := hv1.at
              exact ⟨_, rfl, ⟨⟨_, _, rfl⟩, fun a c e => by cases e; exact ⟨hI5, (hS.out.step hb).far hz5⟩⟩, hb1⟩
            obtain ⟨p5, q5, rfl⟩ := hv
            try simp only [Act.put, zA, zB, zC, zD, zE]
            refine wpGrowV_nil fun W5 hb5 hmem => ?_
            obtain ⟨hI5, hz5⟩ := hmem 6 (by decide) p5 q5 rfl
            replace hI5 := qh hI5
            replace hz5 := qh hz5
            clear hmem hm1 hx1 hx2
            replace hS := qh (hS.out.step hb5)
            replace hIm := qh (hIm.out.below hb5)
            clear hb5
            obtain ⟨hx1, hx2⟩ := hS.out.cells
            go_wp2_with (first
          | (refine wpList_store_at rfl 42 _ _ rfl w.heap.size 2 rfl 51 _ (.slice p5 _ q5) hS.out.blk (by show 2 < 4; omega) rfl (by kernel_rfl) rfl ?_; intro w6 hX6 ho6; replace hS := qh (hS.out.next hX6 ho6 hI5.out hz5.out); clear hX6 hI5 hz5 hx1 hx2; obtain ⟨hx1, hx2⟩ := hS.out.cells; (try replace hIm := qh (hIm.out.only ho6 (fun x hx e => by have := hzm.out x hx; omega))); clear ho6))
            exact ⟨⟨i + 1, p5, q5, by omega, rfl, by rw [hst.out]; exact hS, hIm⟩, by simp [intOf]; omega⟩
          · obtain rfl : i = M.length := by omega
            have hltI : ¬ (M.length : Int) < M.length := by omega
            rw [List.take_length] at hS
            clear hlt
            go_wp2_with (first
              | (refine wpList_store_at rfl 4 _ _ rfl w.heap.size 3 rfl 51 _ (.bool true) hS.out.blk (by show 3 < 4; omega) rfl (by kernel_rfl) rfl ?_; intro w6 hX6 ho6; replace hS := qh (hS.out.exit hX6 ho6); clear hX6 hx1 hx2; obtain ⟨hx1, hx2⟩ := hS.out.cells; clear ho6)
              | (refine wpList_load_blkG rfl 51 _ rfl w.heap.size rfl 51 _ _ hS.out.blk hu rfl (by kernel_rfl) ?_)
              | (refine wpList_store_blkG rfl 51 _ _ rfl (w.heap.size + 1) rfl 51 _ _ hS.out.res rfl rfl (by kernel_rfl) rfl ?_; intro w9 hD ho9; have hfin := qh (hS.out.done ho9); replace hD := qh hD; clear ho9))
            have hq := hD
            have hq2 := hfin
            refine bodyPost_ret (results_blkG (p := 4) rfl _ _ (w.heap.size + 1) 51 _ _ rfl hD.out hu rfl (by kernel_rfl)) rfl ?_
            exact ⟨⟨_, _, rfl, hfin.out.1, hfin.out.2.1⟩, hfin.out.2.2⟩
      | some N =>
        simp only [Option.getD_some] at hL hsmall hmark hN0
        replace hJ : J = if markN cs N = true then ([N], false) else ([], true) := hJ
        cases hmk : markN cs N with
        | true =>
          rw [hmk] at hJ hmark
          rw [if_pos rfl] at hJ
          have hNl : N < cs.length := by unfold markN at hmk; simp at hmk; exact hmk.1
          have hsN : smallN N = (N, true) := by unfold smallN; rw [if_pos (by omega)]
          rw [hsN] at hsmall
          have hw2 : wrap64 (N : Int) = N := wrap64_small' N (by omega)
          replace hsmall := qh hsmall
          replace hmark := qh hmark
          replace hmk := qh hmk
          replace hN0 := qh hN0
          clear hsN
          have hR := h86.out rfl
          rw [hJ] at hR
          subst hR
          clear hJ h86 hno hso hend
          generalize hzq : (if nx < cs.length then (nx : Int) else -1) = zq at *
          clear hzq
          replace hbeh := qh hbeh
          go_enter Tryz.func44, Tryz.ntmps44
          go_wp2_with (first
            | (go_at_call 78; refine (hbeh.out _ hS.out.bel).mono ?_; rintro e w1 ⟨rfl, hb1⟩; replace hS := qh (hS.out.step hb1); clear hx1 hx2; obtain ⟨hx1, hx2⟩ := hS.out.cells; (try replace hW := qh (hW.out.below hb1)); (try replace hIm := qh (hIm.out.below hb1)); clear hb1)
            | (go_at_call 79; refine (hends.out _).mono ?_; rintro e w1 ⟨rfl, hb1⟩; replace hS := qh (hS.out.step hb1); clear hx1 hx2; obtain ⟨hx1, hx2⟩ := hS.out.cells; (try replace hW := qh (hW.out.below hb1)); (try replace hIm := qh (hIm.out.below hb1)); clear hb1)
            | (go_at_call 19; refine (hfix.out _ hS.out.bel).mono ?_; rintro e w1 ⟨rfl, hb1⟩; replace hS := qh (hS.out.step hb1); clear hx1 hx2; obtain ⟨hx1, hx2⟩ := hS.out.cells; (try replace hW := qh (hW.out.below hb1)); (try replace hIm := qh (hIm.out.below hb1)); clear hb1)
            | (go_at_call 80; refine (hmarks.out _ hS.out.bel).mono ?_; rintro e w1 ⟨⟨v1, rfl, hv1⟩, hb1⟩; obtain ⟨am, cm, rfl, hIm0, hzm⟩ := hv1.at; clear hv1; replace hzm := qh (hS.out.far hzm); replace hS := qh (hS.out.step hb1); clear hx1 hx2; obtain ⟨hx1, hx2⟩ := hS.out.cells; (try replace hW := qh (hW.out.below hb1)); (try replace hIm := qh (hIm.out.below hb1)); clear hb1; have hIm := qh hIm0; clear hIm0)
            | (go_at_call 81; refine (hsmall.out _).mono ?_; rintro e w1 ⟨rfl, hb1⟩; replace hS := qh (hS.out.step hb1); clear hx1 hx2; obtain ⟨hx1, hx2⟩ := hS.out.cells; (try replace hW := qh (hW.out.below hb1)); (try replace hIm := qh (hIm.out.below hb1)); clear hb1)
            | (refine wpList_store_blkG rfl 32 _ _ rfl w1.heap.size rfl 32 [.int .u64 0, .int .u64 0, .int .u64 0, .int .u64 0] L (BlkG.new w1 _ _) rfl (by rw [← hL.out]; rfl) (by rw [← hL.out]; kernel_rfl) (by rw [← hL.out]; rfl) ?_; intro w6 hW6 ho6; have hW := qh hW6; clear hW6; replace hS := qh ((hS.out.step (xalloc (xrefl w1) _)).other ho6 hS.out.two (fun x hx => by cases hx)); clear hx1 hx2 ho6; obtain ⟨hx1, hx2⟩ := hS.out.cells)
            | (refine wpList_load_blkG rfl 32 _ rfl _ rfl 32 L _ hW.out huw rfl (by rw [← hL.out]; kernel_rfl) ?_)
            | (refine wpList_load_blkG_g rfl 32 _ rfl _ rfl 32 L _ hW.out huw rfl (by rw [← hL.out]; kernel_rfl) ?_)
            | (go_at_call 82; refine (hmark.out _ hS.out.bel).mono ?_; rintro e w1 ⟨rfl, hb1⟩; replace hS := qh (hS.out.step hb1); clear hx1 hx2; obtain ⟨hx1, hx2⟩ := hS.out.cells; (try replace hW := qh (hW.out.below hb1)); (try replace hIm := qh (hIm.out.below hb1)); clear hb1)
            | (go_at_call 52; refine (refWith_any _ _ _ _ _ hS.out.ints (by first | (show 0 ≤ 2097200; omega) | (show 1 ≤ 2097200; omega) | exact hMl)).mono ?_; rintro e w1 ⟨⟨v1, rfl, hv1⟩, hb1⟩; obtain ⟨p5, q5, rfl, hI5, hz5⟩ := hv1.at; clear hv1; replace hz5 := qh (hS.out.far hz5); replace hI5 := qh hI5; replace hS := qh (hS.out.step hb1); clear hx1 hx2; obtain ⟨hx1, hx2⟩ := hS.out.cells; (try replace hW := qh (hW.out.below hb1)); (try replace hIm := qh (hIm.out.below hb1)); clear hb1)
            | (refine wpList_store_at rfl 42 _ _ rfl w.heap.size 2 rfl 51 _ (.slice p5 _ q5) hS.out.blk (by show 2 < 4; omega) rfl (by kernel_rfl) rfl ?_; intro w6 hX6 ho6; replace hS := qh (hS.out.next hX6 ho6 hI5.out hz5.out); clear hX6 hI5 hz5 hx1 hx2; obtain ⟨hx1, hx2⟩ := hS.out.cells; (try replace hIm := qh (hIm.out.only ho6 (fun x hx e => by have := hzm.out x hx; omega))); clear ho6)
            | (refine wpList_load_blkG rfl 51 _ rfl w.heap.size rfl 51 _ _ hS.out.blk hu rfl (by kernel_rfl) ?_)
            | (refine wpList_store_blkG rfl 51 _ _ rfl (w.heap.size + 1) rfl 51 _ _ hS.out.res rfl rfl (by kernel_rfl) rfl ?_; intro w9 hD ho9; have hfin := qh (hS.out.done ho9); replace hD := qh hD; clear ho9))
          have hq := hD
          have hq2 := hfin
          refine bodyPost_ret (results_blkG (p := 4) rfl _ _ (w.heap.size + 1) 51 _ _ rfl hD.out hu rfl (by kernel_rfl)) rfl ?_
          exact ⟨⟨_, _, rfl, hfin.out.1, hfin.out.2.1⟩, hfin.out.2.2⟩
        | false =>
          rw [hmk] at hJ hmark
          rw [if_neg (by decide)] at hJ
          generalize smallN N = sm at *
          replace hsmall := qh hsmall
          replace hmark := qh hmark
          replace hmk := qh hmk
          replace hN0 := qh hN0
          have hR := h86.out rfl
          rw [hJ] at hR
          subst hR
          clear hJ h86 hno hso hend
          generalize hzq : (if nx < cs.length then (nx : Int) else -1) = zq at *
          clear hzq
          replace hbeh := qh hbeh
          go_enter Tryz.func44, Tryz.ntmps44
          go_wp2_with (first
            | (go_at_call 78; refine (hbeh.out _ hS.out.bel).mono ?_; rintro e w1 ⟨rfl, hb1⟩; replace hS := qh (hS.out.step hb1); clear hx1 hx2; obtain ⟨hx1, hx2⟩ := hS.out.cells; (try replace hW := qh (hW.out.below hb1)); (try replace hIm := qh (hIm.out.below hb1)); clear hb1)
            | (go_at_call 79; refine (hends.out _).mono ?_; rintro e w1 ⟨rfl, hb1⟩; replace hS := qh (hS.out.step hb1); clear hx1 hx2; obtain ⟨hx1, hx2⟩ := hS.out.cells; (try replace hW := qh (hW.out.below hb1)); (try replace hIm := qh (hIm.out.below hb1)); clear hb1)
            | (go_at_call 19; refine (hfix.out _ hS.out.bel).mono ?_; rintro e w1 ⟨rfl, hb1⟩; replace hS := qh (hS.out.step hb1); clear hx1 hx2; obtain ⟨hx1, hx2⟩ := hS.out.cells; (try replace hW := qh (hW.out.below hb1)); (try replace hIm := qh (hIm.out.below hb1)); clear hb1)
            | (go_at_call 80; refine (hmarks.out _ hS.out.bel).mono ?_; rintro e w1 ⟨⟨v1, rfl, hv1⟩, hb1⟩; obtain ⟨am, cm, rfl, hIm0, hzm⟩ := hv1.at; clear hv1; replace hzm := qh (hS.out.far hzm); replace hS := qh (hS.out.step hb1); clear hx1 hx2; obtain ⟨hx1, hx2⟩ := hS.out.cells; (try replace hW := qh (hW.out.below hb1)); (try replace hIm := qh (hIm.out.below hb1)); clear hb1; have hIm := qh hIm0; clear hIm0)
            | (go_at_call 81; refine (hsmall.out _).mono ?_; rintro e w1 ⟨rfl, hb1⟩; replace hS := qh (hS.out.step hb1); clear hx1 hx2; obtain ⟨hx1, hx2⟩ := hS.out.cells; (try replace hW := qh (hW.out.below hb1)); (try replace hIm := qh (hIm.out.below hb1)); clear hb1)
            | (refine wpList_store_blkG rfl 32 _ _ rfl w1.heap.size rfl 32 [.int .u64 0, .int .u64 0, .int .u64 0, .int .u64 0] L (BlkG.new w1 _ _) rfl (by rw [← hL.out]; rfl) (by rw [← hL.out]; kernel_rfl) (by rw [← hL.out]; rfl) ?_; intro w6 hW6 ho6; have hW := qh hW6; clear hW6; replace hS := qh ((hS.out.step (xalloc (xrefl w1) _)).other ho6 hS.out.two (fun x hx => by cases hx)); clear hx1 hx2 ho6; obtain ⟨hx1, hx2⟩ := hS.out.cells)
            | (refine wpList_load_blkG rfl 32 _ rfl _ rfl 32 L _ hW.out huw rfl (by rw [← hL.out]; kernel_rfl) ?_)
            | (refine wpList_load_blkG_g rfl 32 _ rfl _ rfl 32 L _ hW.out huw rfl (by rw [← hL.out]; kernel_rfl) ?_)
            | (go_at_call 82; refine (hmark.out _ hS.out.bel).mono ?_; rintro e w1 ⟨rfl, hb1⟩; replace hS := qh (hS.out.step hb1); clear hx1 hx2; obtain ⟨hx1, hx2⟩ := hS.out.cells; (try replace hW := qh (hW.out.below hb1)); (try replace hIm := qh (hIm.out.below hb1)); clear hb1)
            | (refine wpList_store_at rfl 4 _ _ rfl w.heap.size 3 rfl 51 _ (.bool true) hS.out.blk (by show 3 < 4; omega) rfl (by kernel_rfl) rfl ?_; intro w6 hX6 ho6; replace hS := qh (hS.out.exit hX6 ho6); clear hX6 hx1 hx2; obtain ⟨hx1, hx2⟩ := hS.out.cells; clear ho6)
            | (refine wpList_load_blkG rfl 51 _ rfl w.heap.size rfl 51 _ _ hS.out.blk hu rfl (by kernel_rfl) ?_)
            | (refine wpList_store_blkG rfl 51 _ _ rfl (w.heap.size + 1) rfl 51 _ _ hS.out.res rfl rfl (by kernel_rfl) rfl ?_; intro w9 hD ho9; have hfin := qh (hS.out.done ho9); replace hD := qh hD; clear ho9))
          have hq := hD
          have hq2 := hfin
          refine bodyPost_ret (results_blkG (p := 4) rfl _ _ (w.heap.size + 1) 51 _ _ rfl hD.out hu rfl (by kernel_rfl)) rfl ?_
          exact ⟨⟨_, _, rfl, hfin.out.1, hfin.out.2.1⟩, hfin.out.2.2⟩
    · by_cases e2 : x = 87
      · subst e2
        have hJ := hJj.out (.inr rfl)
        clear hJj hJ0
        replace hef := hef
        cases fx with
        | none =>
          simp only [Option.getD_none] at hL hsmall hmark hN0
          replace hN0 := qh hN0
          generalize smallN 0 = sm at *
          replace hsmall := qh hsmall
          have hJ : J = (M, true) := hJ
          by_cases hn : nx < cs.length
          · have hR := hso.out hef (by decide) hn
            rw [hJ] at hR
            subst hR
            rw [if_pos hn] at hbeh
            have hn0 : ¬ (nx : Int) < 0 := by omega
            clear hJ h86 hno hso hend hn
            replace hbeh := qh hbeh
            go_enter Tryz.func44, Tryz.ntmps44
            go_wp2_with (first
              | (go_at_call 78; refine (hbeh.out _ hS.out.bel).mono ?_; rintro e w1 ⟨rfl, hb1⟩; replace hS := qh (hS.out.step hb1); clear hx1 hx2; obtain ⟨hx1, hx2⟩ := hS.out.cells; (try replace hW := qh (hW.out.below hb1)); (try replace hIm := qh (hIm.out.below hb1)); clear hb1)
              | (go_at_call 79; refine (hends.out _).mono ?_; rintro e w1 ⟨rfl, hb1⟩; replace hS := qh (hS.out.step hb1); clear hx1 hx2; obtain ⟨hx1, hx2⟩ := hS.out.cells; (try replace hW := qh (hW.out.below hb1)); (try replace hIm := qh (hIm.out.below hb1)); clear hb1)
              | (go_at_call 19; refine (hfix.out _ hS.out.bel).mono ?_; rintro e w1 ⟨rfl, hb1⟩; replace hS := qh (hS.out.step hb1); clear hx1 hx2; obtain ⟨hx1, hx2⟩ := hS.out.cells; (try replace hW := qh (hW.out.below hb1)); (try replace hIm := qh (hIm.out.below hb1)); clear hb1)
              | (go_at_call 80; refine (hmarks.out _ hS.out.bel).mono ?_; rintro e w1 ⟨⟨v1, rfl, hv1⟩, hb1⟩; obtain ⟨am, cm, rfl, hIm0, hzm⟩ := hv1.at; clear hv1; replace hzm := qh (hS.out.far hzm); replace hS := qh (hS.out.step hb1); clear hx1 hx2; obtain ⟨hx1, hx2⟩ := hS.out.cells; (try replace hW := qh (hW.out.below hb1)); (try replace hIm := qh (hIm.out.below hb1)); clear hb1; have hIm := qh hIm0; clear hIm0)
              | (go_at_call 81; refine (hsmall.out _).mono ?_; rintro e w1 ⟨rfl, hb1⟩; replace hS := qh (hS.out.step hb1); clear hx1 hx2; obtain ⟨hx1, hx2⟩ := hS.out.cells; (try replace hW := qh (hW.out.below hb1)); (try replace hIm := qh (hIm.out.below hb1)); clear hb1)
              | (refine wpList_store_blkG rfl 32 _ _ rfl w1.heap.size rfl 32 [.int .u64 0, .int .u64 0, .int .u64 0, .int .u64 0] L (BlkG.new w1 _ _) rfl (by rw [← hL.out]; rfl) (by rw [← hL.out]; kernel_rfl) (by rw [← hL.out]; rfl) ?_; intro w6 hW6 ho6; have hW := qh hW6; clear hW6; replace hS := qh ((hS.out.step (xalloc (xrefl w1) _)).other ho6 hS.out.two (fun x hx => by cases hx)); clear hx1 hx2 ho6; obtain ⟨hx1, hx2⟩ := hS.out.cells)
              | (refine wpList_load_blkG rfl 32 _ rfl _ rfl 32 L _ hW.out huw rfl (by rw [← hL.out]; kernel_rfl) ?_))
            clear hx1 hx2 hW
            go_loopw [12] (fun iv wx => ∃ (i : Nat) (p : Option Addr) (q : Nat), i ≤ M.length ∧ iv = .int .i64 i ∧ Hid (XSt w wx f l (setL (M.take i)) false p q) ∧ Hid (IntsAt wx am cm M)) (fun iv _ => 1048700 - (intOf iv).toNat)
            case atStart => exact ⟨0, none, 0, by omega, rfl, hS, hIm⟩
            case round =>
              clear hS hIm
              obtain ⟨i, p, q, hi, rfl, hS, hIm⟩ := hrel
              obtain ⟨hx1, hx2⟩ := hS.out.cells
              by_cases hlt : i < M.length
              · have hltI : (i : Int) < M.length := by omega
                obtain ⟨bm, om, rfl, hm1⟩ := hIm.out.get hlt
                have hst : setL (M.take (i + 1)) = insW M[i] (setL (M.take i)) := by rw [List.take_succ_eq_append_getElem hlt, setL_snoc]
                have hPl : (setL (M.take i)).length ≤ 2097200 := by have := setL_len (M.take i); rw [List.length_take] at this; omega
                replace hst := qh hst
                generalize M[i] = y at *
                generalize setL (M.take i) = P at *
                go_wp2
                refine wp_region_growL 7 [fixd (.pointer (some ⟨w.heap.size, 2, none⟩)), fixd (.slice p P.length q), fixd (.slice (some ⟨bm, om, none⟩) M.length cm), fixd (.int .i64 i), fixd (.pointer (some ⟨bm, om + i, none⟩)), fixd (.int .i64 y), intsT (w.heap.size + 2) (insW y P)] (by kernel_rfl) (by kernel_rfl) ?_
                simp only [List.take_succ_cons, List.take_zero, List.drop_succ_cons, List.drop_zero]
                try simp only [Act.put, zA, zB, zC, zD, zE]
                refine wpGrowV_fix _ rfl rfl (fun W hb _ => by go_simp; first | exact xrefl W | exact ⟨rfl, xrefl W⟩) ?_
                try simp only [Act.put, zA, zB, zC, zD, zE]
                refine wpGrowV_fix _ rfl rfl (fun W hb _ => by have c := cbel hb hx2; go_simp; first | exact xrefl W | exact ⟨rfl, xrefl W⟩) ?_
                try simp only [Act.put, zA, zB, zC, zD, zE]
                refine wpGrowV_fix _ rfl rfl (fun W hb _ => by go_simp; first | exact xrefl W | exact ⟨rfl, xrefl W⟩) ?_
                try simp only [Act.put, zA, zB, zC, zD, zE]
                refine wpGrowV_fix _ rfl rfl (fun W hb _ => by go_simp; first | exact xrefl W | exact ⟨rfl, xrefl W⟩) ?_
                try simp only [Act.put, zA, zB, zC, zD, zE]
                refine wpGrowV_fix _ rfl rfl (fun W hb _ => by go_simp; first | exact xrefl W | exact ⟨rfl, xrefl W⟩) ?_
                try simp only [Act.put, zA, zB, zC, zD, zE]
                refine wpGrowV_fix _ rfl rfl (fun W hb _ => by have c := cbel hb hm1; go_simp; first | exact xrefl W | exact ⟨rfl, xrefl W⟩) ?_
                try simp only [Act.put, zA, zB, zC, zD, zE]
                refine wpGrowV_any (intsT (w.heap.size + 2) (insW y P)) rfl rfl (fun W hb _ => ?_) (fun v hv => ?_)
                · go_simp
                  go_at_call 52
                  refine (refWith_any _ _ _ _ _ (hS.out.step hb).ints hPl).mono ?_
                  rintro e w1 ⟨⟨v1, rfl, hv1⟩, hb1⟩
                  obtain ⟨p5, q5, rfl, hI5, hz5⟩ := hv1.at
                  exact ⟨_, rfl, ⟨⟨_, _, rfl⟩, fun a c e => by cases e; exact ⟨hI5, (hS.out.step hb).far hz5⟩⟩, hb1⟩
                obtain ⟨p5, q5, rfl⟩ := hv
                try simp only [Act.put, zA, zB, zC, zD, zE]
                refine wpGrowV_nil fun W5 hb5 hmem => ?_
                obtain ⟨hI5, hz5⟩ := hmem 6 (by decide) p5 q5 rfl
                replace hI5 := qh hI5
                replace hz5 := qh hz5
                clear hmem hm1 hx1 hx2
                replace hS := qh (hS.out.step hb5)
                replace hIm := qh (hIm.out.below hb5)
                clear hb5
                obtain ⟨hx1, hx2⟩ := hS.out.cells
                go_wp2_with (first
              | (refine wpList_store_at rfl 42 _ _ rfl w.heap.size 2 rfl 51 _ (.slice p5 _ q5) hS.out.blk (by show 2 < 4; omega) rfl (by kernel_rfl) rfl ?_; intro w6 hX6 ho6; replace hS := qh (hS.out.next hX6 ho6 hI5.out hz5.out); clear hX6 hI5 hz5 hx1 hx2; obtain ⟨hx1, hx2⟩ := hS.out.cells; (try replace hIm := qh (hIm.out.only ho6 (fun x hx e => by have := hzm.out x hx; omega))); clear ho6))
                exact ⟨⟨i + 1, p5, q5, by omega, rfl, by rw [hst.out]; exact hS, hIm⟩, by simp [intOf]; omega⟩
              · obtain rfl : i = M.length := by omega
                have hltI : ¬ (M.length : Int) < M.length := by omega
                rw [List.take_length] at hS
                clear hlt
                go_wp2_with (first
                  | (refine wpList_store_at rfl 4 _ _ rfl w.heap.size 3 rfl 51 _ (.bool true) hS.out.blk (by show 3 < 4; omega) rfl (by kernel_rfl) rfl ?_; intro w6 hX6 ho6; replace hS := qh (hS.out.exit hX6 ho6); clear hX6 hx1 hx2; obtain ⟨hx1, hx2⟩ := hS.out.cells; clear ho6)
                  | (go_at_call 52; refine (refWith_any _ _ _ _ _ hS.out.ints (by first | (show 0 ≤ 2097200; omega) | (show 1 ≤ 2097200; omega) | exact hMl)).mono ?_; rintro e w1 ⟨⟨v1, rfl, hv1⟩, hb1⟩; obtain ⟨p5, q5, rfl, hI5, hz5⟩ := hv1.at; clear hv1; replace hz5 := qh (hS.out.far hz5); replace hI5 := qh hI5; replace hS := qh (hS.out.step hb1); clear hx1 hx2; obtain ⟨hx1, hx2⟩ := hS.out.cells; (try replace hW := qh (hW.out.below hb1)); (try replace hIm := qh (hIm.out.below hb1)); clear hb1)
                  | (refine wpList_store_at rfl 42 _ _ rfl w.heap.size 2 rfl 51 _ (.slice p5 _ q5) hS.out.blk (by show 2 < 4; omega) rfl (by kernel_rfl) rfl ?_; intro w6 hX6 ho6; replace hS := qh (hS.out.next hX6 ho6 hI5.out hz5.out); clear hX6 hI5 hz5 hx1 hx2; obtain ⟨hx1, hx2⟩ := hS.out.cells; (try replace hIm := qh (hIm.out.only ho6 (fun x hx e => by have := hzm.out x hx; omega))); clear ho6)
                  | (refine wpList_load_blkG rfl 51 _ rfl w.heap.size rfl 51 _ _ hS.out.blk hu rfl (by kernel_rfl) ?_)
                  | (refine wpList_store_blkG rfl 51 _ _ rfl (w.heap.size + 1) rfl 51 _ _ hS.out.res rfl rfl (by kernel_rfl) rfl ?_; intro w9 hD ho9; have hfin := qh (hS.out.done ho9); replace hD := qh hD; clear ho9))
                have hq := hD
                have hq2 := hfin
                refine bodyPost_ret (results_blkG (p := 4) rfl _ _ (w.heap.size + 1) 51 _ _ rfl hD.out hu rfl (by kernel_rfl)) rfl ?_
                exact ⟨⟨_, _, rfl, hfin.out.1, hfin.out.2.1⟩, hfin.out.2.2⟩
          · have hR := hno.out hef (by decide) (by omega)
            rw [hJ] at hR
            subst hR
            rw [if_neg hn] at hbeh
            clear hJ h86 hno hso hend hn
            replace hbeh := qh hbeh
            go_enter Tryz.func44, Tryz.ntmps44
            go_wp2_with (first
              | (go_at_call 78; refine (hbeh.out _ hS.out.bel).mono ?_; rintro e w1 ⟨rfl, hb1⟩; replace hS := qh (hS.out.step hb1); clear hx1 hx2; obtain ⟨hx1, hx2⟩ := hS.out.cells; (try replace hW := qh (hW.out.below hb1)); (try replace hIm := qh (hIm.out.below hb1)); clear hb1)
              | (go_at_call 79; refine (hends.out _).mono ?_; rintro e w1 ⟨rfl, hb1⟩; replace hS := qh (hS.out.step hb1); clear hx1 hx2; obtain ⟨hx1, hx2⟩ := hS.out.cells; (try replace hW := qh (hW.out.below hb1)); (try replace hIm := qh (hIm.out.below hb1)); clear hb1)
              | (go_at_call 19; refine (hfix.out _ hS.out.bel).mono ?_; rintro e w1 ⟨rfl, hb1⟩; replace hS := qh (hS.out.step hb1); clear hx1 hx2; obtain ⟨hx1, hx2⟩ := hS.out.cells; (try replace hW := qh (hW.out.below hb1)); (try replace hIm := qh (hIm.out.below hb1)); clear hb1)
              | (go_at_call 80; refine (hmarks.out _ hS.out.bel).mono ?_; rintro e w1 ⟨⟨v1, rfl, hv1⟩, hb1⟩; obtain ⟨am, cm, rfl, hIm0, hzm⟩ := hv1.at; clear hv1; replace hzm := qh (hS.out.far hzm); replace hS := qh (hS.out.step hb1); clear hx1 hx2; obtain ⟨hx1, hx2⟩ := hS.out.cells; (try replace hW := qh (hW.out.below hb1)); (try replace hIm := qh (hIm.out.below hb1)); clear hb1; have hIm := qh hIm0; clear hIm0)
              | (go_at_call 81; refine (hsmall.out _).mono ?_; rintro e w1 ⟨rfl, hb1⟩; replace hS := qh (hS.out.step hb1); clear hx1 hx2; obtain ⟨hx1, hx2⟩ := hS.out.cells; (try replace hW := qh (hW.out.below hb1)); (try replace hIm := qh (hIm.out.below hb1)); clear hb1)
              | (refine wpList_store_blkG rfl 32 _ _ rfl w1.heap.size rfl 32 [.int .u64 0, .int .u64 0, .int .u64 0, .int .u64 0] L (BlkG.new w1 _ _) rfl (by rw [← hL.out]; rfl) (by rw [← hL.out]; kernel_rfl) (by rw [← hL.out]; rfl) ?_; intro w6 hW6 ho6; have hW := qh hW6; clear hW6; replace hS := qh ((hS.out.step (xalloc (xrefl w1) _)).other ho6 hS.out.two (fun x hx => by cases hx)); clear hx1 hx2 ho6; obtain ⟨hx1, hx2⟩ := hS.out.cells)
              | (refine wpList_load_blkG rfl 32 _ rfl _ rfl 32 L _ hW.out huw rfl (by rw [← hL.out]; kernel_rfl) ?_))
            clear hx1 hx2 hW
            go_loopw [12] (fun iv wx => ∃ (i : Nat) (p : Option Addr) (q : Nat), i ≤ M.length ∧ iv = .int .i64 i ∧ Hid (XSt w wx f l (setL (M.take i)) false p q) ∧ Hid (IntsAt wx am cm M)) (fun iv _ => 1048700 - (intOf iv).toNat)
            case atStart => exact ⟨0, none, 0, by omega, rfl, hS, hIm⟩
            case round =>
              clear hS hIm
              obtain ⟨i, p, q, hi, rfl, hS, hIm⟩ := hrel
              obtain ⟨hx1, hx2⟩ := hS.out.cells
              by_cases hlt : i < M.length
              · have hltI : (i : Int) < M.length := by omega
                obtain ⟨bm, om, rfl, hm1⟩ := hIm.out.get hlt
                have hst : setL (M.take (i + 1)) = insW M[i] (setL (M.take i)) := by rw [List.take_succ_eq_append_getElem hlt, setL_snoc]
                have hPl : (setL (M.take i)).length ≤ 2097200 := by have := setL_len (M.take i); rw [List.length_take] at this; omega
                replace hst := qh hst
                generalize M[i] = y at *
                generalize setL (M.take i) = P at *
                go_wp2
                refine wp_region_growL 7 [fixd (.pointer (some ⟨w.heap.size, 2, none⟩)), fixd (.slice p P.length q), fixd (.slice (some ⟨bm, om, none⟩) M.length cm), fixd (.int .i64 i), fixd (.pointer (some ⟨bm, om + i, none⟩)), fixd (.int .i64 y), intsT (w.heap.size + 2) (insW y P)] (by kernel_rfl) (by kernel_rfl) ?_
                simp only [List.take_succ_cons, List.take_zero, List.drop_succ_cons, List.drop_zero]
                try simp only [Act.put, zA, zB, zC, zD, zE]
                refine wpGrowV_fix _ rfl rfl (fun W hb _ => by go_simp; first | exact xrefl W | exact ⟨rfl, xrefl W⟩) ?_
                try simp only [Act.put, zA, zB, zC, zD, zE]
                refine wpGrowV_fix _ rfl rfl (fun W hb _ => by have c := cbel hb hx2; go_simp; first | exact xrefl W | exact ⟨rfl, xrefl W⟩) ?_
                try simp only [Act.put, zA, zB, zC, zD, zE]
                refine wpGrowV_fix _ rfl rfl (fun W hb _ => by go_simp; first | exact xrefl W | exact ⟨rfl, xrefl W⟩) ?_
                try simp only [Act.put, zA, zB, zC, zD, zE]
                refine wpGrowV_fix _ rfl rfl (fun W hb _ => by go_simp; first | exact xrefl W | exact ⟨rfl, xrefl W⟩) ?_
                try simp only [Act.put, zA, zB, zC, zD, zE]
                refine wpGrowV_fix _ rfl rfl (fun W hb _ => by go_simp; first | exact xrefl W | exact ⟨rfl, xrefl W⟩) ?_
                try simp only [Act.put, zA, zB, zC, zD, zE]
                refine wpGrowV_fix _ rfl rfl (fun W hb _ => by have c := cbel hb hm1; go_simp; first | exact xrefl W | exact ⟨rfl, xrefl W⟩) ?_
                try simp only [Act.put, zA, zB, zC, zD, zE]
                refine wpGrowV_any (intsT (w.heap.size + 2) (insW y P)) rfl rfl (fun W hb _ => ?_) (fun v hv => ?_)
                · go_simp
                  go_at_call 52
                  refine (refWith_any _ _ _ _ _ (hS.out.step hb).ints hPl).mono ?_
                  rintro e w1 ⟨⟨v1, rfl, hv1⟩, hb1⟩
                  obtain ⟨p5, q5, rfl, hI5, hz5⟩ := hv1.at
                  exact ⟨_, rfl, ⟨⟨_, _, rfl⟩, fun a c e => by cases e; exact ⟨hI5, (hS.out.step hb).far hz5⟩⟩, hb1⟩
                obtain ⟨p5, q5, rfl⟩ := hv
                try simp only [Act.put, zA, zB, zC, zD, zE]
                refine wpGrowV_nil fun W5 hb5 hmem => ?_
                obtain ⟨hI5, hz5⟩ := hmem 6 (by decide) p5 q5 rfl
                replace hI5 := qh hI5
                replace hz5 := qh hz5
                clear hmem hm1 hx1 hx2
                replace hS := qh (hS.out.step hb5)
                replace hIm := qh (hIm.out.below hb5)
                clear hb5
                obtain ⟨hx1, hx2⟩ := hS.out.cells
                go_wp2_with (first
              | (refine wpList_store_at rfl 42 _ _ rfl w.heap.size 2 rfl 51 _ (.slice p5 _ q5) hS.out.blk (by show 2 < 4; omega) rfl (by kernel_rfl) rfl ?_; intro w6 hX6 ho6; replace hS := qh (hS.out.next hX6 ho6 hI5.out hz5.out); clear hX6 hI5 hz5 hx1 hx2; obtain ⟨hx1, hx2⟩ := hS.out.cells; (try replace hIm := qh (hIm.out.only ho6 (fun x hx e => by have := hzm.out x hx; omega))); clear ho6))
                exact ⟨⟨i + 1, p5, q5, by omega, rfl, by rw [hst.out]; exact hS, hIm⟩, by simp [intOf]; omega⟩
              · obtain rfl : i = M.length := by omega
                have hltI : ¬ (M.length : Int) < M.length := by omega
                rw [List.take_length] at hS
                clear hlt
                go_wp2_with (first
                  | (refine wpList_store_at rfl 4 _ _ rfl w.heap.size 3 rfl 51 _ (.bool true) hS.out.blk (by show 3 < 4; omega) rfl (by kernel_rfl) rfl ?_; intro w6 hX6 ho6; replace hS := qh (hS.out.exit hX6 ho6); clear hX6 hx1 hx2; obtain ⟨hx1, hx2⟩ := hS.out.cells; clear ho6)
                  | (refine wpList_load_blkG rfl 51 _ rfl w.heap.size rfl 51 _ _ hS.out.blk hu rfl (by kernel_rfl) ?_)
                  | (refine wpList_store_blkG rfl 51 _ _ rfl (w.heap.size + 1) rfl 51 _ _ hS.out.res rfl rfl (by kernel_rfl) rfl ?_; intro w9 hD ho9; have hfin := qh (hS.out.done ho9); replace hD := qh hD; clear ho9))
                have hq := hD
                have hq2 := hfin
                refine bodyPost_ret (results_blkG (p := 4) rfl _ _ (w.heap.size + 1) 51 _ _ rfl hD.out hu rfl (by kernel_rfl)) rfl ?_
                exact ⟨⟨_, _, rfl, hfin.out.1, hfin.out.2.1⟩, hfin.out.2.2⟩
        | some N =>
          simp only [Option.getD_some] at hL hsmall hmark hN0
          replace hJ : J = if markN cs N = true then ([N], false) else ([], true) := hJ
          cases hmk : markN cs N with
          | true =>
            rw [hmk] at hJ hmark
            rw [if_pos rfl] at hJ
            have hNl : N < cs.length := by unfold markN at hmk; simp at hmk; exact hmk.1
            have hsN : smallN N = (N, true) := by unfold smallN; rw [if_pos (by omega)]
            rw [hsN] at hsmall
            have hw2 : wrap64 (N : Int) = N := wrap64_small' N (by omega)
            replace hsmall := qh hsmall
            replace hmark := qh hmark
            replace hmk := qh hmk
            replace hN0 := qh hN0
            clear hsN
            by_cases hn : nx < cs.length
            · have hR := hso.out hef (by decide) hn
              rw [hJ] at hR
              subst hR
              rw [if_pos hn] at hbeh
              have hn0 : ¬ (nx : Int) < 0 := by omega
              clear hJ h86 hno hso hend hn
              replace hbeh := qh hbeh
              go_enter Tryz.func44, Tryz.ntmps44
              go_wp2_with (first
                | (go_at_call 78; refine (hbeh.out _ hS.out.bel).mono ?_; rintro e w1 ⟨rfl, hb1⟩; replace hS := qh (hS.out.step hb1); clear hx1 hx2; obtain ⟨hx1, hx2⟩ := hS.out.cells; (try replace hW := qh (hW.out.below hb1)); (try replace hIm := qh (hIm.out.below hb1)); clear hb1)
                | (go_at_call 79; refine (hends.out _).mono ?_; rintro e w1 ⟨rfl, hb1⟩; replace hS := qh (hS.out.step hb1); clear hx1 hx2; obtain ⟨hx1, hx2⟩ := hS.out.cells; (try replace hW := qh (hW.out.below hb1)); (try replace hIm := qh (hIm.out.below hb1)); clear hb1)
                | (go_at_call 19; refine (hfix.out _ hS.out.bel).mono ?_; rintro e w1 ⟨rfl, hb1⟩; replace hS := qh (hS.out.step hb1); clear hx1 hx2; obtain ⟨hx1, hx2⟩ := hS.out.cells; (try replace hW := qh (hW.out.below hb1)); (try replace hIm := qh (hIm.out.below hb1)); clear hb1)
                | (go_at_call 80; refine (hmarks.out _ hS.out.bel).mono ?_; rintro e w1 ⟨⟨v1, rfl, hv1⟩, hb1⟩; obtain ⟨am, cm, rfl, hIm0, hzm⟩ := hv1.at; clear hv1; replace hzm := qh (hS.out.far hzm); replace hS := qh (hS.out.step hb1); clear hx1 hx2; obtain ⟨hx1, hx2⟩ := hS.out.cells; (try replace hW := qh (hW.out.below hb1)); (try replace hIm := qh (hIm.out.below hb1)); clear hb1; have hIm := qh hIm0; clear hIm0)
                | (go_at_call 81; refine (hsmall.out _).mono ?_; rintro e w1 ⟨rfl, hb1⟩; replace hS := qh (hS.out.step hb1); clear hx1 hx2; obtain ⟨hx1, hx2⟩ := hS.out.cells; (try replace hW := qh (hW.out.below hb1)); (try replace hIm := qh (hIm.out.below hb1)); clear hb1)
                | (refine wpList_store_blkG rfl 32 _ _ rfl w1.heap.size rfl 32 [.int .u64 0, .int .u64 0, .int .u64 0, .int .u64 0] L (BlkG.new w1 _ _) rfl (by rw [← hL.out]; rfl) (by rw [← hL.out]; kernel_rfl) (by rw [← hL.out]; rfl) ?_; intro w6 hW6 ho6; have hW := qh hW6; clear hW6; replace hS := qh ((hS.out.step (xalloc (xrefl w1) _)).other ho6 hS.out.two (fun x hx => by cases hx)); clear hx1 hx2 ho6; obtain ⟨hx1, hx2⟩ := hS.out.cells)
                | (refine wpList_load_blkG rfl 32 _ rfl _ rfl 32 L _ hW.out huw rfl (by rw [← hL.out]; kernel_rfl) ?_)
                | (refine wpList_load_blkG_g rfl 32 _ rfl _ rfl 32 L _ hW.out huw rfl (by rw [← hL.out]; kernel_rfl) ?_)
                | (go_at_call 82; refine (hmark.out _ hS.out.bel).mono ?_; rintro e w1 ⟨rfl, hb1⟩; replace hS := qh (hS.out.step hb1); clear hx1 hx2; obtain ⟨hx1, hx2⟩ := hS.out.cells; (try replace hW := qh (hW.out.below hb1)); (try replace hIm := qh (hIm.out.below hb1)); clear hb1)
                | (go_at_call 52; refine (refWith_any _ _ _ _ _ hS.out.ints (by first | (show 0 ≤ 2097200; omega) | (show 1 ≤ 2097200; omega) | exact hMl)).mono ?_; rintro e w1 ⟨⟨v1, rfl, hv1⟩, hb1⟩; obtain ⟨p5, q5, rfl, hI5, hz5⟩ := hv1.at; clear hv1; replace hz5 := qh (hS.out.far hz5); replace hI5 := qh hI5; replace hS := qh (hS.out.step hb1); clear hx1 hx2; obtain ⟨hx1, hx2⟩ := hS.out.cells; (try replace hW := qh (hW.out.below hb1)); (try replace hIm := qh (hIm.out.below hb1)); clear hb1)
                | (refine wpList_store_at rfl 42 _ _ rfl w.heap.size 2 rfl 51 _ (.slice p5 _ q5) hS.out.blk (by show 2 < 4; omega) rfl (by kernel_rfl) rfl ?_; intro w6 hX6 ho6; replace hS := qh (hS.out.next hX6 ho6 hI5.out hz5.out); clear hX6 hI5 hz5 hx1 hx2; obtain ⟨hx1, hx2⟩ := hS.out.cells; (try replace hIm := qh (hIm.out.only ho6 (fun x hx e => by have := hzm.out x hx; omega))); clear ho6)
                | (refine wpList_load_blkG rfl 51 _ rfl w.heap.size rfl 51 _ _ hS.out.blk hu rfl (by kernel_rfl) ?_)
                | (refine wpList_store_blkG rfl 51 _ _ rfl (w.heap.size + 1) rfl 51 _ _ hS.out.res rfl rfl (by kernel_rfl) rfl ?_; intro w9 hD ho9; have hfin := qh (hS.out.done ho9); replace hD := qh hD; clear ho9))
              have hq := hD
              have hq2 := hfin
              refine bodyPost_ret (results_blkG (p := 4) rfl _ _ (w.heap.size + 1) 51 _ _ rfl hD.out hu rfl (by kernel_rfl)) rfl ?_
              exact ⟨⟨_, _, rfl, hfin.out.1, hfin.out.2.1⟩, hfin.out.2.2⟩
            · have hR := hno.out hef (by decide) (by omega)
              rw [hJ] at hR
              subst hR
              rw [if_neg hn] at hbeh
              clear hJ h86 hno hso hend hn
              replace hbeh := qh hbeh
              go_enter Tryz.func44, Tryz.ntmps44
              go_wp2_with (first
                | (go_at_call 78; refine (hbeh.out _ hS.out.bel).mono ?_; rintro e w1 ⟨rfl, hb1⟩; replace hS := qh (hS.out.step hb1); clear hx1 hx2; obtain ⟨hx1, hx2⟩ := hS.out.cells; (try replace hW := qh (hW.out.below hb1)); (try replace hIm := qh (hIm.out.below hb1)); clear hb1)
                | (go_at_call 79; refine (hends.out _).mono ?_; rintro e w1 ⟨rfl, hb1⟩; replace hS := qh (hS.out.step hb1); clear hx1 hx2; obtain ⟨hx1, hx2⟩ := hS.out.cells; (try replace hW := qh (hW.out.below hb1)); (try replace hIm := qh (hIm.out.below hb1)); clear hb1)
                | (go_at_call 19; refine (hfix.out _ hS.out.bel).mono ?_; rintro e w1 ⟨rfl, hb1⟩; replace hS := qh (hS.out.step hb1); clear hx1 hx2; obtain ⟨hx1, hx2⟩ := hS.out.cells; (try replace hW := qh (hW.out.below hb1)); (try replace hIm := qh (hIm.out.below hb1)); clear hb1)
                | (go_at_call 80; refine (hmarks.out _ hS.out.bel).mono ?_; rintro e w1 ⟨⟨v1, rfl, hv1⟩, hb1⟩; obtain ⟨am, cm, rfl, hIm0, hzm⟩ := hv1.at; clear hv1; replace hzm := qh (hS.out.far hzm); replace hS := qh (hS.out.step hb1); clear hx1 hx2; obtain ⟨hx1, hx2⟩ := hS.out.cells; (try replace hW := qh (hW.out.below hb1)); (try replace hIm := qh (hIm.out.below hb1)); clear hb1; have hIm := qh hIm0; clear hIm0)
                | (go_at_call 81; refine (hsmall.out _).mono ?_; rintro e w1 ⟨rfl, hb1⟩; replace hS := qh (hS.out.step hb1); clear hx1 hx2; obtain ⟨hx1, hx2⟩ := hS.out.cells; (try replace hW := qh (hW.out.below hb1)); (try replace hIm := qh (hIm.out.below hb1)); clear hb1)
                | (refine wpList_store_blkG rfl 32 _ _ rfl w1.heap.size rfl 32 [.int .u64 0, .int .u64 0, .int .u64 0, .int .u64 0] L (BlkG.new w1 _ _) rfl (by rw [← hL.out]; rfl) (by rw [← hL.out]; kernel_rfl) (by rw [← hL.out]; rfl) ?_; intro w6 hW6 ho6; have hW := qh hW6; clear hW6; replace hS := qh ((hS.out.step (xalloc (xrefl w1) _)).other ho6 hS.out.two (fun x hx => by cases hx)); clear hx1 hx2 ho6; obtain ⟨hx1, hx2⟩ := hS.out.cells)
                | (refine wpList_load_blkG rfl 32 _ rfl _ rfl 32 L _ hW.out huw rfl (by rw [← hL.out]; kernel_rfl) ?_)
                | (refine wpList_load_blkG_g rfl 32 _ rfl _ rfl 32 L _ hW.out huw rfl (by rw [← hL.out]; kernel_rfl) ?_)
                | (go_at_call 82; refine (hmark.out _ hS.out.bel).mono ?_; rintro e w1 ⟨rfl, hb1⟩; replace hS := qh (hS.out.step hb1); clear hx1 hx2; obtain ⟨hx1, hx2⟩ := hS.out.cells; (try replace hW := qh (hW.out.below hb1)); (try replace hIm := qh (hIm.out.below hb1)); clear hb1)
                | (go_at_call 52; refine (refWith_any _ _ _ _ _ hS.out.ints (by first | (show 0 ≤ 2097200; omega) | (show 1 ≤ 2097200; omega) | exact hMl)).mono ?_; rintro e w1 ⟨⟨v1, rfl, hv1⟩, hb1⟩; obtain ⟨p5, q5, rfl, hI5, hz5⟩ := hv1.at; clear hv1; replace hz5 := qh (hS.out.far hz5); replace hI5 := qh hI5; replace hS := qh (hS.out.step hb1); clear hx1 hx2; obtain ⟨hx1, hx2⟩ := hS.out.cells; (try replace hW := qh (hW.out.below hb1)); (try replace hIm := qh (hIm.out.below hb1)); clear hb1)
                | (refine wpList_store_at rfl 42 _ _ rfl w.heap.size 2 rfl 51 _ (.slice p5 _ q5) hS.out.blk (by show 2 < 4; omega) rfl (by kernel_rfl) rfl ?_; intro w6 hX6 ho6; replace hS := qh (hS.out.next hX6 ho6 hI5.out hz5.out); clear hX6 hI5 hz5 hx1 hx2; obtain ⟨hx1, hx2⟩ := hS.out.cells; (try replace hIm := qh (hIm.out.only ho6 (fun x hx e => by have := hzm.out x hx; omega))); clear ho6)
                | (refine wpList_store_at rfl 4 _ _ rfl w.heap.size 3 rfl 51 _ (.bool true) hS.out.blk (by show 3 < 4; omega) rfl (by kernel_rfl) rfl ?_; intro w6 hX6 ho6; replace hS := qh (hS.out.exit hX6 ho6); clear hX6 hx1 hx2; obtain ⟨hx1, hx2⟩ := hS.out.cells; clear ho6)
                | (refine wpList_load_blkG rfl 51 _ rfl w.heap.size rfl 51 _ _ hS.out.blk hu rfl (by kernel_rfl) ?_)
                | (refine wpList_store_blkG rfl 51 _ _ rfl (w.heap.size + 1) rfl 51 _ _ hS.out.res rfl rfl (by kernel_rfl) rfl ?_; intro w9 hD ho9; have hfin := qh (hS.out.done ho9); replace hD := qh hD; clear ho9))
              have hq := hD
              have hq2 := hfin
              refine bodyPost_ret (results_blkG (p := 4) rfl _ _ (w.heap.size + 1) 51 _ _ rfl hD.out hu rfl (by kernel_rfl)) rfl ?_
              exact ⟨⟨_, _, rfl, hfin.out.1, hfin.out.2.1⟩, hfin.out.2.2⟩
          | false =>
            rw [hmk] at hJ hmark
            rw [if_neg (by decide)] at hJ
            generalize smallN N = sm at *
            replace hsmall := qh hsmall
            replace hmark := qh hmark
            replace hmk := qh hmk
            replace hN0 := qh hN0
            by_cases hn : nx < cs.length
            · have hR := hso.out hef (by decide) hn
              rw [hJ] at hR
              subst hR
              rw [if_pos hn] at hbeh
              have hn0 : ¬ (nx : Int) < 0 := by omega
              clear hJ h86 hno hso hend hn
              replace hbeh := qh hbeh
              go_enter Tryz.func44, Tryz.ntmps44
              go_wp2_with (first
                | (go_at_call 78; refine (hbeh.out _ hS.out.bel).mono ?_; rintro e w1 ⟨rfl, hb1⟩; replace hS := qh (hS.out.step hb1); clear hx1 hx2; obtain ⟨hx1, hx2⟩ := hS.out.cells; (try replace hW := qh (hW.out.below hb1)); (try replace hIm := qh (hIm.out.below hb1)); clear hb1)
                | (go_at_call 79; refine (hends.out _).mono ?_; rintro e w1 ⟨rfl, hb1⟩; replace hS := qh (hS.out.step hb1); clear hx1 hx2; obtain ⟨hx1, hx2⟩ := hS.out.cells; (try replace hW := qh (hW.out.below hb1)); (try replace hIm := qh (hIm.out.below hb1)); clear hb1)
                | (go_at_call 19; refine (hfix.out _ hS.out.bel).mono ?_; rintro e w1 ⟨rfl, hb1⟩; replace hS := qh (hS.out.step hb1); clear hx1 hx2; obtain ⟨hx1, hx2⟩ := hS.out.cells; (try replace hW := qh (hW.out.below hb1)); (try replace hIm := qh (hIm.out.below hb1)); clear hb1)
                | (go_at_call 80; refine (hmarks.out _ hS.out.bel).mono ?_; rintro e w1 ⟨⟨v1, rfl, hv1⟩, hb1⟩; obtain ⟨am, cm, rfl, hIm0, hzm⟩ := hv1.at; clear hv1; replace hzm := qh (hS.out.far hzm); replace hS := qh (hS.out.step hb1); clear hx1 hx2; obtain ⟨hx1, hx2⟩ := hS.out.cells; (try replace hW := qh (hW.out.below hb1)); (try replace hIm := qh (hIm.out.below hb1)); clear hb1; have hIm := qh hIm0; clear hIm0)
                | (go_at_call 81; refine (hsmall.out _).mono ?_; rintro e w1 ⟨rfl, hb1⟩; replace hS := qh (hS.out.step hb1); clear hx1 hx2; obtain ⟨hx1, hx2⟩ := hS.out.cells; (try replace hW := qh (hW.out.below hb1)); (try replace hIm := qh (hIm.out.below hb1)); clear hb1)
                | (refine wpList_store_blkG rfl 32 _ _ rfl w1.heap.size rfl 32 [.int .u64 0, .int .u64 0, .int .u64 0, .int .u64 0] L (BlkG.new w1 _ _) rfl (by rw [← hL.out]; rfl) (by rw [← hL.out]; kernel_rfl) (by rw [← hL.out]; rfl) ?_; intro w6 hW6 ho6; have hW := qh hW6; clear hW6; replace hS := qh ((hS.out.step (xalloc (xrefl w1) _)).other ho6 hS.out.two (fun x hx => by cases hx)); clear hx1 hx2 ho6; obtain ⟨hx1, hx2⟩ := hS.out.cells)
                | (refine wpList_load_blkG rfl 32 _ rfl _ rfl 32 L _ hW.out huw rfl (by rw [← hL.out]; kernel_rfl) ?_)
                | (refine wpList_load_blkG_g rfl 32 _ rfl _ rfl 32 L _ hW.out huw rfl (by rw [← hL.out]; kernel_rfl) ?_)
                | (go_at_call 82; refine (hmark.out _ hS.out.bel).mono ?_; rintro e w1 ⟨rfl, hb1⟩; replace hS := qh (hS.out.step hb1); clear hx1 hx2; obtain ⟨hx1, hx2⟩ := hS.out.cells; (try replace hW := qh (hW.out.below hb1)); (try replace hIm := qh (hIm.out.below hb1)); clear hb1)
                | (refine wpList_store_at rfl 4 _ _ rfl w.heap.size 3 rfl 51 _ (.bool true) hS.out.blk (by show 3 < 4; omega) rfl (by kernel_rfl) rfl ?_; intro w6 hX6 ho6; replace hS := qh (hS.out.exit hX6 ho6); clear hX6 hx1 hx2; obtain ⟨hx1, hx2⟩ := hS.out.cells; clear ho6)
                | (go_at_call 52; refine (refWith_any _ _ _ _ _ hS.out.ints (by first | (show 0 ≤ 2097200; omega) | (show 1 ≤ 2097200; omega) | exact hMl)).mono ?_; rintro e w1 ⟨⟨v1, rfl, hv1⟩, hb1⟩; obtain ⟨p5, q5, rfl, hI5, hz5⟩ := hv1.at; clear hv1; replace hz5 := qh (hS.out.far hz5); replace hI5 := qh hI5; replace hS := qh (hS.out.step hb1); clear hx1 hx2; obtain ⟨hx1, hx2⟩ := hS.out.cells; (try replace hW := qh (hW.out.below hb1)); (try replace hIm := qh (hIm.out.below hb1)); clear hb1)
                | (refine wpList_store_at rfl 42 _ _ rfl w.heap.size 2 rfl 51 _ (.slice p5 _ q5) hS.out.blk (by show 2 < 4; omega) rfl (by kernel_rfl) rfl ?_; intro w6 hX6 ho6; replace hS := qh (hS.out.next hX6 ho6 hI5.out hz5.out); clear hX6 hI5 hz5 hx1 hx2; obtain ⟨hx1, hx2⟩ := hS.out.cells; (try replace hIm := qh (hIm.out.only ho6 (fun x hx e => by have := hzm.out x hx; omega))); clear ho6)
                | (refine wpList_load_blkG rfl 51 _ rfl w.heap.size rfl 51 _ _ hS.out.blk hu rfl (by kernel_rfl) ?_)
                | (refine wpList_store_blkG rfl 51 _ _ rfl (w.heap.size + 1) rfl 51 _ _ hS.out.res rfl rfl (by kernel_rfl) rfl ?_; intro w9 hD ho9; have hfin := qh (hS.out.done ho9); replace hD := qh hD; clear ho9))
              have hq := hD
              have hq2 := hfin
              refine bodyPost_ret (results_blkG (p := 4) rfl _ _ (w.heap.size + 1) 51 _ _ rfl hD.out hu rfl (by kernel_rfl)) rfl ?_
              exact ⟨⟨_, _, rfl, hfin.out.1, hfin.out.2.1⟩, hfin.out.2.2⟩
            · have hR := hno.out hef (by decide) (by omega)
              rw [hJ] at hR
              subst hR
              rw [if_neg hn] at hbeh
              clear hJ h86 hno hso hend hn
              replace hbeh := qh hbeh
              go_enter Tryz.func44, Tryz.ntmps44
              go_wp2_with (first
                | (go_at_call 78; refine (hbeh.out _ hS.out.bel).mono ?_; rintro e w1 ⟨rfl, hb1⟩; replace hS := qh (hS.out.step hb1); clear hx1 hx2; obtain ⟨hx1, hx2⟩ := hS.out.cells; (try replace hW := qh (hW.out.below hb1)); (try replace hIm := qh (hIm.out.below hb1)); clear hb1)
                | (go_at_call 79; refine (hends.out _).mono ?_; rintro e w1 ⟨rfl, hb1⟩; replace hS := qh (hS.out.step hb1); clear hx1 hx2; obtain ⟨hx1, hx2⟩ := hS.out.cells; (try replace hW := qh (hW.out.below hb1)); (try replace hIm := qh (hIm.out.below hb1)); clear hb1)
                | (go_at_call 19; refine (hfix.out _ hS.out.bel).mono ?_; rintro e w1 ⟨rfl, hb1⟩; replace hS := qh (hS.out.step hb1); clear hx1 hx2; obtain ⟨hx1, hx2⟩ := hS.out.cells; (try replace hW := qh (hW.out.below hb1)); (try replace hIm := qh (hIm.out.below hb1)); clear hb1)
                | (go_at_call 80; refine (hmarks.out _ hS.out.bel).mono ?_; rintro e w1 ⟨⟨v1, rfl, hv1⟩, hb1⟩; obtain ⟨am, cm, rfl, hIm0, hzm⟩ := hv1.at; clear hv1; replace hzm := qh (hS.out.far hzm); replace hS := qh (hS.out.step hb1); clear hx1 hx2; obtain ⟨hx1, hx2⟩ := hS.out.cells; (try replace hW := qh (hW.out.below hb1)); (try replace hIm := qh (hIm.out.below hb1)); clear hb1; have hIm := qh hIm0; clear hIm0)
                | (go_at_call 81; refine (hsmall.out _).mono ?_; rintro e w1 ⟨rfl, hb1⟩; replace hS := qh (hS.out.step hb1); clear hx1 hx2; obtain ⟨hx1, hx2⟩ := hS.out.cells; (try replace hW := qh (hW.out.below hb1)); (try replace hIm := qh (hIm.out.below hb1)); clear hb1)
                | (refine wpList_store_blkG rfl 32 _ _ rfl w1.heap.size rfl 32 [.int .u64 0, .int .u64 0, .int .u64 0, .int .u64 0] L (BlkG.new w1 _ _) rfl (by rw [← hL.out]; rfl) (by rw [← hL.out]; kernel_rfl) (by rw [← hL.out]; rfl) ?_; intro w6 hW6 ho6; have hW := qh hW6; clear hW6; replace hS := qh ((hS.out.step (xalloc (xrefl w1) _)).other ho6 hS.out.two (fun x hx => by cases hx)); clear hx1 hx2 ho6; obtain ⟨hx1, hx2⟩ := hS.out.cells)
                | (refine wpList_load_blkG rfl 32 _ rfl _ rfl 32 L _ hW.out huw rfl (by rw [← hL.out]; kernel_rfl) ?_)
                | (refine wpList_load_blkG_g rfl 32 _ rfl _ rfl 32 L _ hW.out huw rfl (by rw [← hL.out]; kernel_rfl) ?_)
                | (go_at_call 82; refine (hmark.out _ hS.out.bel).mono ?_; rintro e w1 ⟨rfl, hb1⟩; replace hS := qh (hS.out.step hb1); clear hx1 hx2; obtain ⟨hx1, hx2⟩ := hS.out.cells; (try replace hW := qh (hW.out.below hb1)); (try replace hIm := qh (hIm.out.below hb1)); clear hb1)
                | (refine wpList_store_at rfl 4 _ _ rfl w.heap.size 3 rfl 51 _ (.bool true) hS.out.blk (by show 3 < 4; omega) rfl (by kernel_rfl) rfl ?_; intro w6 hX6 ho6; replace hS := qh (hS.out.exit hX6 ho6); clear hX6 hx1 hx2; obtain ⟨hx1, hx2⟩ := hS.out.cells; clear ho6)
                | (refine wpList_load_blkG rfl 51 _ rfl w.heap.size rfl 51 _ _ hS.out.blk hu rfl (by kernel_rfl) ?_)
                | (refine wpList_store_blkG rfl 51 _ _ rfl (w.heap.size + 1) rfl 51 _ _ hS.out.res rfl rfl (by kernel_rfl) rfl ?_; intro w9 hD ho9; have hfin := qh (hS.out.done ho9); replace hD := qh hD; clear ho9))
              have hq := hD
              have hq2 := hfin
              refine bodyPost_ret (results_blkG (p := 4) rfl _ _ (w.heap.size + 1) 51 _ _ rfl hD.out hu rfl (by kernel_rfl)) rfl ?_
              exact ⟨⟨_, _, rfl, hfin.out.1, hfin.out.2.1⟩, hfin.out.2.2⟩
      · have hJ := hJ0.out e1 e2
        have d1 : ¬ (x : Int) = 86 := by omega
        have d2 : ¬ (x : Int) = 87 := by omega
        have d3 : ((x : Int) == 86) = false := by simpa using d1
        have d4 : ((x : Int) == 87) = false := by simpa using d2
        have d5 : ((x : Int) != 86) = true := by simpa using d1
        clear hsmall hmark hmarks hfix hL
        by_cases hn : nx < cs.length
        · have hR := hso.out hef e1 hn
          rw [hJ] at hR
          subst hR
          rw [if_pos hn] at hbeh
          have hn0 : ¬ (nx : Int) < 0 := by omega
          generalize (x : Int) = xz at *
          clear hJ h86 hno hso hend hn hJj hJ0 e1 e2 hef
          replace hbeh := qh hbeh
          go_enter Tryz.func44, Tryz.ntmps44
          go_wp2_with (first
            | (go_at_call 78; refine (hbeh.out _ hS.out.bel).mono ?_; rintro e w1 ⟨rfl, hb1⟩; replace hS := qh (hS.out.step hb1); clear hx1 hx2; obtain ⟨hx1, hx2⟩ := hS.out.cells; (try replace hW := qh (hW.out.below hb1)); (try replace hIm := qh (hIm.out.below hb1)); clear hb1)
            | (go_at_call 79; refine (hends.out _).mono ?_; rintro e w1 ⟨rfl, hb1⟩; replace hS := qh (hS.out.step hb1); clear hx1 hx2; obtain ⟨hx1, hx2⟩ := hS.out.cells; (try replace hW := qh (hW.out.below hb1)); (try replace hIm := qh (hIm.out.below hb1)); clear hb1)
            | (go_at_call 52; refine (refWith_any _ _ _ _ _ hS.out.ints (by first | (show 0 ≤ 2097200; omega) | (show 1 ≤ 2097200; omega) | exact hMl)).mono ?_; rintro e w1 ⟨⟨v1, rfl, hv1⟩, hb1⟩; obtain ⟨p5, q5, rfl, hI5, hz5⟩ := hv1.at; clear hv1; replace hz5 := qh (hS.out.far hz5); replace hI5 := qh hI5; replace hS := qh (hS.out.step hb1); clear hx1 hx2; obtain ⟨hx1, hx2⟩ := hS.out.cells; (try replace hW := qh (hW.out.below hb1)); (try replace hIm := qh (hIm.out.below hb1)); clear hb1)
            | (refine wpList_store_at rfl 42 _ _ rfl w.heap.size 2 rfl 51 _ (.slice p5 _ q5) hS.out.blk (by show 2 < 4; omega) rfl (by kernel_rfl) rfl ?_; intro w6 hX6 ho6; replace hS := qh (hS.out.next hX6 ho6 hI5.out hz5.out); clear hX6 hI5 hz5 hx1 hx2; obtain ⟨hx1, hx2⟩ := hS.out.cells; (try replace hIm := qh (hIm.out.only ho6 (fun x hx e => by have := hzm.out x hx; omega))); clear ho6)
            | (refine wpList_load_blkG rfl 51 _ rfl w.heap.size rfl 51 _ _ hS.out.blk hu rfl (by kernel_rfl) ?_)
            | (refine wpList_store_blkG rfl 51 _ _ rfl (w.heap.size + 1) rfl 51 _ _ hS.out.res rfl rfl (by kernel_rfl) rfl ?_; intro w9 hD ho9; have hfin := qh (hS.out.done ho9); replace hD := qh hD; clear ho9))
          have hq := hD
          have hq2 := hfin
          refine bodyPost_ret (results_blkG (p := 4) rfl _ _ (w.heap.size + 1) 51 _ _ rfl hD.out hu rfl (by kernel_rfl)) rfl ?_
          exact ⟨⟨_, _, rfl, hfin.out.1, hfin.out.2.1⟩, hfin.out.2.2⟩
        · have hR := hno.out hef e1 (by omega)
          rw [hJ] at hR
          subst hR
          rw [if_neg hn] at hbeh
          generalize (x : Int) = xz at *
          clear hJ h86 hno hso hend hn hJj hJ0 e1 e2 hef
          replace hbeh := qh hbeh
          go_enter Tryz.func44, Tryz.ntmps44
          go_wp2_with (first
            | (go_at_call 78; refine (hbeh.out _ hS.out.bel).mono ?_; rintro e w1 ⟨rfl, hb1⟩; replace hS := qh (hS.out.step hb1); clear hx1 hx2; obtain ⟨hx1, hx2⟩ := hS.out.cells; (try replace hW := qh (hW.out.below hb1)); (try replace hIm := qh (hIm.out.below hb1)); clear hb1)
            | (go_at_call 79; refine (hends.out _).mono ?_; rintro e w1 ⟨rfl, hb1⟩; replace hS := qh (hS.out.step hb1); clear hx1 hx2; obtain ⟨hx1, hx2⟩ := hS.out.cells; (try replace hW := qh (hW.out.below hb1)); (try replace hIm := qh (hIm.out.below hb1)); clear hb1)
            | (refine wpList_store_at rfl 4 _ _ rfl w.heap.size 3 rfl 51 _ (.bool true) hS.out.blk (by show 3 < 4; omega) rfl (by kernel_rfl) rfl ?_; intro w6 hX6 ho6; replace hS := qh (hS.out.exit hX6 ho6); clear hX6 hx1 hx2; obtain ⟨hx1, hx2⟩ := hS.out.cells; clear ho6)
            | (refine wpList_load_blkG rfl 51 _ rfl w.heap.size rfl 51 _ _ hS.out.blk hu rfl (by kernel_rfl) ?_)
            | (refine wpList_store_blkG rfl 51 _ _ rfl (w.heap.size + 1) rfl 51 _ _ hS.out.res rfl rfl (by kernel_rfl) rfl ?_; intro w9 hD ho9; have hfin := qh (hS.out.done ho9); replace hD := qh hD; clear ho9))
          have hq := hD
          have hq2 := hfin
          refine bodyPost_ret (results_blkG (p := 4) rfl _ _ (w.heap.size + 1) 51 _ _ rfl hD.out hu rfl (by kernel_rfl)) rfl ?_
          exact ⟨⟨_, _, rfl, hfin.out.1, hfin.out.2.1⟩, hfin.out.2.2⟩
end Go.Proofs.YtijkdabmegbcjaaGreatDoor
