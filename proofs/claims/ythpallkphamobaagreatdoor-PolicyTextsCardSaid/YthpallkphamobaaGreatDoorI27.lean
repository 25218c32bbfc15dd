/- Texts of this claim, merged; no condition. -/
import Derived.Test.YthpallkphamobaaGreatDoorI26
set_option linter.all false
namespace Go.Proofs.YthpallkphamobaaGreatDoor
open Go.RowKit Go.Shelf
attribute [local go_sem] Oper.semAt_some

/-- The text of a policy that may be. -/
def endl (s : List UInt8) : List UInt8 := s ++ [10]
def textG (p : PolN) : List UInt8 := (linesG p).flatMap endl
theorem textG_ok {p : PolN} (h : checkF p = 0) : textG p = textF p := by unfold textG linesG; rw [if_pos h]; rfl
theorem textG_no {p : PolN} (h : checkF p ≠ 0) : textG p = [] := by unfold textG linesG; rw [if_neg h]; rfl
theorem lineF_len {p : PolN} (h : p.Ok) : ∀ l ∈ linesF p, l.length ≤ 100000 := by
  rw [linesF_eq]
  intro l hl
  simp only [List.mem_cons, List.mem_append, List.mem_map] at hl
  rcases hl with rfl | ⟨x, hx, rfl⟩ | ⟨x, hx, rfl⟩
  · unfold dS lineD
    rw [Lib.join_length]
    have := textL_len p.dflt
    simp [wDefault, Lib.lens]
    omega
  · exact cS_len x (h.adrC hx)
  · exact rS_len x (h.adrR hx) (h.r x hx).2
theorem lineG_len {p : PolN} (h : p.Ok) : ∀ l ∈ linesG p, l.length ≤ 100000 := by
  unfold linesG
  split
  · exact lineF_len h
  · simp
theorem ixL_flat (ls : List (List UInt8)) : (ixL ls).flatMap (fun x => endl x.2) = ls.flatMap endl := by
  unfold ixL
  rw [List.flatMap_map]
  have : ∀ (l : List (List UInt8)) (k : Nat), (l.zipIdx k).flatMap (fun x => endl x.1) = l.flatMap endl := by
    intro l
    induction l with
    | nil => intro k; rfl
    | cons x xs ih => intro k; rw [List.zipIdx_cons, List.flatMap_cons, List.flatMap_cons, ih]
  exact this ls 0
theorem flatE_len (ls : List (List UInt8)) (n : Nat) (h : ∀ l ∈ ls, l.length ≤ n) : (ls.flatMap endl).length ≤ ls.length * (n + 1) := by
  induction ls with
  | nil => simp
  | cons x xs ih =>
    rw [List.flatMap_cons, List.length_append, List.length_cons, Nat.add_mul, Nat.one_mul]
    have := ih fun l hl => h l (List.mem_cons_of_mem _ hl)
    have := h x List.mem_cons_self
    simp only [endl, List.length_append, List.length_singleton]
    omega
def TxP (w : World) (b : Nat) (RD : Nat → Prop) (O : Nat → Prop) (pre : List (Nat × List UInt8)) (W : World) : Prop :=
  BldS (fun k => O k ∨ RD k) b b (Lib.byteCells (pre.flatMap fun x => endl x.2)) W ∧ Below w.heap.size w W
theorem BldS.only {S S' O : Nat → Prop} {B b : Nat} {bs : List Value} {W W' : World} (h : BldS S B b bs W) (hon : Only O W W') (hO : ∀ k, O k → S k) (hb' : ¬ S' b) (hS' : ∀ k, S' k → S k ∨ W.heap.size ≤ k) : BldS S' B b bs W' := by
  obtain ⟨h1, h2, h3⟩ := h
  have key : ∀ p, BldAt B b p bs W → BldAt B b p bs W' ∧ ∀ v, W'.cell? ⟨b, 1, none⟩ = some v → ∀ g, v.ownBlock = some g → ¬ S' g := by
    rintro p ⟨hB, v, hbk, ho, hne⟩
    have hv := h3 v (by rw [Lib.cell_of_heap hbk]; rfl)
    have e2 : W'.heap[b]? = some (.cells #[p, v] 95 (0, 0)) := (hon.same b (Array.getElem?_eq_some_iff.1 hbk).1 (fun h => h1 (hO b h))).trans hbk
    refine ⟨⟨hB, v, e2, own_only ho hon (fun g hg h => hv g hg (hO g h)), hne⟩, fun u hu g hg hs => ?_⟩
    rw [Lib.cell_of_heap e2] at hu
    have e4 : v = u := by simpa using hu
    subst e4
    rcases hS' g hs with h | h
    · exact hv g hg h
    · have := (own_lt ho hg).2; omega
  rcases h2 with h | h
  · obtain ⟨k1, k2⟩ := key _ h
    exact ⟨hb', .inl k1, k2⟩
  · obtain ⟨k1, k2⟩ := key _ h
    exact ⟨hb', .inr k1, k2⟩
theorem txP_stable (w : World) (b : Nat) (RD : Nat → Prop) (M : Nat) (hb : b < M) (hw : w.heap.size ≤ M) (hRD : ¬ RD b) : Stable M (TxP w b RD) := by
  rintro O O' s W W' ⟨h1, h2⟩ hO hon hO'
  refine ⟨h1.only hon (fun k h => .inl h) (fun h => ?_) (fun k h => ?_), hon.below h2 h2.size (fun i h => by have := hO i h; omega)⟩
  · rcases h with h | h
    · rcases hO' b h with h | h
      · have := hO b h; omega
      · rcases h1.2.1 with ⟨-, v, hbk, -⟩ | ⟨-, v, hbk, -⟩ <;> (have := (Array.getElem?_eq_some_iff.1 hbk).1; omega)
    · exact hRD h
  · rcases h with h | h
    · rcases hO' k h with h | h
      · exact .inl (.inl h)
      · exact .inr h
    · exact .inl (.inr h)
theorem pre_len {ls : List (List UInt8)} {n : Nat} (h : ∀ l ∈ ls, l.length ≤ n) {pre : List (Nat × List UInt8)} {x : Nat × List UInt8} (hk : ∃ k, k ≤ ls.length ∧ pre ++ [x] = (ixL ls).take k) : (pre.flatMap fun x => endl x.2).length + (x.2.length + 1) ≤ ls.length * (n + 1) := by
  obtain ⟨k, -, hk⟩ := hk
  have h1 := flatE_len ls n h
  rw [← ixL_flat] at h1
  have h2 : ((ixL ls).flatMap fun x => endl x.2) = ((pre ++ [x]).flatMap fun x => endl x.2) ++ ((ixL ls).drop k).flatMap fun x => endl x.2 := by
    rw [hk, ← List.flatMap_append, List.take_append_drop]
  rw [h2] at h1
  simp only [List.flatMap_append, List.flatMap_cons, List.flatMap_nil, List.length_append, List.append_nil, endl, List.length_singleton] at h1 ⊢
  omega
theorem strCells_of (l : List UInt8) : Lib.strCells ⟨l.toArray⟩ = Lib.byteCells l := by simp [Lib.strCells, Lib.byteCells]
set_option maxRecDepth 100000 in
set_option maxHeartbeats 4000000 in
theorem textP_any (p : PolN) (pa pb : Option Addr) (pc pd : Nat) (w : World) (hp : PolAt w p pa pc pb pd) (hT : TabP w) (hl1 : p.clears.length ≤ 1000) (hl2 : p.rels.length ≤ 1000) :
    Calls Tryz.prog 32 #[polV p pa pc pb pd] w fun e w' => e = .returned (.tuple #[strL (textG p), .int .i64 (checkF p)]) ∧ Below w.heap.size w w' := by
  have hln := linesG_len p
  have hll := lineG_len hp.ok
  obtain ⟨w2, hw2⟩ : ∃ w2, (w.alloc (.cells #[labV p.dflt, .slice pa p.clears.length pc, .slice pb p.rels.length pd] 27)).alloc (.cells #[.pointer none, .slice none 0 0] 95) = w2 := ⟨_, rfl⟩
  have hb2 : Below w.heap.size w w2 := hw2 ▸ xalloc (xalloc (xrefl w) _) _
  have hz2 : w2.heap.size = w.heap.size + 2 := by rw [← hw2]; simp
  have hP : BlkG w2 w.heap.size 27 [labV p.dflt, .slice pa p.clears.length pc, .slice pb p.rels.length pd] := hw2 ▸ (BlkG.new w _ _).below (xalloc (xrefl _) _)
  have hB2 : Bld (w.heap.size + 1) (w.heap.size + 1) [] w2 ∧ w2.cell? ⟨w.heap.size + 1, 1, none⟩ = some (.slice none 0 0) := by
    have := Lib.fresh_isBuilder 95 5 (w.alloc (.cells #[labV p.dflt, .slice pa p.clears.length pc, .slice pb p.rels.length pd] 27))
    have h2 := World.alloc_heap_new (w.alloc (.cells #[labV p.dflt, .slice pa p.clears.length pc, .slice pb p.rels.length pd] 27)) (.cells #[.pointer none, .slice none 0 0] 95)
    rw [World.size_alloc] at this h2
    rw [hw2] at this h2
    exact ⟨this, by rw [Lib.cell_of_heap h2]; rfl⟩
  have hck := Lib.hid (check_any p pa pb pc pd w2 (hp.below hb2) (by omega) (by omega))
  have hPr := Lib.hid (BlkG.range hP)
  have hpl := Lib.hid fun W (h : Below w2.heap.size w2 W) => linesO_any p pa pb pc pd W (hp.below (xtrans hb2 h)) (hT.below (xtrans hb2 h)) hl1 hl2
  have hfl := Lib.hid (show textG p = (linesG p).flatMap endl from rfl)
  generalize hn : checkF p = n at *
  replace hn := Lib.hid hn
  obtain ⟨ls, hls⟩ : ∃ ls, ls = linesG p := ⟨_, rfl⟩
  rw [← hls] at hln hll hfl
  replace hls := Lib.hid hls
  obtain ⟨tx, htx⟩ : ∃ tx, tx = textG p := ⟨_, rfl⟩
  rw [← htx] at hfl ⊢
  replace htx := Lib.hid htx
  replace hll := Lib.hid hll
  replace hb2 := Lib.hid hb2
  replace hB2 := Lib.hid hB2
  replace hP := Lib.hid hP
  clear hp hT
  unfold polV at hck hpl ⊢
  refine (callsIn_wide (n := 0)).1 ?_
  refine callsIn_of_wp_marks Tryz.func32 rfl trivial ?_ rfl
  simp only [Tryz.ntmps32, List.size_toArray, List.length_cons, List.length_nil, Nat.reduceAdd, Nat.reduceSub, Array.replicate_succ, Array.replicate_zero, List.push_toArray, List.append_toArray, List.nil_append, List.cons_append]
  refine wpIn_wide.2 ?_
  have hw2' := Lib.hid hw2
  clear hw2
  go_wp2_with (first
      | (refine wpList_load_mid rfl 27 _ rfl w.heap.size 0 rfl [labV p.dflt, .slice pa p.clears.length pc, .slice pb p.rels.length pd] _ hPr.out Tryz.underlying27 rfl (by kernel_rfl) ?_)
      | (go_at_call 14; rw [hw2'.out]; refine hck.out.mono ?_; rintro e w3 ⟨rfl, hb3⟩; have hPr3 := Lib.hid ((hP.out.below hb3).range); replace hb3 := Lib.hid hb3; clear hPr)
      | (refine wpList_load_mid rfl 27 _ rfl w.heap.size 0 rfl [labV p.dflt, .slice pa p.clears.length pc, .slice pb p.rels.length pd] _ hPr3.out Tryz.underlying27 rfl (by kernel_rfl) ?_)
      | (go_at_call 36; refine (hpl.out _ hb3.out).mono ?_; rintro e w4 ⟨⟨v, rfl, hv⟩, hb4⟩; rw [← hls.out] at hv; replace hv := Lib.hid hv; have hb34 := Lib.hid hb4; clear hb4))
  obtain ⟨bx, ax, cx, rfl, hx4, hr4, hNb, hNa⟩ := hv.out
  have hz3 := hb3.out.size
  have hz4 := hb34.out.size
  have hRl : ∀ k, RdR ax ls k → w3.heap.size ≤ k ∧ k < w4.heap.size := fun k hk => ⟨by obtain ⟨-, y, e, rfl⟩ := hk; exact hNa y e, rdR_lt hr4 hk⟩
  have hw4 : Below w.heap.size w w4 := xtrans hb2.out (xtrans hb3.out hb34.out)
  have hw24 : Below w2.heap.size w2 w4 := xtrans hb3.out hb34.out
  have hRb : ¬ RdR ax ls (w.heap.size + 1) := fun h => by have := hRl _ h; omega
  have h00 : TxP w (w.heap.size + 1) (RdR ax ls) (fun _ => False) [] w4 := by
    refine ⟨⟨fun h => h.elim id hRb, ?_, fun v hv g hg => ?_⟩, hw4⟩
    · rcases hB2.out.1 with ⟨hB, v, hbk, ho, hne⟩ | ⟨hB, v, hbk, ho, hne⟩
      · exact .inl ⟨hB, v, (hw24.block _ (Array.getElem?_eq_some_iff.1 hbk).1).trans hbk, own_keep ho hw24, hne⟩
      · exact .inr ⟨hB, v, (hw24.block _ (Array.getElem?_eq_some_iff.1 hbk).1).trans hbk, own_keep ho hw24, hne⟩
    · rw [cbel hw24 hB2.out.2] at hv
      cases hv
      cases hg
  have hst := txP_stable w (w.heap.size + 1) (RdR ax ls) w4.heap.size (by omega) (by omega) hRb
  replace hRl := Lib.hid hRl
  replace hRb := Lib.hid hRb
  replace hx4 := Lib.hid hx4
  replace hr4 := Lib.hid hr4
  replace hNa := Lib.hid hNa
  replace h00 := Lib.hid h00
  replace hw4 := Lib.hid hw4
  replace hw24 := Lib.hid hw24
  clear hv hb3 hb34 hB2 hck hPr3 hP hpl
  refine wp_mid 0 (fun a' a'' W' => ∃ D, a'' = { a' with defers := { target := .collected D, args := #[] } :: a'.defers } ∧ w4.heap.size ≤ D ∧ W'.heap[D]? = some (.deferred (some [])) ∧ TxP w (w.heap.size + 1) (RdR ax ls) (fun k => k = D) (ixL ls) W') ?range ?rest (fun _ _ h => h)
  case range =>
    refine (wpIn_wide (n := 0)).1 ?_
    refine wp_rangeP (gf := 68) (lb := #[.pointer (some ⟨bx, 0, none⟩)]) rfl (enters_of Tryz.func68 (by kernel_rfl) rfl) (encs := encL) (Rd := RdR ax ls)
      (S := fun xs => xs = ixL ls) (Sp := fun pre => ∃ k, k ≤ ls.length ∧ pre = (ixL ls).take k) (N := ls.length) (inf := false) (fun k h => (hRl.out k h).2)
      (fun W1 hb1 => lines_seq ls bx ax cx W1 (cbel hb1 hx4.out) (hr4.out.below hb1) (by omega)) (fun x => rfl) (TxP w (w.heap.size + 1) (RdR ax ls)) (fun _ _ _ _ => False) hst (fun _ _ _ _ _ _ h _ _ _ => h) h00.out (fun h => by cases h) ?round ?done ?stop
    case round =>
      rintro l1 O pre x W1 hOl hO ⟨h1, h2⟩ hlen hsp
      have hpl := pre_len hll.out hsp
      have hpl2 : (pre.flatMap fun x => endl x.2).length + (x.2.length + 1) ≤ 140737488355328 := by
        have : ls.length * (100000 + 1) ≤ 2001 * 100001 := Nat.mul_le_mul (by omega) (Nat.le_refl _)
        omega
      unfold encL
      gi_wp2
      refine ⟨Keep.refl _ _, fun W2 hon => ?_⟩
      have hl4 : w4.heap.size ≤ l1 := (hO l1 hOl).1
      have hlW := (hO l1 hOl).2
      have hs2 := hon.size
      have b2 := hon.below h2 h2.size (by rintro i rfl; omega)
      have o2 : BldS (fun k => O k ∨ RdR ax ls k) (w.heap.size + 1) (w.heap.size + 1) (Lib.byteCells (pre.flatMap fun x => endl x.2)) W2 := h1.only hon (by rintro k rfl; exact .inl hOl) (fun h => by
        rcases h with h | h
        · have := hO _ h; omega
        · exact hRb.out h) (fun k h => .inl h)
      have hOs : Hid (∀ k, (O k ∨ RdR ax ls k) → k < W2.heap.size) := Lib.hid fun k h => by
        rcases h with h | h
        · have := hO k h; omega
        · have := hRl.out k h; have := (hO l1 hOl); omega
      have hxl : x.2.length ≤ 300000000 := by have : ls.length * (100000 + 1) ≤ 2001 * 100001 := Nat.mul_le_mul (by omega) (Nat.le_refl _); omega
      have hwr := bldStrS_any _ _ _ _ ⟨(endl x.2).toArray⟩ W2 o2 (by rw [Lib.byteCells_length]; simp [endl, ByteArray.size] at hpl2 ⊢; omega) (by have := b2.size; omega) hOs.out
      replace hwr := Lib.hid hwr
      replace b2 := Lib.hid b2
      clear hon h1 h2 hO hsp hpl hpl2 o2
      have hsz : (⟨x.2.toArray⟩ : ByteArray).size = x.2.length := by simp [ByteArray.size]
      have hcat : Hid ((⟨x.2.toArray⟩ : ByteArray) ++ ⟨#[10]⟩ = ⟨(endl x.2).toArray⟩) := Lib.hid (by apply ByteArray.ext; simp [endl])
      gi_wp2_with (refine ⟨trivial, rfl, ?_⟩; gi_at_call 50; rw [hcat.out]; refine (CallsIn.inRound l1 (callsIn_wide.2 hwr.out)).mono ?_; rintro e W3 ⟨rfl, hB3, hb3, hk3⟩; replace hB3 := Lib.hid hB3; replace hk3 := Lib.hid hk3; replace hb3 := Lib.hid hb3)
      refine ⟨hk3.out, ?_, b2.out.trans (hb3.out.mono (Nat.le_succ _))⟩
      have h3 := hB3.out
      rw [strCells_of] at h3
      have e3 : Lib.byteCells ((pre ++ [x]).flatMap fun x => endl x.2) = Lib.byteCells (pre.flatMap fun x => endl x.2) ++ Lib.byteCells (endl x.2) := by simp [Lib.byteCells]
      rw [e3]
      exact h3
    case done =>
      rintro D xs O W hD hOD hO rfl ⟨h1, h2⟩ hK
      refine ⟨.inl rfl, D, rfl, hD, hK, ?_, h2⟩
      exact h1.only (O := fun _ => False) (Only.refl _ _) (fun k h => h.elim) (fun h => by
        rcases h with h | h
        · have : w.heap.size + 1 = D := h
          omega
        · exact hRb.out h) (fun k h => .inl (by
        rcases h with h | h
        · exact .inl (by rw [show k = D from h]; exact hOD)
        · exact .inr h))
    case stop =>
      rintro D c' pre O W hD hOD hO _ h
      exact h.elim
  case rest =>
    rintro a6 w6 ⟨D, rfl, hD, hK, h1, h2⟩
    rw [ixL_flat, ← hfl.out] at h1
    have hfe := flatE_len ls _ hll.out
    rw [← hfl.out] at hfe
    have hfe2 : tx.length ≤ 300000000 := by have : ls.length * (100000 + 1) ≤ 2001 * 100001 := Nat.mul_le_mul (by omega) (Nat.le_refl _); omega
    have hKl := (Array.getElem?_eq_some_iff.1 hK).1
    have hst := Lib.hid (bldStringS_any _ _ _ _ _ h1 (by omega) (fun k h => by
      rcases h with h | h
      · have : k = D := h
        omega
      · have := hRl.out k h; omega) (by omega))
    replace hK := Lib.hid hK
    replace h2 := Lib.hid h2
    clear h1 hfe
    go_wp2_with (go_at_call 52; refine hst.out.mono ?_; rintro e w7 ⟨rfl, hb7, hk7⟩)
    have hK7 := (hk7.same D hKl (.inl rfl)).trans hK.out
    have hb := h2.out.trans (hb7.mono (Nat.le_succ _))
    have hput := (Only.refl (· = D) w7).putObj D (.deferred none) rfl
    have hzz := hw4.out.size
    refine ⟨by simp [Act.put], .inl ⟨_, _, rfl, run_takeDeferred hK7, ?_⟩⟩
    exact ⟨_, results_tmp2 rfl _ _ _, rfl, hput.below hb hb.size (by rintro i rfl; omega)⟩
end Go.Proofs.YthpallkphamobaaGreatDoor
