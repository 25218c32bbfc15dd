/- Texts of this claim, merged; no condition. -/
import Derived.Test.YthpallkphamobaaGreatDoorH22
import Derived.Test.YthpallkphamobaaGreatDoorRows
import Derived.Handed
import Derived.Shelf.Vars
import Derived.ProofKit
import Derived.Lib.LaidTab
import Derived.LaidMore
import Derived.LaidLaws
import Derived.Stop.LaidErr
import Derived.Test.YthpallkphamobaaGreatDoorH13
import Derived.OpenShut
import Derived.ShutString
import Derived.ChangeOld
import Derived.Below
import Derived.Test.YthpallkphamobaaGreatDoorH01
import Derived.DataReads
import Derived.ChangeArms
import Derived.Test.YthpallkphamobaaGreatDoorH20
import Derived.Test.YthpallkphamobaaGreatDoorH06
set_option linter.all false
namespace Go.Proofs.YthpallkphamobaaGreatDoor
open Go.RowKit Go.Shelf
attribute [local go_sem] Oper.semAt_some

/-- The text of a policy that may be. -/
def endl (s : List UInt8) : List UInt8 := s ++ [10]
def textG (p : PolN) : List UInt8 := (linesG p).flatMap endl
theorem textG_ok {p : PolN} (h : checkF p = 0) : textG p = textF p := by unfold textG linesG; rw [if_pos h]; rfl
theorem textG_no {p : PolN} (h : checkF p ≠ 0) : textG p = [] := by unfold textG linesG; rw [if_neg h]; rfl
theorem lineF_len {p : PolN} (h : p.Ok) : ∀ l ∈ linesF p, l.length ≤ 100000 := by
  rw [linesF_eq]
  intro l hl
  simp only [List.mem_cons, List.mem_append, List.mem_map] at hl
  rcases hl with rfl | ⟨x, hx, rfl⟩ | ⟨x, hx, rfl⟩
  · unfold dS lineD
    rw [Lib.join_length]
    have := textL_len p.dflt
    simp [wDefault, Lib.lens]
    omega
  · exact cS_len x (h.adrC hx)
  · exact rS_len x (h.adrR hx) (h.r x hx).2
theorem lineG_len {p : PolN} (h : p.Ok) : ∀ l ∈ linesG p, l.length ≤ 100000 := by
  unfold linesG
  split
  · exact lineF_len h
  · simp
theorem ixL_flat (ls : List (List UInt8)) : (ixL ls).flatMap (fun x => endl x.2) = ls.flatMap endl := by
  unfold ixL
  rw [List.flatMap_map]
  have : ∀ (l : List (List UInt8)) (k : Nat), (l.zipIdx k).flatMap (fun x => endl x.1) = l.flatMap endl := by
    intro l
    induction l with
    | nil => intro k; rfl
    | cons x xs ih => intro k; rw [List.zipIdx_cons, List.flatMap_cons, List.flatMap_cons, ih]
  exact this ls 0
theorem flatE_len (ls : List (List UInt8)) (n : Nat) (h : ∀ l ∈ ls, l.length ≤ n) : (ls.flatMap endl).length ≤ ls.length * (n + 1) := by
  induction ls with
  | nil => simp
  | cons x xs ih =>
    rw [List.flatMap_cons, List.length_append, List.length_cons, Nat.add_mul, Nat.one_mul]
    have := ih fun l hl => h l (List.mem_cons_of_mem _ hl)
    have := h x List.mem_cons_self
    simp only [endl, List.length_append, List.length_singleton]
    omega
def TxP (w : World) (b : Nat) (RD : Nat → Prop) (O : Nat → Prop) (pre : List (Nat × List UInt8)) (W : World) : Prop :=
  BldS (fun k => O k ∨ RD k) b b (Lib.byteCells (pre.flatMap fun x => endl x.2)) W ∧ Below w.heap.size w W
theorem BldS.only {S S' O : Nat → Prop} {B b : Nat} {bs : List Value} {W W' : World} (h : BldS S B b bs W) (hon : Only O W W') (hO : ∀ k, O k → S k) (hb' : ¬ S' b) (hS' : ∀ k, S' k → S k ∨ W.heap.size ≤ k) : BldS S' B b bs W' := by
  obtain ⟨h1, h2, h3⟩ := h
  have key : ∀ p, BldAt B b p bs W → BldAt B b p bs W' ∧ ∀ v, W'.cell? ⟨b, 1, none⟩ = some v → ∀ g, v.ownBlock = some g → ¬ S' g := by
    rintro p ⟨hB, v, hbk, ho, hne⟩
    have hv := h3 v (by rw [Lib.cell_of_heap hbk]; rfl)
    have e2 : W'.heap[b]? = some (.cells #[p, v] 95 (0, 0)) := (hon.same b (Array.getElem?_eq_some_iff.1 hbk).1 (fun h => h1 (hO b h))).trans hbk
    refine ⟨⟨hB, v, e2, own_only ho hon (fun g hg h => hv g hg (hO g h)), hne⟩, fun u hu g hg hs => ?_⟩
    rw [Lib.cell_of_heap e2] at hu
    have e4 : v = u := by simpa using hu
    subst e4
    rcases hS' g hs with h | h
    · exact hv g hg h
    · have := (own_lt ho hg).2; omega
  rcases h2 with h | h
  · obtain ⟨k1, k2⟩ := key _ h
    exact ⟨hb', .inl k1, k2⟩
  · obtain ⟨k1, k2⟩ := key _ h
    exact ⟨hb', .inr k1, k2⟩
theorem txP_stable (w : World) (b : Nat) (RD : Nat → Prop) (M : Nat) (hb : b < M) (hw : w.heap.size ≤ M) (hRD : ¬ RD b) : Stable M (TxP w b RD) := by
  rintro O O' s W W' ⟨h1, h2⟩ hO hon hO'
  refine ⟨h1.only hon (fun k h => .inl h) (fun h => ?_) (fun k h => ?_), hon.below h2 h2.size (fun i h => by have := hO i h; omega)⟩
  · rcases h with h | h
    · rcases hO' b h with h | h
      · have := hO b h; omega
      · rcases h1.2.1 with ⟨-, v, hbk, -⟩ | ⟨-, v, hbk, -⟩ <;> (have := (Array.getElem?_eq_some_iff.1 hbk).1; omega)
    · exact hRD h
  · rcases h with h | h
    · rcases hO' k h with h | h
      · exact .inl (.inl h)
      · exact .inr h
    · exact .inl (.inr h)
theorem pre_len {ls : List (List UInt8)} {n : Nat} (h : ∀ l ∈ ls, l.length ≤ n) {pre : List (Nat × List UInt8)} {x : Nat × List UInt8} (hk : ∃ k, k ≤ ls.length ∧ pre ++ [x] = (ixL ls).take k) : (pre.flatMap fun x => endl x.2).length + (x.2.length + 1) ≤ ls.length * (n + 1) := by
  obtain ⟨k, -, hk⟩ := hk
  have h1 := flatE_len ls n h
  rw [← ixL_flat] at h1
  have h2 : ((ixL ls).flatMap fun x => endl x.2) = ((pre ++ [x]).flatMap fun x => endl x.2) ++ ((ixL ls).drop k).flatMap fun x => endl x.2 := by
    rw [hk, ← List.flatMap_append, List.take_append_drop]
  rw [h2] at h1
  simp only [List.flatMap_append, List.flatMap_cons, List.flatMap_nil, List.length_append, List.append_nil, endl, List.length_singleton] at h1 ⊢
  omega
theorem strCells_of (l : List UInt8) : Lib.strCells ⟨l.toArray⟩ = Lib.byteCells l := by simp [Lib.strCells, Lib.byteCells]
set_option maxRecDepth 100000 in
set_option maxHeartbeats 4000000 in
theorem textP_any (p : PolN) (pa pb : Option Addr) (pc pd : Nat) (w : World) (hp : PolAt w p pa pc pb pd) (hT : TabP w) (hl1 : p.clears.length ≤ 1000) (hl2 : p.rels.length ≤ 1000) :
    Calls Tryz.prog 32 #[polV p pa pc pb pd] w fun e w' => e = .returned (.tuple #[strL (textG p), .int .i64 (checkF p)]) ∧ Below w.heap.size w w' := by
  have hln := linesG_len p
  have hll := lineG_len hp.ok
  obtain ⟨w2, hw2⟩ : ∃ w2, (w.alloc (.cells #[labV p.dflt, .slice pa p.clears.length pc, .slice pb p.rels.length pd] 27)).alloc (.cells #[.pointer none, .slice none 0 0] 95) = w2 := ⟨_, rfl⟩
  have hb2 : Below w.heap.size w w2 := hw2 ▸ xalloc (xalloc (xrefl w) _) _
  have hz2 : w2.heap.size = w.heap.size + 2 := by rw [← hw2]; simp
  have hP : BlkG w2 w.heap.size 27 [labV p.dflt, .slice pa p.clears.length pc, .slice pb p.rels.length pd] := hw2 ▸ (BlkG.new w _ _).below (xalloc (xrefl _) _)
  have hB2 : Bld (w.heap.size + 1) (w.heap.size + 1) [] w2 ∧ w2.cell? ⟨w.heap.size + 1, 1, none⟩ = some (.slice none 0 0) := by
    have := Lib.fresh_isBuilder 95 5 (w.alloc (.cells #[labV p.dflt, .slice pa p.clears.length pc, .slice pb p.rels.length pd] 27))
    have h2 := World.alloc_heap_new (w.alloc (.cells #[labV p.dflt, .slice pa p.clears.length pc, .slice pb p.rels.length pd] 27)) (.cells #[.pointer none, .slice none 0 0] 95)
    rw [World.size_alloc] at this h2
    rw [hw2] at this h2
    exact ⟨this, by rw [Lib.cell_of_heap h2]; rfl⟩
  have hck := Lib.hid (check_any p pa pb pc pd w2 (hp.below hb2) (by omega) (by omega))
  have hPr := Lib.hid (BlkG.range hP)
  have hpl := Lib.hid fun W (h : Below w2.heap.size w2 W) => linesO_any p pa pb pc pd W (hp.below (xtrans hb2 h)) (hT.below (xtrans hb2 h)) hl1 hl2
  have hfl := Lib.hid (show textG p = (linesG p).flatMap endl from rfl)
  generalize hn : checkF p = n at *
  replace hn := Lib.hid hn
  obtain ⟨ls, hls⟩ : ∃ ls, ls = linesG p := ⟨_, rfl⟩
  rw [← hls] at hln hll hfl
  replace hls := Lib.hid hls
  obtain ⟨tx, htx⟩ : ∃ tx, tx = textG p := ⟨_, rfl⟩
  rw [← htx] at hfl ⊢
  replace htx := Lib.hid htx
  replace hll := Lib.hid hll
  replace hb2 := Lib.hid hb2
  replace hB2 := Lib.hid hB2
  replace hP := Lib.hid hP
  clear hp hT
  unfold polV at hck hpl ⊢
  refine (callsIn_wide (n := 0)).1 ?_
  refine callsIn_of_wp_marks Tryz.func32 rfl trivial ?_ rfl
  simp only [Tryz.ntmps32, List.size_toArray, List.length_cons, List.length_nil, Nat.reduceAdd, Nat.reduceSub, Array.replicate_succ, Array.replicate_zero, List.push_toArray, List.append_toArray, List.nil_append, List.cons_append]
  refine wpIn_wide.2 ?_
  have hw2' := Lib.hid hw2
  clear hw2
  go_wp2_with (first
      | (refine wpList_load_mid rfl 27 _ rfl w.heap.size 0 rfl [labV p.dflt, .slice pa p.clears.length pc, .slice pb p.rels.length pd] _ hPr.out Tryz.underlying27 rfl (by kernel_rfl) ?_)
      | (go_at_call 14; rw [hw2'.out]; refine hck.out.mono ?_; rintro e w3 ⟨rfl, hb3⟩; have hPr3 := Lib.hid ((hP.out.below hb3).range); replace hb3 := Lib.hid hb3; clear hPr)
      | (refine wpList_load_mid rfl 27 _ rfl w.heap.size 0 rfl [labV p.dflt, .slice pa p.clears.length pc, .slice pb p.rels.length pd] _ hPr3.out Tryz.underlying27 rfl (by kernel_rfl) ?_)
      | (go_at_call 36; refine (hpl.out _ hb3.out).mono ?_; rintro e w4 ⟨⟨v, rfl, hv⟩, hb4⟩; rw [← hls.out] at hv; replace hv := Lib.hid hv; have hb34 := Lib.hid hb4; clear hb4))
  obtain ⟨bx, ax, cx, rfl, hx4, hr4, hNb, hNa⟩ := hv.out
  have hz3 := hb3.out.size
  have hz4 := hb34.out.size
  have hRl : ∀ k, RdR ax ls k → w3.heap.size ≤ k ∧ k < w4.heap.size := fun k hk => ⟨by obtain ⟨-, y, e, rfl⟩ := hk; exact hNa y e, rdR_lt hr4 hk⟩
  have hw4 : Below w.heap.size w w4 := xtrans hb2.out (xtrans hb3.out hb34.out)
  have hw24 : Below w2.heap.size w2 w4 := xtrans hb3.out hb34.out
  have hRb : ¬ RdR ax ls (w.heap.size + 1) := fun h => by have := hRl _ h; omega
  have h00 : TxP w (w.heap.size + 1) (RdR ax ls) (fun _ => False) [] w4 := by
    refine ⟨⟨fun h => h.elim id hRb, ?_, fun v hv g hg => ?_⟩, hw4⟩
    · rcases hB2.out.1 with ⟨hB, v, hbk, ho, hne⟩ | ⟨hB, v, hbk, ho, hne⟩
      · exact .inl ⟨hB, v, (hw24.block _ (Array.getElem?_eq_some_iff.1 hbk).1).trans hbk, own_keep ho hw24, hne⟩
      · exact .inr ⟨hB, v, (hw24.block _ (Array.getElem?_eq_some_iff.1 hbk).1).trans hbk, own_keep ho hw24, hne⟩
    · rw [cbel hw24 hB2.out.2] at hv
      cases hv
      cases hg
  have hst := txP_stable w (w.heap.size + 1) (RdR ax ls) w4.heap.size (by omega) (by omega) hRb
  replace hRl := Lib.hid hRl
  replace hRb := Lib.hid hRb
  replace hx4 := Lib.hid hx4
  replace hr4 := Lib.hid hr4
  replace hNa := Lib.hid hNa
  replace h00 := Lib.hid h00
  replace hw4 := Lib.hid hw4
  replace hw24 := Lib.hid hw24
  clear hv hb3 hb34 hB2 hck hPr3 hP hpl
  refine wp_mid 0 (fun a' a'' W' => ∃ D, a'' = { a' with defers := { target := .collected D, args := #[] } :: a'.defers } ∧ w4.heap.size ≤ D ∧ W'.heap[D]? = some (.deferred (some [])) ∧ TxP w (w.heap.size + 1) (RdR ax ls) (fun k => k = D) (ixL ls) W') ?range ?rest (fun _ _ h => h)
  case range =>
    refine (wpIn_wide (n := 0)).1 ?_
    refine wp_rangeP (gf := 68) (lb := #[.pointer (some ⟨bx, 0, none⟩)]) rfl (enters_of Tryz.func68 (by kernel_rfl) rfl) (encs := encL) (Rd := RdR ax ls)
      (S := fun xs => xs = ixL ls) (Sp := fun pre => ∃ k, k ≤ ls.length ∧ pre = (ixL ls).take k) (N := ls.length) (inf := false) (fun k h => (hRl.out k h).2)
      (fun W1 hb1 => lines_seq ls bx ax cx W1 (cbel hb1 hx4.out) (hr4.out.below hb1) (by omega)) (fun x => rfl) (TxP w (w.heap.size + 1) (RdR ax ls)) (fun _ _ _ _ => False) hst (fun _ _ _ _ _ _ h _ _ _ => h) h00.out (fun h => by cases h) ?round ?done ?stop
    case round =>
      rintro l1 O pre x W1 hOl hO ⟨h1, h2⟩ hlen hsp
      have hpl := pre_len hll.out hsp
      have hpl2 : (pre.flatMap fun x => endl x.2).length + (x.2.length + 1) ≤ 140737488355328 := by
        have : ls.length * (100000 + 1) ≤ 2001 * 100001 := Nat.mul_le_mul (by omega) (Nat.le_refl _)
        omega
      unfold encL
      gi_wp2
      refine ⟨Keep.refl _ _, fun W2 hon => ?_⟩
      have hl4 : w4.heap.size ≤ l1 := (hO l1 hOl).1
      have hlW := (hO l1 hOl).2
      have hs2 := hon.size
      have b2 := hon.below h2 h2.size (by rintro i rfl; omega)
      have o2 : BldS (fun k => O k ∨ RdR ax ls k) (w.heap.size + 1) (w.heap.size + 1) (Lib.byteCells (pre.flatMap fun x => endl x.2)) W2 := h1.only hon (by rintro k rfl; exact .inl hOl) (fun h => by
        rcases h with h | h
        · have := hO _ h; omega
        · exact hRb.out h) (fun k h => .inl h)
      have hOs : Hid (∀ k, (O k ∨ RdR ax ls k) → k < W2.heap.size) := Lib.hid fun k h => by
        rcases h with h | h
        · have := hO k h; omega
        · have := hRl.out k h; have := (hO l1 hOl); omega
      have hxl : x.2.length ≤ 300000000 := by have : ls.length * (100000 + 1) ≤ 2001 * 100001 := Nat.mul_le_mul (by omega) (Nat.le_refl _); omega
      have hwr := bldStrS_any _ _ _ _ ⟨(endl x.2).toArray⟩ W2 o2 (by rw [Lib.byteCells_length]; simp [endl, ByteArray.size] at hpl2 ⊢; omega) (by have := b2.size; omega) hOs.out
      replace hwr := Lib.hid hwr
      replace b2 := Lib.hid b2
      clear hon h1 h2 hO hsp hpl hpl2 o2
      have hsz : (⟨x.2.toArray⟩ : ByteArray).size = x.2.length := by simp [ByteArray.size]
      have hcat : Hid ((⟨x.2.toArray⟩ : ByteArray) ++ ⟨#[10]⟩ = ⟨(endl x.2).toArray⟩) := Lib.hid (by apply ByteArray.ext; simp [endl])
      gi_wp2_with (refine ⟨trivial, rfl, ?_⟩; gi_at_call 50; rw [hcat.out]; refine (CallsIn.inRound l1 (callsIn_wide.2 hwr.out)).mono ?_; rintro e W3 ⟨rfl, hB3, hb3, hk3⟩; replace hB3 := Lib.hid hB3; replace hk3 := Lib.hid hk3; replace hb3 := Lib.hid hb3)
      refine ⟨hk3.out, ?_, b2.out.trans (hb3.out.mono (Nat.le_succ _))⟩
      have h3 := hB3.out
      rw [strCells_of] at h3
      have e3 : Lib.byteCells ((pre ++ [x]).flatMap fun x => endl x.2) = Lib.byteCells (pre.flatMap fun x => endl x.2) ++ Lib.byteCells (endl x.2) := by simp [Lib.byteCells]
      rw [e3]
      exact h3
    case done =>
      rintro D xs O W hD hOD hO rfl ⟨h1, h2⟩ hK
      refine ⟨.inl rfl, D, rfl, hD, hK, ?_, h2⟩
      exact h1.only (O := fun _ => False) (Only.refl _ _) (fun k h => h.elim) (fun h => by
        rcases h with h | h
        · have : w.heap.size + 1 = D := h
          omega
        · exact hRb.out h) (fun k h => .inl (by
        rcases h with h | h
        · exact .inl (by rw [show k = D from h]; exact hOD)
        · exact .inr h))
    case stop =>
      rintro D c' pre O W hD hOD hO _ h
      exact h.elim
  case rest =>
    rintro a6 w6 ⟨D, rfl, hD, hK, h1, h2⟩
    rw [ixL_flat, ← hfl.out] at h1
    have hfe := flatE_len ls _ hll.out
    rw [← hfl.out] at hfe
    have hfe2 : tx.length ≤ 300000000 := by have : ls.length * (100000 + 1) ≤ 2001 * 100001 := Nat.mul_le_mul (by omega) (Nat.le_refl _); omega
    have hKl := (Array.getElem?_eq_some_iff.1 hK).1
    have hst := Lib.hid (bldStringS_any _ _ _ _ _ h1 (by omega) (fun k h => by
      rcases h with h | h
      · have : k = D := h
        omega
      · have := hRl.out k h; omega) (by omega))
    replace hK := Lib.hid hK
    replace h2 := Lib.hid h2
    clear h1 hfe
    go_wp2_with (go_at_call 52; refine hst.out.mono ?_; rintro e w7 ⟨rfl, hb7, hk7⟩)
    have hK7 := (hk7.same D hKl (.inl rfl)).trans hK.out
    have hb := h2.out.trans (hb7.mono (Nat.le_succ _))
    have hput := (Only.refl (· = D) w7).putObj D (.deferred none) rfl
    have hzz := hw4.out.size
    refine ⟨by simp [Act.put], .inl ⟨_, _, rfl, run_takeDeferred hK7, ?_⟩⟩
    exact ⟨_, results_tmp2 rfl _ _ _, rfl, hput.below hb hb.size (by rintro i rfl; omega)⟩
end Go.Proofs.YthpallkphamobaaGreatDoor
namespace Go.Proofs.YthpallkphamobaaGreatDoor
open Go.RowKit

theorem handed_and_shaped {H : Type} {enc : TypeId × Value → H} {a : Assume} {C : Checked} {os : Os} {f : FuncId} {fn : Func} {s : ChangeSpec} {conds : List PathCond} {apart fresh handsOn again : Bool} {X : World → Array Value → Prop}
    (hX : ∀ (w w' : World) (args : Array Value), w.heap = w'.heap → X w args → X w' args)
    (own : ownKnob C.prog.godebug = none) (started : os.Started) (noInit : C.prog.inits.idxOf? f = none) (hfn : C.prog.funcs[f]? = some fn)
    (witness : ∃ (w : World) (tape : Tape) (i : Input), w.os = os ∧ (w.forCall tape i).Shaped C.prog ∧ i.vars = [] ∧ Input.okWide C.prog (w.forCall tape i) .any w.heap.size f i ∧
      ((s.pre enc C.prog fn conds apart (w.forCall tape i).memory i.args ∧ X (w.forCall tape i).memory i.args) ∧ sizedMet enc C.prog fn (OpenSpec.ofChange s) apart (w.forCall tape i).memory i.args) ∧ a.holds C.prog (lone (Frame.enter C.prog f i.args .normal) [] (w.forCall tape i)))
    (walk : ∀ (W : World) (base : Nat) (args : Array Value) (ds gs : List (DataW H)) (before : List MemPlace),
      (∀ (j : Nat) t v, fn.params[j]? = some t → args[j]? = some v → Value.okWide C.prog W .any base t v) →
      DataW.Whole enc C.prog fn.params.toList s.vars apart W args.toList ds gs before →
      X W args → W.ShapedOpen C.prog →
      Calls C.prog f args W fun e W' => ∃ v, e = .returned v ∧ s.post enc C.prog fn apart fresh handsOn again W args v W') :
    ReturnsInHanded a C os f .any (fun w args => (s.pre enc C.prog fn conds apart w args ∧ X w args) ∧ sizedMet enc C.prog fn (OpenSpec.ofChange s) apart w args) (s.post enc C.prog fn apart fresh handsOn again) := by
  refine returnsInHanded_of_calls own started noInit witness fun w tape i _ hsh _ hok hpre _ => ?_
  obtain ⟨_, _, _, fn2, hfn2, _, _, _, _, hval⟩ := hok
  obtain rfl : fn2 = fn := Option.some.inj (hfn2.symm.trans hfn)
  obtain ⟨⟨⟨ds, gs, before, hw, -⟩, hx⟩, -⟩ := hpre
  refine (walk (w.forCall tape i) w.heap.size i.args ds gs before hval (DataW.Whole.of_heap (w' := w.forCall tape i) (by rfl) hw) (hX _ _ _ (by rfl) hx) hsh).mono fun e W' h => ?_
  obtain ⟨v, rfl, hp⟩ := h
  exact ChangeSpec.post_blind hp
theorem gT64 : Tryz.prog.globalNamed "math/bits.deBruijn64tab" = some gtab := by kernel_rfl
theorem gT64T : (Tryz.prog.globals[gtab]?).map (·.type) = some 199 := by kernel_rfl
theorem gT10 : Tryz.prog.globalNamed "internal/strconv.uint64pow10" = some 4 := by kernel_rfl
theorem gT10T : (Tryz.prog.globals[4]?).map (·.type) = some 203 := by kernel_rfl
theorem gTS : Tryz.prog.globalNamed "strconv.ErrSyntax" = some 5 := by kernel_rfl
theorem gTST : (Tryz.prog.globals[5]?).map (·.type) = some 97 := by kernel_rfl
theorem gTR : Tryz.prog.globalNamed "strconv.ErrRange" = some 6 := by kernel_rfl
theorem gTRT : (Tryz.prog.globals[6]?).map (·.type) = some 97 := by kernel_rfl
theorem starE : "*" ++ "errors.errorString" = "*errors.errorString" := by decide
theorem rowE (u : TypeId) (h : Tryz.prog.typeName? 3 u = some "*errors.errorString") : u = 218 :=
  typeName_ptr_named (nm := "errors.errorString") (by rw [starE]; kernel_rfl) (by kernel_rfl) (by decide) u (by rw [starE]; exact h)
def tabZs : List Int := Lib.deBruijn64tab.map fun n : Nat => (n : Int)
theorem var_heap {W W' : World} {P : Program} {n : String} {g : Nat} (hg : P.globalNamed n = some g) (h : W'.heap[g]? = W.heap[g]?) : W'.var? P n = W.var? P n := by
  unfold World.var?
  simp only [hg, Option.bind_some, h]
theorem tabP_of {W : World} (h : laidMetH Tryz.prog Rows.policyNamesRow.laid W) (hsh : W.ShapedOpen Tryz.prog) : TabP W := by
  rw [MakeChecks.laidMetH_plain _ _ _ (by kernel_rfl)] at h
  have h64 := laidMet.tail h
  have h10 := laidMet.tail h64
  have hR := laidMet.tail (laidMet.tail h10)
  have hS := laidMet.tail hR
  have hT : Lib.TabIs Tryz.prog W "math/bits.deBruijn64tab" .u8 tabZs := Lib.tabIs_of_head gT64 gT64T Tryz.underlying199 Tryz.underlying5 (by kernel_rfl) (by kernel_rfl) h64
  have hP : Lib.TabIs Tryz.prog W "internal/strconv.uint64pow10" .u64 Lib.pow10Tab := Lib.tabIs_of_head gT10 gT10T Tryz.underlying203 Tryz.underlying22 (by kernel_rfl) (by kernel_rfl) h10
  obtain ⟨aR, _, hvR, -⟩ := laid_sentinel hR gTR gTRT Tryz.underlying97 rowE Tryz.underlying218 Tryz.underlying220 rfl rfl Tryz.underlying9 (by kernel_rfl) (by kernel_rfl)
  obtain ⟨aS, _, hvS, -⟩ := laid_sentinel hS gTS gTST Tryz.underlying97 rowE Tryz.underlying218 Tryz.underlying220 rfl rfl Tryz.underlying9 (by kernel_rfl) (by kernel_rfl)
  have c7 : ∃ v, W.cell? ⟨7, 0, none⟩ = some v := by
    obtain ⟨g, hg, hc⟩ : ∃ g, Tryz.prog.globalNamed "math/bits.deBruijn32tab" = some g ∧ g = 7 := ⟨7, by kernel_rfl, rfl⟩
    subst hc
    have hT32 : Lib.TabIs Tryz.prog W "math/bits.deBruijn32tab" .u8 (Lib.deBruijn32tab.map fun n : Nat => (n : Int)) := Lib.tabIs_of_head hg (t := 108) (by kernel_rfl) Tryz.underlying108 Tryz.underlying5 (by kernel_rfl) (by kernel_rfl) h
    exact ⟨_, hT32.cell hg 0 (by rw [List.length_map]; decide)⟩
  refine ⟨fun j hj => ?_, cell_of_shapedOpen_int (t := 3) (zero := #[.int .i64 0]) hsh (of_decide_eq_true (by kernel_rfl)) (by kernel_rfl) rfl (by kernel_rfl) (by kernel_rfl) Tryz.underlying3, ?_, fun W' e => ?_, ?_, ?_⟩
  · have := hT.cell gT64 j (by unfold tabZs; rw [List.length_map]; exact hj)
    rw [this]
    unfold tabZs
    simp [hj]
  · obtain ⟨v, hv⟩ := c7
    have := cell_lt hv
    exact this
  · unfold Lib.TabIs
    rw [var_heap gT10 e]
    exact hP
  · exact ⟨_, _, by simpa using World.var?_cell gTS hvS 0⟩
  · exact ⟨_, _, by simpa using World.var?_cell gTR hvR 0⟩
end Go.Proofs.YthpallkphamobaaGreatDoor
namespace Go.Proofs.YthpallkphamobaaGreatDoor
open Go.ChangeShapes Go.WideShapes Go.ChangeAt Go.RowKit
open Go.ChangeMaps (open_string shut_string)

/-- What became of the walk of a law: true, and nothing that was there has turned. -/
def Yes (w : World) (e : Ending) (w' : World) : Prop := e = .returned (.bool true) ∧ Below w.heap.size w w'

section
variable {H : Type} {enc : TypeId × Value → H} {P : Program} {w : World} {base : Nat} {spare : Nat → Bool} {held : Bool} {t e : TypeId} {fuel : Nat} {cs : List Value} {x : DataW H × List MemPlace}

/-- An array whose elements are of one cell each: cell by cell. -/
theorem trod_arr1 {n : Nat} (ht : P.underlying t = some (.array n e)) (hc : P.cellsOf e = 1) (hct : P.cellsOf t = n) (h : DataW.trod enc P w base spare held fuel t cs = some x) :
    cs.length = n ∧ ∀ i (hi : i < cs.length), ∃ m y, DataW.trod enc P w base spare held m e [cs[i]] = some y := by
  obtain ⟨xs, m, _, _, hl, hx, hi⟩ := DataW.trod_array ht h
  have hl' : cs.length = n := hl.trans hct
  refine ⟨hl', fun i hlt => ?_⟩
  have := hi i (by omega)
  rw [hc, Nat.mul_one, List.drop_eq_getElem_cons hlt, List.take_succ_cons, List.take_zero, List.getElem?_eq_getElem (by omega)] at this
  exact ⟨m, _, this⟩

theorem trod_intsA {n : Nat} {q : IntKind} (ht : P.underlying t = some (.array n e)) (he : P.underlying e = some (.int q)) (hc : P.cellsOf e = 1) (hct : P.cellsOf t = n) (h : DataW.trod enc P w base spare held fuel t cs = some x) :
    ∃ zs : List Int, zs.length = n ∧ cs = zs.map (Value.int q) ∧ ∀ z ∈ zs, (Lit.int q z).wf = true := by
  obtain ⟨hl, hi⟩ := trod_arr1 ht hc hct h
  have hv : ∀ v ∈ cs, ∃ z, v = .int q z ∧ (Lit.int q z).wf = true := fun v hv => by
    obtain ⟨i, hlt, rfl⟩ := List.getElem_of_mem hv
    obtain ⟨m, y, hy⟩ := hi i hlt
    obtain ⟨z, hz, _, hw⟩ := DataW.trod_int he hy
    simp only [List.cons.injEq, and_true] at hz
    exact ⟨z, hz, hw⟩
  refine ⟨cs.map (fun | .int _ z => z | _ => 0), by simpa using hl, ?_, ?_⟩
  · rw [List.map_map]
    refine (List.map_id cs).symm.trans (List.map_congr_left fun v hm => ?_)
    obtain ⟨z, rfl, _⟩ := hv v hm
    rfl
  · intro z hz
    obtain ⟨v, hm, rfl⟩ := List.mem_map.1 hz
    obtain ⟨z', rfl, hw⟩ := hv v hm
    exact hw

end

/-- What a reading says of the cells, where the type has more than one cell. -/
theorem agg_of_trod {H : Type} {enc : TypeId × Value → H} {P : Program} {w : World} {base : Nat} {spare : Nat → Bool} {held : Bool} {t : TypeId} {v : Value} {d : DataW H} {p : List MemPlace} (h : DataW.Trod enc P w base spare held t v d p)
    {n : Nat} {e : TypeId} (ht : P.underlying t = some (.array n e)) (hc : P.cellsOf e = 1) (hct : P.cellsOf t = n) (hn : n ≠ 1) : ∃ cs : Array Value, v = .agg cs ∧ ∃ fuel x, DataW.trod enc P w base spare held fuel t cs.toList = some x := by
  obtain ⟨fuel, hf⟩ := h
  cases v with
  | agg cs => exact ⟨cs, rfl, fuel, _, hf⟩
  | _ => exact absurd (trod_arr1 ht hc hct hf).1 (by simpa [Value.cells] using fun h => hn h.symm)

end Go.Proofs.YthpallkphamobaaGreatDoor
namespace Go.Proofs.YthpallkphamobaaGreatDoor
open Go.RowKit Go.Shelf

def pM (i j : Nat) : PolN := ⟨0, (List.range i).map fun k => (ofL k, 0), (List.range j).map fun k => (ofL k, 0, 0)⟩
theorem pM_c (i j : Nat) : (pM i j).clears.length = i := by simp [pM]
theorem pM_r (i j : Nat) : (pM i j).rels.length = j := by simp [pM]
theorem pM_ok {i j : Nat} (hi : i ≤ 256) (hj : j ≤ 256) : (pM i j).Ok := by
  refine ⟨fun x hx => ?_, fun x hx => ?_⟩
  · obtain ⟨k, hk, rfl⟩ := List.mem_map.1 hx
    have := List.mem_range.1 hk
    exact ⟨rfl, (ofL_adr (n := k) (by omega)).ok⟩
  · obtain ⟨k, hk, rfl⟩ := List.mem_map.1 hx
    have := List.mem_range.1 hk
    exact ⟨⟨rfl, (ofL_adr (n := k) (by omega)).ok⟩, by show 0 < 4294967296; decide⟩
theorem pM_check0 : ∀ i < 3, ∀ j < 3, checkF (pM (63 + i) (63 + j)) = if i ≤ 1 ∧ j ≤ 1 then 0 else 3 := by decide +kernel
theorem pM_check {i j : Nat} (hi : 63 ≤ i ∧ i ≤ 65) (hj : 63 ≤ j ∧ j ≤ 65) : checkF (pM i j) = if i ≤ 64 ∧ j ≤ 64 then 0 else 3 := by
  have := pM_check0 (i - 63) (by omega) (j - 63) (by omega)
  rw [show 63 + (i - 63) = i by omega, show 63 + (j - 63) = j by omega] at this
  rw [this]
  by_cases h : i ≤ 64 ∧ j ≤ 64
  · rw [if_pos h, if_pos (by omega)]
  · rw [if_neg h, if_neg (by omega)]
theorem textF_ne (p : PolN) : textF p ≠ [] := by
  unfold textF
  rw [linesF_eq]
  simp
theorem pM_cs (i j : Nat) : (pM (i + 1) j).clears.flatMap clearC = (pM i j).clears.flatMap clearC ++ clearC (ofL i, 0) := by simp [pM, List.range_succ]
theorem pM_rs (i j : Nat) : (pM i (j + 1)).rels.flatMap relC = (pM i j).rels.flatMap relC ++ relC (ofL j, 0, 0) := by simp [pM, List.range_succ]
theorem built_clearM (k : Nat) : Tryz.prog.built 65 [(0, adrV (ofL k))] = some (clearC (ofL k, 0)).toArray := by kernel_rfl
theorem built_relM (k : Nat) : Tryz.prog.built 67 [(0, adrV (ofL k))] = some (relC (ofL k, 0, 0)).toArray := by kernel_rfl
/-- A policy under way. -/
structure MaS (g : Nat) (w1 : World) (i j : Nat) (a b : Option Addr) (c d : Nat) (W : World) : Prop where
  pb : BlkG W g 27 [.int .u64 0, .slice a i c, .slice b j d]
  oc : W.ownsRow g 65 21 (.slice a i c) i ((pM i j).clears.flatMap clearC)
  ow : W.ownsRow g 67 22 (.slice b j d) j ((pM i j).rels.flatMap relC)
  hb : Below g w1 W
theorem MaS.at {g : Nat} {w1 : World} {i j : Nat} {a b : Option Addr} {c d : Nat} {W : World} (h : MaS g w1 i j a b c d W) (hi : i ≤ 256) (hj : j ≤ 256) : PolAt W (pM i j) a c b d := by
  have hok := pM_ok hi hj
  have k1 : W.ownsRow g 65 21 (.slice a i c) (pM i j).clears.length ((pM i j).clears.flatMap clearC) := by rw [pM_c]; exact h.oc
  have k2 : W.ownsRow g 67 22 (.slice b j d) (pM i j).rels.length ((pM i j).rels.flatMap relC) := by rw [pM_r]; exact h.ow
  obtain ⟨a', c', e1, r1⟩ := own_rows k1 (lenP_ok hok).1
  obtain ⟨b', d', e2, r2⟩ := own_rows k2 (lenP_ok hok).2
  simp only [Value.slice.injEq] at e1 e2
  obtain ⟨rfl, -, rfl⟩ := e1
  obtain ⟨rfl, -, rfl⟩ := e2
  exact ⟨r1, r2, hok⟩
theorem ct_neP : (65 : TypeId) ≠ 27 := by decide
theorem rt_neP : (67 : TypeId) ≠ 27 := by decide
theorem MaS.nextC {g : Nat} {w1 : World} {i j : Nat} {a b a5 : Option Addr} {c d c5 : Nat} {W W6 : World} {xs ys : List Value} (h : MaS g w1 i j a b c d W) (hg : g ≤ W.heap.size) (hx : xs = (pM i j).clears.flatMap clearC) (hy : ys = clearC (ofL i, 0)) (hs : StyO g 65 21 (.slice a i c) i xs ys W W6) (hB : BlkG W6 g 27 [.int .u64 0, .slice a i c, .slice b j d])
    (ho : W6.ownsRow g 65 21 (.slice a5 (i + 1) c5) (i + 1) (xs ++ ys)) : MaS g w1 (i + 1) j a5 b c5 d (W6.setCell ⟨g, 1, none⟩ (.slice a5 (i + 1) c5)) := by
  have hB7 := hB.set 1 (.slice a5 (i + 1) c5)
  have ho7 : Only (· = g) W6 (W6.setCell ⟨g, 1, none⟩ (.slice a5 (i + 1) c5)) := (Only.refl _ _).setCell _ _ rfl
  have hn1 := own_neG ho hB ct_neP
  have hvr6 : W6.ownsRow g 67 22 (.slice b j d) j ((pM i j).rels.flatMap relC) := own_onlyG h.ow hs.1 fun k hk e => by
    rcases e with rfl | e
    · exact own_neG h.ow h.pb rt_neP hk
    · exact own_two h.ow h.oc (by decide) (hk.trans e.symm) hk
  have hn2 := own_neG hvr6 hB rt_neP
  refine ⟨hB7, ?_, ?_, ho7.below (hs.1.below h.hb hg fun k e => ?_) (Nat.le_trans hg hs.1.size) (by rintro k rfl; exact Nat.le_refl _)⟩
  · rw [pM_cs, ← hx, ← hy]
    exact own_onlyG ho ho7 fun k hk e => hn1 (by rw [hk, e])
  · show World.ownsRow _ g _ 22 _ j ((pM (i + 1) j).rels.flatMap relC)
    exact own_onlyG hvr6 ho7 fun k hk e => hn2 (by rw [hk, e])
  · rcases e with rfl | e
    · exact Nat.le_refl _
    · exact (ownB_lt h.oc e).1
theorem MaS.nextR {g : Nat} {w1 : World} {i j : Nat} {a b a5 : Option Addr} {c d c5 : Nat} {W W6 : World} {xs ys : List Value} (h : MaS g w1 i j a b c d W) (hg : g ≤ W.heap.size) (hx : xs = (pM i j).rels.flatMap relC) (hy : ys = relC (ofL j, 0, 0)) (hs : StyO g 67 22 (.slice b j d) j xs ys W W6) (hB : BlkG W6 g 27 [.int .u64 0, .slice a i c, .slice b j d])
    (ho : W6.ownsRow g 67 22 (.slice a5 (j + 1) c5) (j + 1) (xs ++ ys)) : MaS g w1 i (j + 1) a a5 c c5 (W6.setCell ⟨g, 2, none⟩ (.slice a5 (j + 1) c5)) := by
  have hB7 := hB.set 2 (.slice a5 (j + 1) c5)
  have ho7 : Only (· = g) W6 (W6.setCell ⟨g, 2, none⟩ (.slice a5 (j + 1) c5)) := (Only.refl _ _).setCell _ _ rfl
  have hn1 := own_neG ho hB rt_neP
  have hvr6 : W6.ownsRow g 65 21 (.slice a i c) i ((pM i j).clears.flatMap clearC) := own_onlyG h.oc hs.1 fun k hk e => by
    rcases e with rfl | e
    · exact own_neG h.oc h.pb ct_neP hk
    · exact own_two h.oc h.ow (by decide) (hk.trans e.symm) hk
  have hn2 := own_neG hvr6 hB ct_neP
  refine ⟨hB7, ?_, ?_, ho7.below (hs.1.below h.hb hg fun k e => ?_) (Nat.le_trans hg hs.1.size) (by rintro k rfl; exact Nat.le_refl _)⟩
  · show World.ownsRow _ g _ 21 _ i ((pM i (j + 1)).clears.flatMap clearC)
    exact own_onlyG hvr6 ho7 fun k hk e => hn2 (by rw [hk, e])
  · rw [pM_rs, ← hx, ← hy]
    exact own_onlyG ho ho7 fun k hk e => hn1 (by rw [hk, e])
  · rcases e with rfl | e
    · exact Nat.le_refl _
    · exact (ownB_lt h.ow e).1
end Go.Proofs.YthpallkphamobaaGreatDoor
