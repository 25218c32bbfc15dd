/- Texts of this claim, merged; no condition. -/
import Derived.Test.YthpallkphamobaaGreatDoorJ28
import Derived.Test.YthpallkphamobaaGreatDoorRows
import Derived.Handed
import Derived.Shelf.Vars
import Derived.ProofKit
import Derived.Lib.LaidTab
import Derived.LaidMore
import Derived.LaidLaws
import Derived.Stop.LaidErr
import Derived.Test.YthpallkphamobaaGreatDoorJ18
import Derived.OpenShut
import Derived.ShutString
import Derived.ChangeOld
import Derived.Below
import Derived.Test.YthpallkphamobaaGreatDoorJ01
import Derived.DataReads
import Derived.ChangeArms
import Derived.Test.YthpallkphamobaaGreatDoorJ26
import Derived.Test.YthpallkphamobaaGreatDoorJ09
set_option linter.all false
namespace Go.Proofs.YthpallkphamobaaGreatDoor
open Go.RowKit Go.Shelf
attribute [local go_sem] Oper.semAt_some

/-- The text of a policy that may be. -/
def endl (s : List UInt8) : List UInt8 := s ++ [10]
def textG (p : PolN) : List UInt8 := (linesG p).flatMap endl
theorem textG_ok {p : PolN} (h : checkF p = 0) : textG p = textF p := by unfold textG linesG; rw [if_pos h]; rfl
theorem lineF_len {p : PolN} (h : p.Ok) : ∀ l ∈ linesF p, l.length ≤ 100000 := by
  rw [linesF_eq]
  intro l hl
  simp only [List.mem_cons, List.mem_append, List.mem_map] at hl
  rcases hl with rfl | ⟨x, hx, rfl⟩ | ⟨x, hx, rfl⟩
  · unfold dS lineD
    rw [Lib.join_length]
    have := textL_len p.dflt
    simp [wDefault, Lib.lens]
    omega
  · exact cS_len x (h.adrC hx)
  · exact rS_len x (h.adrR hx) (h.r x hx).2
theorem lineG_len {p : PolN} (h : p.Ok) : ∀ l ∈ linesG p, l.length ≤ 100000 := by
  unfold linesG
  split
  · exact lineF_len h
  · simp
theorem ixL_flat (ls : List (List UInt8)) : (ixL ls).flatMap (fun x => endl x.2) = ls.flatMap endl := by
  unfold ixL
  rw [List.flatMap_map]
  have : ∀ (l : List (List UInt8)) (k : Nat), (l.zipIdx k).flatMap (fun x => endl x.1) = l.flatMap endl := by
    intro l
    induction l with
    | nil => intro k; rfl
    | cons x xs ih => intro k; rw [List.zipIdx_cons, List.flatMap_cons, List.flatMap_cons, ih]
  exact this ls 0
theorem flatE_len (ls : List (List UInt8)) (n : Nat) (h : ∀ l ∈ ls, l.length ≤ n) : (ls.flatMap endl).length ≤ ls.length * (n + 1) := by
  induction ls with
  | nil => simp
  | cons x xs ih =>
    rw [List.flatMap_cons, List.length_append, List.length_cons, Nat.add_mul, Nat.one_mul]
    have := ih fun l hl => h l (List.mem_cons_of_mem _ hl)
    have := h x List.mem_cons_self
    simp only [endl, List.length_append, List.length_singleton]
    omega
def TxP (w : World) (b : Nat) (RD : Nat → Prop) (O : Nat → Prop) (pre : List (Nat × List UInt8)) (W : World) : Prop :=
  BldS (fun k => O k ∨ RD k) b b (Lib.byteCells (pre.flatMap fun x => endl x.2)) W ∧ Below w.heap.size w W
theorem BldS.only {S S' O : Nat → Prop} {B b : Nat} {bs : List Value} {W W' : World} (h : BldS S B b bs W) (hon : Only O W W') (hO : ∀ k, O k → S k) (hb' : ¬ S' b) (hS' : ∀ k, S' k → S k ∨ W.heap.size ≤ k) : BldS S' B b bs W' := by
  obtain ⟨h1, h2, h3⟩ := h
  have key : ∀ p, BldAt B b p bs W → BldAt B b p bs W' ∧ ∀ v, W'.cell? ⟨b, 1, none⟩ = some v → ∀ g, v.ownBlock = some g → ¬ S' g := by
    rintro p ⟨hB, v, hbk, ho, hne⟩
    have hv := h3 v (by rw [Lib.cell_of_heap hbk]; rfl)
    have e2 : W'.heap[b]? = some (.cells #[p, v] 95 (0, 0)) := (hon.same b (Array.getElem?_eq_some_iff.1 hbk).1 (fun h => h1 (hO b h))).trans hbk
    refine ⟨⟨hB, v, e2, own_only ho hon (fun g hg h => hv g hg (hO g h)), hne⟩, fun u hu g hg hs => ?_⟩
    rw [Lib.cell_of_heap e2] at hu
    have e4 : v = u := by simpa using hu
    subst e4
    rcases hS' g hs with h | h
    · exact hv g hg h
    · have := (own_lt ho hg).2; omega
  rcases h2 with h | h
  · obtain ⟨k1, k2⟩ := key _ h
    exact ⟨hb', .inl k1, k2⟩
  · obtain ⟨k1, k2⟩ := key _ h
    exact ⟨hb', .inr k1, k2⟩
theorem txP_stable (w : World) (b : Nat) (RD : Nat → Prop) (M : Nat) (hb : b < M) (hw : w.heap.size ≤ M) (hRD : ¬ RD b) : Stable M (TxP w b RD) := by
  rintro O O' s W W' ⟨h1, h2⟩ hO hon hO'
  refine ⟨h1.only hon (fun k h => .inl h) (fun h => ?_) (fun k h => ?_), hon.below h2 h2.size (fun i h => by have := hO i h; omega)⟩
  · rcases h with h | h
    · rcases hO' b h with h | h
      · have := hO b h; omega
      · rcases h1.2.1 with ⟨-, v, hbk, -⟩ | ⟨-, v, hbk, -⟩ <;> (have := (Array.getElem?_eq_some_iff.1 hbk).1; omega)
    · exact hRD h
  · rcases h with h | h
    · rcases hO' k h with h | h
      · exact .inl (.inl h)
      · exact .inr h
    · exact .inl (.inr h)
theorem pre_len {ls : List (List UInt8)} {n : Nat} (h : ∀ l ∈ ls, l.length ≤ n) {pre : List (Nat × List UInt8)} {x : Nat × List UInt8} (hk : ∃ k, k ≤ ls.length ∧ pre ++ [x] = (ixL ls).take k) : (pre.flatMap fun x => endl x.2).length + (x.2.length + 1) ≤ ls.length * (n + 1) := by
  obtain ⟨k, -, hk⟩ := hk
  have h1 := flatE_len ls n h
  rw [← ixL_flat] at h1
  have h2 : ((ixL ls).flatMap fun x => endl x.2) = ((pre ++ [x]).flatMap fun x => endl x.2) ++ ((ixL ls).drop k).flatMap fun x => endl x.2 := by
    rw [hk, ← List.flatMap_append, List.take_append_drop]
  rw [h2] at h1
  simp only [List.flatMap_append, List.flatMap_cons, List.flatMap_nil, List.length_append, List.append_nil, endl, List.length_singleton] at h1 ⊢
  omega
theorem strCells_of (l : List UInt8) : Lib.strCells ⟨l.toArray⟩ = Lib.byteCells l := by simp [Lib.strCells, Lib.byteCells]
set_option maxRecDepth 100000 in
set_option maxHeartbeats 4000000 in
theorem textP_any (p : PolN) (pa pb : Option Addr) (pc pd : Nat) (w : World) (hp : PolAt w p pa pc pb pd) (hT : TabP w) (hl1 : p.clears.length ≤ 1000) (hl2 : p.rels.length ≤ 1000) :
    Calls Tryz.prog 32 #[polV p pa pc pb pd] w fun e w' => e = .returned (.tuple #[strL (textG p), .int .i64 (checkF p)]) ∧ Below w.heap.size w w' := by
  have hln := linesG_len p
  have hll := lineG_len hp.ok
  obtain ⟨w2, hw2⟩ : ∃ w2, (w.alloc (.cells #[labV p.dflt, .slice pa p.clears.length pc, .slice pb p.rels.length pd] 27)).alloc (.cells #[.pointer none, .slice none 0 0] 95) = w2 := ⟨_, rfl⟩
  have hb2 : Below w.heap.size w w2 := hw2 ▸ xalloc (xalloc (xrefl w) _) _
  have hz2 : w2.heap.size = w.heap.size + 2 := by rw [← hw2]; simp
  have hP : BlkG w2 w.heap.size 27 [labV p.dflt, .slice pa p.clears.length pc, .slice pb p.rels.length pd] := hw2 ▸ (BlkG.new w _ _).below (xalloc (xrefl _) _)
  have hB2 : Bld (w.heap.size + 1) (w.heap.size + 1) [] w2 ∧ w2.cell? ⟨w.heap.size + 1, 1, none⟩ = some (.slice none 0 0) := by
    have := Lib.fresh_isBuilder 95 5 (w.alloc (.cells #[labV p.dflt, .slice pa p.clears.length pc, .slice pb p.rels.length pd] 27))
    have h2 := World.alloc_heap_new (w.alloc (.cells #[labV p.dflt, .slice pa p.clears.length pc, .slice pb p.rels.length pd] 27)) (.cells #[.pointer none, .slice none 0 0] 95)
    rw [World.size_alloc] at this h2
    rw [hw2] at this h2
    exact ⟨this, by rw [Lib.cell_of_heap h2]; rfl⟩
  have hck := Lib.hid (check_any p pa pb pc pd w2 (hp.below hb2) (by omega) (by omega))
  have hPr := Lib.hid (BlkG.range hP)
  have hpl := Lib.hid fun W (h : Below w2.heap.size w2 W) => linesO_any p pa pb pc pd W (hp.below (xtrans hb2 h)) (hT.below (xtrans hb2 h)) hl1 hl2
  have hfl := Lib.hid (show textG p = (linesG p).flatMap endl from rfl)
  generalize hn : checkF p = n at *
  replace hn := Lib.hid hn
  obtain ⟨ls, hls⟩ : ∃ ls, ls = linesG p := ⟨_, rfl⟩
  rw [← hls] at hln hll hfl
  replace hls := Lib.hid hls
  obtain ⟨tx, htx⟩ : ∃ tx, tx = textG p := ⟨_, rfl⟩
  rw [← htx] at hfl ⊢
  replace htx := Lib.hid htx
  replace hll := Lib.hid hll
  replace hb2 := Lib.hid hb2
  replace hB2 := Lib.hid hB2
  replace hP := Lib.hid hP
  clear hp hT
  unfold polV at hck hpl ⊢
  refine (callsIn_wide (n := 0)).1 ?_
  refine callsIn_of_wp_marks Tryz.func32 rfl trivial ?_ rfl
  simp only [Tryz.ntmps32, List.size_toArray, List.length_cons, List.length_nil, Nat.reduceAdd, Nat.reduceSub, Array.replicate_succ, Array.replicate_zero, List.push_toArray, List.append_toArray, List.nil_append, List.cons_append]
  refine wpIn_wide.2 ?_
  have hw2' := Lib.hid hw2
  clear hw2
  go_wp2_with (first
      | (refine wpList_load_mid rfl 27 _ rfl w.heap.size 0 rfl [labV p.dflt, .slice pa p.clears.length pc, .slice pb p.rels.length pd] _ hPr.out Tryz.underlying27 rfl (by kernel_rfl) ?_)
      | (go_at_call 14; rw [hw2'.out]; refine hck.out.mono ?_; rintro e w3 ⟨rfl, hb3⟩; have hPr3 := Lib.hid ((hP.out.below hb3).range); replace hb3 := Lib.hid hb3; clear hPr)
      | (refine wpList_load_mid rfl 27 _ rfl w.heap.size 0 rfl [labV p.dflt, .slice pa p.clears.length pc, .slice pb p.rels.length pd] _ hPr3.out Tryz.underlying27 rfl (by kernel_rfl) ?_)
      | (go_at_call 36; refine (hpl.out _ hb3.out).mono ?_; rintro e w4 ⟨⟨v, rfl, hv⟩, hb4⟩; rw [← hls.out] at hv; replace hv := Lib.hid hv; have hb34 := Lib.hid hb4; clear hb4))
  obtain ⟨bx, ax, cx, rfl, hx4, hr4, hNb, hNa⟩ := hv.out
  have hz3 := hb3.out.size
  have hz4 := hb34.out.size
  have hRl : ∀ k, RdR ax ls k → w3.heap.size ≤ k ∧ k < w4.heap.size := fun k hk => ⟨by obtain ⟨-, y, e, rfl⟩ := hk; exact hNa y e, rdR_lt hr4 hk⟩
  have hw4 : Below w.heap.size w w4 := xtrans hb2.out (xtrans hb3.out hb34.out)
  have hw24 : Below w2.heap.size w2 w4 := xtrans hb3.out hb34.out
  have hRb : ¬ RdR ax ls (w.heap.size + 1) := fun h => by have := hRl _ h; omega
  have h00 : TxP w (w.heap.size + 1) (RdR ax ls) (fun _ => False) [] w4 := by
    refine ⟨⟨fun h => h.elim id hRb, ?_, fun v hv g hg => ?_⟩, hw4⟩
    · rcases hB2.out.1 with ⟨hB, v, hbk, ho, hne⟩ | ⟨hB, v, hbk, ho, hne⟩
      · exact .inl ⟨hB, v, (hw24.block _ (Array.getElem?_eq_some_iff.1 hbk).1).trans hbk, own_keep ho hw24, hne⟩
      · exact .inr ⟨hB, v, (hw24.block _ (Array.getElem?_eq_some_iff.1 hbk).1).trans hbk, own_keep ho hw24, hne⟩
    · rw [cbel hw24 hB2.out.2] at hv
      cases hv
      cases hg
  have hst := txP_stable w (w.heap.size + 1) (RdR ax ls) w4.heap.size (by omega) (by omega) hRb
  replace hRl := Lib.hid hRl
  replace hRb := Lib.hid hRb
  replace hx4 := Lib.hid hx4
  replace hr4 := Lib.hid hr4
  replace hNa := Lib.hid hNa
  replace h00 := Lib.hid h00
  replace hw4 := Lib.hid hw4
  replace hw24 := Lib.hid hw24
  clear hv hb3 hb34 hB2 hck hPr3 hP hpl
  refine wp_mid 0 (fun a' a'' W' => ∃ D, a'' = { a' with defers := { target := .collected D, args := #[] } :: a'.defers } ∧ w4.heap.size ≤ D ∧ W'.heap[D]? = some (.deferred (some [])) ∧ TxP w (w.heap.size + 1) (RdR ax ls) (fun k => k = D) (ixL ls) W') ?range ?rest (fun _ _ h => h)
  case range =>
    refine (wpIn_wide (n := 0)).1 ?_
    refine wp_rangeP (gf := 68) (lb := #[.pointer (some ⟨bx, 0, none⟩)]) rfl (enters_of Tryz.func68 (by kernel_rfl) rfl) (encs := encL) (Rd := RdR ax ls)
      (S := fun xs => xs = ixL ls) (Sp := fun pre => ∃ k, k ≤ ls.length ∧ pre = (ixL ls).take k) (N := ls.length) (inf := false) (fun k h => (hRl.out k h).2)
      (fun W1 hb1 => lines_seq ls bx ax cx W1 (cbel hb1 hx4.out) (hr4.out.below hb1) (by omega)) (fun x => rfl) (TxP w (w.heap.size + 1) (RdR ax ls)) (fun _ _ _ _ => False) hst (fun _ _ _ _ _ _ h _ _ _ => h) h00.out (fun h => by cases h) ?round ?done ?stop
    case round =>
      rintro l1 O pre x W1 hOl hO ⟨h1, h2⟩ hlen hsp
      have hpl := pre_len hll.out hsp
      have hpl2 : (pre.flatMap fun x => endl x.2).length + (x.2.length + 1) ≤ 140737488355328 := by
        have : ls.length * (100000 + 1) ≤ 2001 * 100001 := Nat.mul_le_mul (by omega) (Nat.le_refl _)
        omega
      unfold encL
      gi_wp2
      refine ⟨Keep.refl _ _, fun W2 hon => ?_⟩
      have hl4 : w4.heap.size ≤ l1 := (hO l1 hOl).1
      have hlW := (hO l1 hOl).2
      have hs2 := hon.size
      have b2 := hon.below h2 h2.size (by rintro i rfl; omega)
      have o2 : BldS (fun k => O k ∨ RdR ax ls k) (w.heap.size + 1) (w.heap.size + 1) (Lib.byteCells (pre.flatMap fun x => endl x.2)) W2 := h1.only hon (by rintro k rfl; exact .inl hOl) (fun h => by
        rcases h with h | h
        · have := hO _ h; omega
        · exact hRb.out h) (fun k h => .inl h)
      have hOs : Hid (∀ k, (O k ∨ RdR ax ls k) → k < W2.heap.size) := Lib.hid fun k h => by
        rcases h with h | h
        · have := hO k h; omega
        · have := hRl.out k h; have := (hO l1 hOl); omega
      have hxl : x.2.length ≤ 300000000 := by have : ls.length * (100000 + 1) ≤ 2001 * 100001 := Nat.mul_le_mul (by omega) (Nat.le_refl _); omega
      have hwr := bldStrS_any _ _ _ _ ⟨(endl x.2).toArray⟩ W2 o2 (by rw [Lib.byteCells_length]; simp [endl, ByteArray.size] at hpl2 ⊢; omega) (by have := b2.size; omega) hOs.out
      replace hwr := Lib.hid hwr
      replace b2 := Lib.hid b2
      clear hon h1 h2 hO hsp hpl hpl2 o2
      have hsz : (⟨x.2.toArray⟩ : ByteArray).size = x.2.length := by simp [ByteArray.size]
      have hcat : Hid ((⟨x.2.toArray⟩ : ByteArray) ++ ⟨#[10]⟩ = ⟨(endl x.2).toArray⟩) := Lib.hid (by apply ByteArray.ext; simp [endl])
      gi_wp2_with (refine ⟨trivial, rfl, ?_⟩; gi_at_call 50; rw [hcat.out]; refine (CallsIn.inRound l1 (callsIn_wide.2 hwr.out)).mono ?_; rintro e W3 ⟨rfl, hB3, hb3, hk3⟩; replace hB3 := Lib.hid hB3; replace hk3 := Lib.hid hk3; replace hb3 := Lib.hid hb3)
      refine ⟨hk3.out, ?_, b2.out.trans (hb3.out.mono (Nat.le_succ _))⟩
      have h3 := hB3.out
      rw [strCells_of] at h3
      have e3 : Lib.byteCells ((pre ++ [x]).flatMap fun x => endl x.2) = Lib.byteCells (pre.flatMap fun x => endl x.2) ++ Lib.byteCells (endl x.2) := by simp [Lib.byteCells]
      rw [e3]
      exact h3
    case done =>
      rintro D xs O W hD hOD hO rfl ⟨h1, h2⟩ hK
      refine ⟨.inl rfl, D, rfl, hD, hK, ?_, h2⟩
      exact h1.only (O := fun _ => False) (Only.refl _ _) (fun k h => h.elim) (fun h => by
        rcases h with h | h
        · have : w.heap.size + 1 = D := h
          omega
        · exact hRb.out h) (fun k h => .inl (by
        rcases h with h | h
        · exact .inl (by rw [show k = D from h]; exact hOD)
        · exact .inr h))
    case stop =>
      rintro D c' pre O W hD hOD hO _ h
      exact h.elim
  case rest =>
    rintro a6 w6 ⟨D, rfl, hD, hK, h1, h2⟩
    rw [ixL_flat, ← hfl.out] at h1
    have hfe := flatE_len ls _ hll.out
    rw [← hfl.out] at hfe
    have hfe2 : tx.length ≤ 300000000 := by have : ls.length * (100000 + 1) ≤ 2001 * 100001 := Nat.mul_le_mul (by omega) (Nat.le_refl _); omega
    have hKl := (Array.getElem?_eq_some_iff.1 hK).1
    have hst := Lib.hid (bldStringS_any _ _ _ _ _ h1 (by omega) (fun k h => by
      rcases h with h | h
      · have : k = D := h
        omega
      · have := hRl.out k h; omega) (by omega))
    replace hK := Lib.hid hK
    replace h2 := Lib.hid h2
    clear h1 hfe
    go_wp2_with (go_at_call 52; refine hst.out.mono ?_; rintro e w7 ⟨rfl, hb7, hk7⟩)
    have hK7 := (hk7.same D hKl (.inl rfl)).trans hK.out
    have hb := h2.out.trans (hb7.mono (Nat.le_succ _))
    have hput := (Only.refl (· = D) w7).putObj D (.deferred none) rfl
    have hzz := hw4.out.size
    refine ⟨by simp [Act.put], .inl ⟨_, _, rfl, run_takeDeferred hK7, ?_⟩⟩
    exact ⟨_, results_tmp2 rfl _ _ _, rfl, hput.below hb hb.size (by rintro i rfl; omega)⟩
end Go.Proofs.YthpallkphamobaaGreatDoor
namespace Go.Proofs.YthpallkphamobaaGreatDoor
open Go.RowKit Go.Shelf

theorem neq_of_eql {P : Program} {w : World} {t : TypeId} {xs ys : Array Value} {r : Bool} (h : (binOp .eql t (.agg xs) (.agg ys)).run P w = .ok (.bool r) w) : (binOp .neq t (.agg xs) (.agg ys)).run P w = .ok (.bool (!r)) w := by
  rw [run_eql_struct] at h
  rw [run_neq_struct]
  cases hq : (Op.equalIn 10000 t (.agg xs) (.agg ys)).run P w with
  | ok b w' =>
    rw [hq] at h
    simp only [Result.andThen_ok] at h ⊢
    injection h with h1 h2
    injection h1 with h1
    rw [h1, h2]
  | _ => rw [hq] at h; simp [Result.andThen] at h
theorem exec_neq_clearC {o : Oper} {ac : Act} {w : World} (x y : Operand) (ho : o.op = .binOp .neq 65 x y 65) (a b : List Nat × BitVec 64) (ha : Adr a.1) (hb : Adr b.1) (hx : ac.eval x = .agg (clearC a).toArray) (hy : ac.eval y = .agg (clearC b).toArray) : (execOp ac.eval o).run Tryz.prog w = .ok (.value (.bool (!decide (a = b)))) w := by
  have h := neq_of_eql (eql_clear a b ha hb w)
  unfold execOp
  simp only [ho, hx, hy, Sem.run_bind, Sem.run_pure, Result.andThen_ok, run_eqGuard_agg (hm := (by kernel_rfl : Tryz.prog.eqGuardType Tryz.prog.depth 65 = false))]
  simp only [h, Result.andThen_ok]
theorem exec_neq_relC {o : Oper} {ac : Act} {w : World} (x y : Operand) (ho : o.op = .binOp .neq 67 x y 67) (a b : List Nat × Nat × BitVec 64) (ha : Adr a.1) (hb : Adr b.1) (hx : ac.eval x = .agg (relC a).toArray) (hy : ac.eval y = .agg (relC b).toArray) : (execOp ac.eval o).run Tryz.prog w = .ok (.value (.bool (!decide (a = b)))) w := by
  have h := neq_of_eql (eql_rel a b ha hb w)
  unfold execOp
  simp only [ho, hx, hy, Sem.run_bind, Sem.run_pure, Result.andThen_ok, run_eqGuard_agg (hm := (by kernel_rfl : Tryz.prog.eqGuardType Tryz.prog.depth 67 = false))]
  simp only [h, Result.andThen_ok]
end Go.Proofs.YthpallkphamobaaGreatDoor
namespace Go.Proofs.YthpallkphamobaaGreatDoor
open Go.RowKit

theorem handed_and_shaped {H : Type} {enc : TypeId × Value → H} {a : Assume} {C : Checked} {os : Os} {f : FuncId} {fn : Func} {s : ChangeSpec} {conds : List PathCond} {apart fresh handsOn again : Bool} {X : World → Array Value → Prop}
    (hX : ∀ (w w' : World) (args : Array Value), w.heap = w'.heap → X w args → X w' args)
    (own : ownKnob C.prog.godebug = none) (started : os.Started) (noInit : C.prog.inits.idxOf? f = none) (hfn : C.prog.funcs[f]? = some fn)
    (witness : ∃ (w : World) (tape : Tape) (i : Input), w.os = os ∧ (w.forCall tape i).Shaped C.prog ∧ i.vars = [] ∧ Input.okWide C.prog (w.forCall tape i) .any w.heap.size f i ∧
      ((s.pre enc C.prog fn conds apart (w.forCall tape i).memory i.args ∧ X (w.forCall tape i).memory i.args) ∧ sizedMet enc C.prog fn (OpenSpec.ofChange s) apart (w.forCall tape i).memory i.args) ∧ a.holds C.prog (lone (Frame.enter C.prog f i.args .normal) [] (w.forCall tape i)))
    (walk : ∀ (W : World) (base : Nat) (args : Array Value) (ds gs : List (DataW H)) (before : List MemPlace),
      (∀ (j : Nat) t v, fn.params[j]? = some t → args[j]? = some v → Value.okWide C.prog W .any base t v) →
      DataW.Whole enc C.prog fn.params.toList s.vars apart W args.toList ds gs before →
      X W args → W.ShapedOpen C.prog →
      Calls C.prog f args W fun e W' => ∃ v, e = .returned v ∧ s.post enc C.prog fn apart fresh handsOn again W args v W') :
    ReturnsInHanded a C os f .any (fun w args => (s.pre enc C.prog fn conds apart w args ∧ X w args) ∧ sizedMet enc C.prog fn (OpenSpec.ofChange s) apart w args) (s.post enc C.prog fn apart fresh handsOn again) := by
  refine returnsInHanded_of_calls own started noInit witness fun w tape i _ hsh _ hok hpre _ => ?_
  obtain ⟨_, _, _, fn2, hfn2, _, _, _, _, hval⟩ := hok
  obtain rfl : fn2 = fn := Option.some.inj (hfn2.symm.trans hfn)
  obtain ⟨⟨⟨ds, gs, before, hw, -⟩, hx⟩, -⟩ := hpre
  refine (walk (w.forCall tape i) w.heap.size i.args ds gs before hval (DataW.Whole.of_heap (w' := w.forCall tape i) (by rfl) hw) (hX _ _ _ (by rfl) hx) hsh).mono fun e W' h => ?_
  obtain ⟨v, rfl, hp⟩ := h
  exact ChangeSpec.post_blind hp
theorem gT64 : Tryz.prog.globalNamed "math/bits.deBruijn64tab" = some gtab := by kernel_rfl
theorem gT64T : (Tryz.prog.globals[gtab]?).map (·.type) = some 199 := by kernel_rfl
theorem gT10 : Tryz.prog.globalNamed "internal/strconv.uint64pow10" = some 4 := by kernel_rfl
theorem gT10T : (Tryz.prog.globals[4]?).map (·.type) = some 203 := by kernel_rfl
theorem gTS : Tryz.prog.globalNamed "strconv.ErrSyntax" = some 5 := by kernel_rfl
theorem gTST : (Tryz.prog.globals[5]?).map (·.type) = some 97 := by kernel_rfl
theorem gTR : Tryz.prog.globalNamed "strconv.ErrRange" = some 6 := by kernel_rfl
theorem gTRT : (Tryz.prog.globals[6]?).map (·.type) = some 97 := by kernel_rfl
theorem starE : "*" ++ "errors.errorString" = "*errors.errorString" := by decide
theorem rowE (u : TypeId) (h : Tryz.prog.typeName? 3 u = some "*errors.errorString") : u = 218 :=
  typeName_ptr_named (nm := "errors.errorString") (by rw [starE]; kernel_rfl) (by kernel_rfl) (by decide) u (by rw [starE]; exact h)
def tabZs : List Int := Lib.deBruijn64tab.map fun n : Nat => (n : Int)
theorem var_heap {W W' : World} {P : Program} {n : String} {g : Nat} (hg : P.globalNamed n = some g) (h : W'.heap[g]? = W.heap[g]?) : W'.var? P n = W.var? P n := by
  unfold World.var?
  simp only [hg, Option.bind_some, h]
theorem tabP_of {W : World} (h : laidMetH Tryz.prog Rows.policyNamesRow.laid W) (hsh : W.ShapedOpen Tryz.prog) : TabP W := by
  rw [MakeChecks.laidMetH_plain _ _ _ (by kernel_rfl)] at h
  have h64 := laidMet.tail h
  have h10 := laidMet.tail h64
  have hR := laidMet.tail (laidMet.tail h10)
  have hS := laidMet.tail hR
  have hT : Lib.TabIs Tryz.prog W "math/bits.deBruijn64tab" .u8 tabZs := Lib.tabIs_of_head gT64 gT64T Tryz.underlying199 Tryz.underlying5 (by kernel_rfl) (by kernel_rfl) h64
  have hP : Lib.TabIs Tryz.prog W "internal/strconv.uint64pow10" .u64 Lib.pow10Tab := Lib.tabIs_of_head gT10 gT10T Tryz.underlying203 Tryz.underlying22 (by kernel_rfl) (by kernel_rfl) h10
  obtain ⟨aR, _, hvR, -⟩ := laid_sentinel hR gTR gTRT Tryz.underlying97 rowE Tryz.underlying218 Tryz.underlying220 rfl rfl Tryz.underlying9 (by kernel_rfl) (by kernel_rfl)
  obtain ⟨aS, _, hvS, -⟩ := laid_sentinel hS gTS gTST Tryz.underlying97 rowE Tryz.underlying218 Tryz.underlying220 rfl rfl Tryz.underlying9 (by kernel_rfl) (by kernel_rfl)
  have c7 : ∃ v, W.cell? ⟨7, 0, none⟩ = some v := by
    obtain ⟨g, hg, hc⟩ : ∃ g, Tryz.prog.globalNamed "math/bits.deBruijn32tab" = some g ∧ g = 7 := ⟨7, by kernel_rfl, rfl⟩
    subst hc
    have hT32 : Lib.TabIs Tryz.prog W "math/bits.deBruijn32tab" .u8 (Lib.deBruijn32tab.map fun n : Nat => (n : Int)) := Lib.tabIs_of_head hg (t := 108) (by kernel_rfl) Tryz.underlying108 Tryz.underlying5 (by kernel_rfl) (by kernel_rfl) h
    exact ⟨_, hT32.cell hg 0 (by rw [List.length_map]; decide)⟩
  refine ⟨fun j hj => ?_, cell_of_shapedOpen_int (t := 3) (zero := #[.int .i64 0]) hsh (of_decide_eq_true (by kernel_rfl)) (by kernel_rfl) rfl (by kernel_rfl) (by kernel_rfl) Tryz.underlying3, ?_, fun W' e => ?_, ?_, ?_⟩
  · have := hT.cell gT64 j (by unfold tabZs; rw [List.length_map]; exact hj)
    rw [this]
    unfold tabZs
    simp [hj]
  · obtain ⟨v, hv⟩ := c7
    have := cell_lt hv
    exact this
  · unfold Lib.TabIs
    rw [var_heap gT10 e]
    exact hP
  · exact ⟨_, _, by simpa using World.var?_cell gTS hvS 0⟩
  · exact ⟨_, _, by simpa using World.var?_cell gTR hvR 0⟩
end Go.Proofs.YthpallkphamobaaGreatDoor
namespace Go.Proofs.YthpallkphamobaaGreatDoor
open Go.ChangeShapes Go.WideShapes Go.ChangeAt Go.RowKit
open Go.ChangeMaps (open_string shut_string)

/-- What became of the walk of a law: true, and nothing that was there has turned. -/
def Yes (w : World) (e : Ending) (w' : World) : Prop := e = .returned (.bool true) ∧ Below w.heap.size w w'


end Go.Proofs.YthpallkphamobaaGreatDoor
namespace Go.Proofs.YthpallkphamobaaGreatDoor
open Go.RowKit Go.Shelf

theorem ct_neP : (65 : TypeId) ≠ 27 := by decide
theorem rt_neP : (67 : TypeId) ≠ 27 := by decide
end Go.Proofs.YthpallkphamobaaGreatDoor
namespace Go.Proofs.YthpallkphamobaaGreatDoor
open Go.RowKit Go.Shelf

theorem decN_len (n : Nat) (h : n < 4294967296) : (Lib.decDigits n).length ≤ 20 := by
  rw [Lib.decDigits_length]
  by_cases h0 : 1 ≤ n
  · have := Lib.numDigits_eq n h0 (by omega); split at this <;> omega
  · rw [show n = 0 by omega, Lib.nDigits_small (by decide)]; decide
set_option maxRecDepth 100000 in
theorem refNumberG_any (n : Nat) (w : World) (hn : n < 4294967296) : Calls Tryz.prog 66 #[.int .u64 n] w fun e w' => e = .returned (.string ⟨(Lib.decDigits n).toArray⟩) ∧ Below w.heap.size w w' := by
  go_enter Tryz.func66, Tryz.ntmps66
  go_wp2
  go_loopw [0, 3] (fun x s wx => ∃ (m : Nat) (t : List UInt8), m < 4294967296 ∧ t.length ≤ 100 ∧ x = .int .u64 m ∧ s = .string ⟨t.toArray⟩ ∧ Hid (Lib.decDigits m ++ t = Lib.decDigits n) ∧ Below w.heap.size w wx) (fun x _ _ => (intOf x).toNat)
  case atStart => exact ⟨n, [], hn, by simp, rfl, rfl, Lib.hid (by simp), xrefl w⟩
  case round =>
    obtain ⟨m, t, hm, htl, rfl, rfl, hd, hb⟩ := hrel
    obtain ⟨d, hd1⟩ : ∃ d, d = m % 10 := ⟨_, rfl⟩
    obtain ⟨q, hq1⟩ : ∃ q, q = m / 10 := ⟨_, rfl⟩
    have hd2 : (m : Int) % 10 = (d : Int) := by omega
    have hq2 : (m : Int) / 10 = (q : Int) := by omega
    have hd10 : d < 10 := by omega
    have hcv := chr_conv d hd10 wr
    have hsc := str_cons (UInt8.ofNat (48 + d)) t
    have e1 : IntKind.u8.wrap (48 + (d : Int)) = 48 + (d : Int) := by rw [IntKind.wrap_u8]; omega
    obtain ⟨cc, hcc⟩ : ∃ c, c = UInt8.ofNat (48 + d) := ⟨_, rfl⟩
    rw [← hcc] at hsc hcv
    replace hsc := Lib.hid hsc
    by_cases h10 : m < 10
    · have hdm : d = m := by omega
      have hq0 : (m : Int) / 10 = 0 := by omega
      clear hq2
      have hfin : Hid (cc :: t = Lib.decDigits n) := Lib.hid (by rw [← hd.out, dec_lo m h10, hcc, hdm]; rfl)
      replace hcc := Lib.hid hcc
      replace hd1 := Lib.hid hd1
      replace hq1 := Lib.hid hq1
      replace hdm := Lib.hid hdm
      go_wp2
      go_ret
      refine ⟨?_, xalloc hb _⟩
      exact congrArg Ending.returned (congrArg Value.string (hsc.out.trans (by rw [hfin.out])))
    · have hq0 : ¬ (q : Int) = 0 := by omega
      have hfin : Hid (Lib.decDigits q ++ (cc :: t) = Lib.decDigits n) := Lib.hid (by
        rw [← hd.out, Lib.decDigits.eq_def m, dif_neg h10, ← hq1, ← hd1, hcc]
        simp)
      have hq100 : q < 4294967296 := by omega
      have htl2 : (cc :: t).length ≤ 100 := by have h1 := congrArg List.length hfin.out; have h2 := decN_len n hn; rw [List.length_append] at h1; omega
      replace hcc := Lib.hid hcc
      replace hd1 := Lib.hid hd1
      replace hq1 := Lib.hid hq1
      go_wp2
      refine ⟨⟨q, cc :: t, hq100, htl2, rfl, ?_, hfin, xalloc hb _⟩, by simp [intOf]; omega⟩
      exact congrArg Value.string hsc.out

end Go.Proofs.YthpallkphamobaaGreatDoor
namespace Go.Proofs.YthpallkphamobaaGreatDoor
open Go.RowKit Go.Shelf

theorem dec_allT (n : Nat) : ∀ c ∈ Lib.decDigits n, 48 ≤ c.toNat ∧ c.toNat ≤ 57 := by
  induction n using Nat.strongRecOn with
  | _ n ih =>
    rw [Lib.decDigits.eq_def]
    have hd : ∀ k, k < 10 → 48 ≤ (UInt8.ofNat (48 + k)).toNat ∧ (UInt8.ofNat (48 + k)).toNat ≤ 57 := by decide
    by_cases h : n < 10
    · rw [dif_pos h]
      intro c hc
      rw [List.mem_singleton.1 hc]
      exact hd n h
    · rw [dif_neg h]
      intro c hc
      rcases List.mem_append.1 hc with h1 | h1
      · exact ih (n / 10) (by omega) c h1
      · rw [List.mem_singleton.1 h1]; exact hd _ (by omega)
theorem foldD_le (l : List UInt8) : ∀ n : Nat, n ≤ l.foldl (fun n c => 10 * n + (c.toNat - 48)) n := by
  induction l with
  | nil => exact fun n => Nat.le_refl n
  | cons c l ih => exact fun n => Nat.le_trans (by omega) (ih (10 * n + (c.toNat - 48)))
theorem decV_le (l m : List UInt8) : decV l ≤ decV (l ++ m) := by
  unfold decV; rw [List.foldl_append]; exact foldD_le m _
theorem num_badT {s : List UInt8} {k : Nat} (h : k < s.length) (hc : s[k].toNat < 48 ∨ 57 < s[k].toNat) : numF s = none := by
  cases hn : numF s with
  | none => rfl
  | some n =>
    have := dec_allT n s[k] (by rw [(num_some hn).1]; exact List.getElem_mem h)
    omega
theorem num_bigT {s : List UInt8} {k : Nat} (h : 4294967295 < decV (s.take k)) : numF s = none := by
  have := decV_le (s.take k) (s.drop k)
  rw [List.take_append_drop] at this
  unfold numF
  rw [if_neg (by omega)]
theorem num_endT {s : List UInt8} {n : Nat} (h : decV s = n) (h2 : n ≤ 4294967295) : numF s = if Lib.decDigits n = s then some n else none := by
  unfold numF
  rw [h]
  by_cases hd : Lib.decDigits n = s
  · rw [if_pos ⟨by omega, hd⟩, if_pos hd]
  · rw [if_neg (fun x => hd x.2), if_neg hd]
theorem decV_take {s : List UInt8} {k : Nat} (h : k < s.length) : decV (s.take (k + 1)) = 10 * decV (s.take k) + (s[k].toNat - 48) := by
  rw [List.take_succ_eq_append_getElem h, decV_snoc]
def numV2 (o : Option Nat) : Value := match o with | some n => .tuple #[.int .u32 n, .bool true] | none => .tuple #[.int .u32 0, .bool false]
set_option maxRecDepth 100000 in
set_option maxHeartbeats 1000000 in
theorem refNumF_any (s : List UInt8) (w : World) (hs : s.length ≤ 4194304) : Calls Tryz.prog 102 #[.string ⟨s.toArray⟩] w fun e w' => e = .returned (numV2 (numF s)) ∧ Below w.heap.size w w' := by
  have hbad := Lib.hid fun k h hc => num_badT (s := s) (k := k) h hc
  have hbig := Lib.hid fun k h => num_bigT (s := s) (k := k) h
  have hend := Lib.hid fun n h h2 => num_endT (s := s) (n := n) h h2
  generalize numF s = R at *
  have hsz : (⟨s.toArray⟩ : ByteArray).size = s.length := by show s.toArray.size = _; simp
  go_enter Tryz.func102, Tryz.ntmps102
  go_wp2
  go_loopw [4, 5] (fun nv kv wr => ∃ (k n : Nat), k ≤ s.length ∧ n ≤ 42949672959 ∧ wr = w ∧ nv = .int .u64 n ∧ kv = .int .i64 k ∧ Hid (decV (s.take k) = n)) (fun _ kv _ => s.length - (intOf kv).toNat)
  case atStart => exact ⟨0, 0, by omega, by omega, rfl, rfl, rfl, Lib.hid rfl⟩
  case round =>
    obtain ⟨k, n, hk, hn, rfl, rfl, rfl, hst⟩ := hrel
    by_cases hlt : k < s.length
    · have hltI : (k : Int) < s.length := by omega
      have hat := fun W => run_at_str s k hlt W
      have hnx := Lib.hid (decV_take hlt)
      have hbd := Lib.hid fun h => hbad.out k hlt h
      obtain ⟨c, hc⟩ : ∃ c, c = (s[k]).toNat := ⟨_, rfl⟩
      have hc256 := (s[k]).toNat_lt
      rw [← hc] at hnx hbd hc256
      simp only [← hc] at hat
      replace hc := Lib.hid hc
      by_cases hg : c < 48 ∨ 57 < c ∨ 4294967295 < n
      · have hR : Hid (R = none) := Lib.hid (by
          rcases hg with h | h | h
          · exact hbd.out (.inl h)
          · exact hbd.out (.inr h)
          · exact hbig.out k (by rw [hst.out]; exact h))
        have hb1 : c < 48 ∨ (¬ c < 48 ∧ 57 < c) ∨ (¬ c < 48 ∧ ¬ 57 < c ∧ 4294967295 < n) := by omega
        clear hg
        rcases hb1 with h1 | ⟨h1, h2⟩ | ⟨h1, h2, h3⟩
        all_goals
          go_wp2
          go_ret2
          exact ⟨by rw [hR.out]; rfl, xrefl _⟩
      · have h1 : ¬ c < 48 := by omega
        have h2 : ¬ 57 < c := by omega
        have h3 : ¬ 4294967295 < n := by omega
        obtain ⟨d, hd⟩ : ∃ d, c = 48 + d := ⟨c - 48, by omega⟩
        have hnx2 : Hid (decV (s.take (k + 1)) = 10 * n + d) := Lib.hid (by rw [hnx.out, hst.out, hd]; omega)
        have hd10 : d < 10 := by omega
        clear hg hnx
        go_wp2
        exact ⟨⟨k + 1, 10 * n + d, by omega, by omega, trivial, by go_num, by first | rfl | go_num, hnx2⟩, by simp [intOf]; omega⟩
    · obtain rfl : k = s.length := by omega
      have hst2 := hst.out
      rw [List.take_length] at hst2
      by_cases hg : 4294967295 < n
      · have hR : Hid (R = none) := Lib.hid (hbig.out s.length (by rw [hst.out]; exact hg))
        replace hst2 := Lib.hid hst2
        go_wp2
        go_ret2
        exact ⟨by rw [hR.out]; rfl, xrefl _⟩
      · have hRv := hend.out n hst2 (by omega)
        have hnm := Lib.hid fun W => refNumberG_any n W (by omega)
        replace hst2 := Lib.hid hst2
        by_cases he : Lib.decDigits n = s
        · rw [if_pos he] at hRv
          have ht : (Lib.decDigits n == s) = true := by rw [he]; exact beq_self_eq_true s
          generalize Lib.decDigits n = dn at *
          replace hRv := Lib.hid hRv
          have hn2 : n % 4294967296 = n := Nat.mod_eq_of_lt (by omega)
          replace he := Lib.hid he
          go_wp2_with (go_at_call 66; refine (hnm.out _).mono ?_; rintro e w1 ⟨rfl, hb1⟩)
          go_ret2
          exact ⟨by rw [hRv.out]; rfl, hb1⟩
        · rw [if_neg he] at hRv
          have ht : (Lib.decDigits n == s) = false := by rw [beq_eq_false_iff_ne]; exact he
          generalize Lib.decDigits n = dn at *
          replace hRv := Lib.hid hRv
          replace he := Lib.hid he
          go_wp2_with (go_at_call 66; refine (hnm.out _).mono ?_; rintro e w1 ⟨rfl, hb1⟩)
          go_ret2
          exact ⟨by rw [hRv.out]; rfl, hb1⟩
end Go.Proofs.YthpallkphamobaaGreatDoor
