/- Texts of this claim, merged; no condition. -/
import Derived.Test.YthpallkphamobaaGreatDoorJ27
import Derived.Test.YthpallkphamobaaGreatDoorJ05
set_option linter.all false
namespace Go.Proofs.YthpallkphamobaaGreatDoor
open Go.RowKit Go.Shelf
attribute [local go_sem] Oper.semAt_some

/-- Each with its number. -/
def ixL (ls : List (List UInt8)) : List (Nat × List UInt8) := ls.zipIdx.map fun x => (x.2, x.1)
theorem ixL_len (ls : List (List UInt8)) : (ixL ls).length = ls.length := by simp [ixL]
theorem ixL_get (ls : List (List UInt8)) (k : Nat) (h : k < ls.length) : (ixL ls)[k]'(by rw [ixL_len]; exact h) = (k, ls[k]) := by simp [ixL]
def encL (x : Nat × List UInt8) : Array Value := #[.int .i64 x.1, .string ⟨x.2.toArray⟩]
/-- The block of a row. -/
def RdR (a : Option Addr) (ls : List (List UInt8)) (k : Nat) : Prop := ls ≠ [] ∧ ∃ y, a = some y ∧ y.block = k
theorem rowV_keep {a : Option Addr} {ls : List (List UInt8)} {W W' : World} (h : RowV W a (ls.map strL)) (hk : Keep (RdR a ls) W W') : RowV W' a (ls.map strL) := fun i hi => by
  obtain ⟨b, o, e, hc⟩ := h i hi
  exact ⟨b, o, e, hk.cell hc ⟨fun e2 => by rw [e2] at hi; simp at hi, _, e, rfl⟩⟩
theorem rdR_lt {a : Option Addr} {ls : List (List UInt8)} {W : World} (h : RowV W a (ls.map strL)) {k : Nat} (hk : RdR a ls k) : k < W.heap.size := by
  obtain ⟨h0, y, e, rfl⟩ := hk
  obtain ⟨b, o, e2, hc⟩ := h 0 (by rw [List.length_map]; exact List.length_pos_iff.2 h0)
  rw [e2] at e; cases e
  exact cell_lt hc
set_option maxRecDepth 100000 in
set_option maxHeartbeats 2000000 in
theorem all_seq (ls : List (List UInt8)) (bx : Nat) (a : Option Addr) (c : Nat) (W : World) (hx : W.cell? ⟨bx, 0, none⟩ = some (.slice a ls.length c)) (hr : RowV W a (ls.map strL)) (hl : ls.length ≤ 1000000) :
    SeqP Tryz.prog 107 #[.pointer (some ⟨bx, 0, none⟩)] encL (RdR a ls) (fun xs => xs = ixL ls) (fun pre => ∃ k, k ≤ ls.length ∧ pre = (ixL ls).take k) ls.length false W := by
  intro l J Jx hJ hJx hY h0 _
  replace hJ := Lib.hid hJ
  replace hY := Lib.hid hY
  replace hr := Lib.hid hr
  replace h0 := Lib.hid h0
  refine callsIn_of_wp Tryz.func107 rfl trivial ?_ rfl
  simp only [Tryz.ntmps107, List.size_toArray, List.length_cons, List.length_nil, Nat.reduceAdd, Nat.reduceSub, Array.replicate_succ, Array.replicate_zero, List.push_toArray, List.append_toArray, List.nil_append, List.cons_append]
  gi_wp2
  gi_loopw [7] (fun iv wr => ∃ k : Nat, k ≤ ls.length ∧ iv = .int .i64 k ∧ Hid (J (fun _ => False) ((ixL ls).take k) wr) ∧ Hid (Keep (RdR a ls) W wr)) (fun iv _ => ls.length - (intOf iv).toNat)
  case atStart => exact ⟨0, by omega, rfl, h0, Lib.hid (Keep.refl _ _)⟩
  case round =>
    obtain ⟨k, hk, rfl, hJs, hkp⟩ := hrel
    by_cases hlt : k < ls.length
    · have hltI : (k : Int) < ls.length := by omega
      have hrk := rowV_keep hr.out hkp.out
      obtain ⟨b, o, rfl, hc⟩ := hrk k (by simpa using hlt)
      have hpre : Hid ((ixL ls).take (k + 1) = (ixL ls).take k ++ [(k, ls[k])]) := Lib.hid (by rw [List.take_succ_eq_append_getElem (by rw [ixL_len]; exact hlt), ixL_get ls k hlt])
      have hpl : ((ixL ls).take k).length < ls.length := by rw [List.length_take, ixL_len]; omega
      have hwi : IntKind.i64.wrap ((k : Int) + 1) = (k : Int) + 1 := by simp [IntKind.wrap, IntKind.bits, IntKind.signed]; omega
      rw [List.getElem_map] at hc
      generalize ls[k] = s at *
      have hc0 : wr.cell? ⟨b, o + k, none⟩ = some (.string ⟨s.toArray⟩) := hc
      obtain ⟨fn, tmps, assign, body, hy, hR⟩ := hY.out (fun _ => False) ((ixL ls).take k) (k, s) wr (fun k h => h.elim) hJs.out hpl ⟨k + 1, by omega, hpre.out.symm⟩
      replace hR := Lib.hid hR
      unfold encL at hy
      clear hc hrk
      gi_wp2
      refine ⟨rfl, hR.out.mono ?_⟩
      rintro e W3 (⟨rfl, hJ3, hk3⟩ | ⟨rfl, hJx3, hk3⟩)
      · have hkw : Keep (RdR (some ⟨b, o, none⟩) ls) W W3 := hkp.out.trans (hk3.mono fun k _ h => .inr h)
        replace hJ3 := Lib.hid hJ3
        replace hkw := Lib.hid hkw
        gi_wp2
        exact ⟨⟨k + 1, by omega, by first | rfl | simp, Lib.hid (by rw [hpre.out]; exact hJ3.out), hkw⟩, by simp [intOf]; omega⟩
      · gi_wp2
        refine bodyPost_ret (results_none rfl _ _ _) rfl ?_
        exact ⟨⟨_, rfl⟩, .inr ⟨_, _, ⟨k + 1, by omega, hpre.out.symm⟩, fun k h => h.elim, hJx3⟩⟩
    · have hkn : k = ls.length := by omega
      subst hkn
      have hJ4 := hJs.out
      rw [List.take_of_length_le (by rw [ixL_len]; exact Nat.le_refl _)] at hJ4
      clear hlt hJs
      replace hJ4 := Lib.hid hJ4
      gi_wp2
      go_end0
      exact ⟨⟨_, rfl⟩, .inl ⟨_, _, rfl, fun k h => h.elim, hJ4.out⟩⟩
theorem all_any (a : Option Addr) (n c : Nat) (w : World) : Calls Tryz.prog 69 #[.slice a n c] w fun e w' => e = .returned (.func (.func 107) #[] #[.pointer (some ⟨w.heap.size, 0, none⟩)]) ∧ w.alloc (.cells #[.slice a n c] 71) = w' := by
  have hmk : ∀ (fn : Fn) (first cap : Array Value) (w : World), (Instr.makeFunc fn first cap).run Tryz.prog w = .ok (.func fn first cap) w := fun _ _ _ _ => rfl
  go_enter Tryz.func69, Tryz.ntmps69
  go_wp2
  go_ret
  exact ⟨rfl, rfl⟩
end Go.Proofs.YthpallkphamobaaGreatDoor
namespace Go.Proofs.YthpallkphamobaaGreatDoor
open Go.RowKit Go.Shelf
attribute [local go_sem] Oper.semAt_some

set_option maxRecDepth 100000 in
set_option maxHeartbeats 2000000 in
theorem lines_seq (ls : List (List UInt8)) (bx : Nat) (a : Option Addr) (c : Nat) (W : World) (hx : W.cell? ⟨bx, 0, none⟩ = some (.slice a ls.length c)) (hr : RowV W a (ls.map strL)) (hl : ls.length ≤ 1000000) :
    SeqP Tryz.prog 68 #[.pointer (some ⟨bx, 0, none⟩)] encL (RdR a ls) (fun xs => xs = ixL ls) (fun pre => ∃ k, k ≤ ls.length ∧ pre = (ixL ls).take k) ls.length false W := by
  intro l J Jx hJ hJx hY h0 _
  have by0 : Box (W.alloc (.cells #[.func (.yield l) #[] #[]] 123)) W.heap.size (.func (.yield l) #[] #[]) 123 := Box.new W _ _
  have hb0 : Below W.heap.size W (W.alloc (.cells #[.func (.yield l) #[] #[]] 123)) := xalloc (xrefl W) _
  have hx0 := cbel hb0 hx
  have hrl := Lib.hid fun k (hk : RdR a ls k) => rdR_lt hr hk
  replace hJ := Lib.hid hJ
  replace hJx := Lib.hid hJx
  replace hY := Lib.hid hY
  replace h0 := Lib.hid h0
  replace by0 := Lib.hid by0
  have hr0 := Lib.hid (hr.below hb0)
  replace hb0 := Lib.hid hb0
  clear hx hr
  refine callsIn_of_wp_marks Tryz.func68 rfl trivial ?_ rfl
  simp only [Tryz.ntmps68, List.size_toArray, List.length_cons, List.length_nil, Nat.reduceAdd, Nat.reduceSub, Array.replicate_succ, Array.replicate_zero, List.push_toArray, List.append_toArray, List.nil_append, List.cons_append]
  refine wpIn_wide.2 ?_
  go_wp2_with fail
  go_step3
  go_wp2_with fail
  go_step3
  generalize W.alloc (.cells #[.func (.yield l) #[] #[]] 123) = w0 at *
  have hz0 := hb0.out.size
  have hy0 := by0.out.lt
  go_wp2_with fail
  refine (all_any _ _ _ _).mono ?_
  rintro e w4 ⟨rfl, hw4⟩
  replace hw4 := Lib.hid hw4
  go_wp2_with fail
  have hw4b := xalloc (xrefl w0) (Obj.cells #[.slice a ls.length c] 71)
  have hby := boxed_cell (World.alloc_heap_new w0 (Obj.cells #[.slice a ls.length c] 71))
  rw [hw4.out] at hw4b hby
  obtain ⟨B, hB⟩ : ∃ B, B = W.heap.size := ⟨_, rfl⟩
  have hxW4 : Below W.heap.size W w4 := xtrans hb0.out hw4b
  have by4 := by0.out.below hw4b
  have hr4 := hr0.out.below hw4b
  have hBM : B ≤ w4.heap.size := by have := hxW4.size; omega
  have hBl := by4.lt
  have hrl4 : ∀ k, RdR a ls k → k < B := fun k hk => by rw [hB]; exact hrl.out k hk
  have h04 : J (fun k => False ∨ (B ≤ k ∧ k < w4.heap.size)) [] w4 := hJ.out _ _ _ W w4 h0.out (fun k h => h.elim) (Below.only hxW4) (fun k h => h.elim (fun h => h.elim) (fun h => .inr (by omega)))
  rw [← hB] at by4 hBl hJ hJx hY ⊢
  replace hr4 := Lib.hid hr4
  replace hby := Lib.hid hby
  replace by4 := Lib.hid by4
  replace h04 := Lib.hid h04
  replace hrl4 := Lib.hid hrl4
  have fF : Fac (· = B) (fun W => Box W B (.func (.yield l) #[] #[]) 123) := Fac.box _ _ _
  clear hxW4 hw4b hw4 hb0 by0 h0 hr0 hrl
  replace hB := Lib.hid hB
  refine (wpIn_wide (n := 0)).1 ?_
  refine wp_rangeP (gf := 107) (lb := #[.pointer (some ⟨w0.heap.size, 0, none⟩)]) rfl (enters_of Tryz.func107 (by kernel_rfl) rfl) (encs := encL) (Rd := RdR a ls)
    (S := fun xs => xs = ixL ls) (Sp := fun pre => ∃ k, k ≤ ls.length ∧ pre = (ixL ls).take k) (N := ls.length) (inf := false) (fun k h => by have := hrl4.out k h; omega)
    (fun W1 hb1 => all_seq ls _ a c W1 (cbel hb1 hby.out) (hr4.out.below hb1) hl) (fun x => rfl) (NI J B w4.heap.size (fun W => Box W B (.func (.yield l) #[] #[]) 123)) (NX Jx B w4.heap.size (.exit 0)) (ni_stable hJ.out hBM fF (fun k e => by rw [e]; exact hBl)) (nx_stable hJx.out hBM) ⟨h04.out, by4.out⟩ (fun h => by cases h) ?round ?done ?stop
  case round =>
    rintro l1 O pre x W1 hOl hO ⟨hJ1, hF1⟩ hlen hsp
    unfold encL
    gi_wp2
    refine ⟨Keep.refl _ _, fun W2 hon => ?_⟩
    have hJ2 : J (fun k => O k ∨ (B ≤ k ∧ k < w4.heap.size)) pre W2 := ni_J hJ.out hBM hJ1 (fun k h => (hO k h).1) (hon.mono fun k _ e => by rw [e]; exact hOl) (fun k h => .inl h)
    have hF2 := hF1.only hon (fun e => by have := (hO l1 hOl).1; omega)
    have hs2 := hon.size
    have hM2 : w4.heap.size ≤ W2.heap.size := by have := (hO l1 hOl); omega
    have hO2 : ∀ k, O k → w4.heap.size ≤ k ∧ k < W2.heap.size := fun k h => by have := hO k h; omega
    have hO3 : ∀ k, (O k ∨ (B ≤ k ∧ k < w4.heap.size)) → B ≤ k ∧ k < W2.heap.size := fun k h => by
      rcases h with h | h
      · have := hO2 k h; omega
      · omega
    obtain ⟨fnc, tmps, assign, body, hy, hR⟩ := hY.out (fun k => O k ∨ (B ≤ k ∧ k < w4.heap.size)) pre x W2 hO3 hJ2 hlen hsp
    have cy := hF2.cell
    replace hF2 := Lib.hid hF2
    replace hO2 := Lib.hid hO2
    replace hO3 := Lib.hid hO3
    replace hR := Lib.hid hR
    clear hJ1 hF1 hon hO hJ2 hsp
    unfold encL at hy
    gi_wp2
    refine ⟨rfl, hR.out.mono ?_⟩
    clear hR hy
    rintro e W5 (⟨rfl, hJ5, hk5⟩ | ⟨rfl, hJx5, hk5⟩)
    · have hF5 := fF.keep hF2.out hk5 (fun k e => .inl (.inr (by omega)))
      have hkw : Keep (fun k => O k ∨ RdR a ls k) W2 W5 := hk5.mono fun k _ h => h.elim (fun h => .inl (.inl h)) .inr
      replace hJ5 := Lib.hid hJ5
      replace hF5 := Lib.hid hF5
      replace hkw := Lib.hid hkw
      clear hk5
      gi_wp2
      exact ⟨hkw.out, hJ5.out, hF5.out⟩
    · have hkw : Keep (fun k => O k ∨ RdR a ls k) W2 W5 := hk5.mono fun k _ h => h.elim (fun h => .inl (.inl h)) .inr
      replace hJx5 := Lib.hid hJx5
      replace hkw := Lib.hid hkw
      clear hk5
      gi_wp2
      exact ⟨hkw.out, rfl, hJx5.out⟩
  case done =>
    rintro D xs O W1 hD hOD hO hS ⟨h1, h2⟩ hK
    replace h1 := Lib.hid h1
    replace h2 := Lib.hid h2
    replace hS := Lib.hid hS
    gi_wp2
    rw [Exit.noGoto_normal]
    refine ⟨by simp, .inl ⟨_, _, rfl, run_takeDeferred hK, ?_⟩⟩
    have hput := (Only.refl O W1).putObj D (.deferred none) hOD
    refine ⟨_, results_none rfl _ _ _, ⟨_, rfl⟩, .inl ⟨_, _, hS.out, fun k h => ?_, ni_J hJ.out hBM h1.out hO hput (fun k h => .inl h)⟩⟩
    have := hB.out
    rcases h with h | h
    · have := hO k h; omega
    · omega
  case stop =>
    rintro D c pre O W1 hD hOD hO hSp ⟨rfl, hj⟩ hK
    replace hj := Lib.hid hj
    replace hSp := Lib.hid hSp
    gi_wp2
    rw [Exit.noGoto_normal]
    refine ⟨by simp, .inl ⟨_, _, rfl, run_takeDeferred hK, ?_⟩⟩
    have hput := (Only.refl O W1).putObj D (.deferred none) hOD
    refine ⟨_, results_none rfl _ _ _, ⟨_, rfl⟩, .inr ⟨_, _, hSp.out, fun k h => ?_, ni_J hJx.out hBM hj.out hO hput (fun k h => .inl h)⟩⟩
    have := hB.out
    rcases h with h | h
    · have := hO k h; omega
    · omega
end Go.Proofs.YthpallkphamobaaGreatDoor
namespace Go.Proofs.YthpallkphamobaaGreatDoor
open Go.RowKit Go.Shelf
attribute [local go_sem] Oper.semAt_some

/-- The lines of a policy that may be. -/
def linesG (p : PolN) : List (List UInt8) := if checkF p = 0 then linesF p else []
theorem linesF_len (p : PolN) : (linesF p).length = 1 + (p.clears.length + p.rels.length) := by
  rw [linesF_eq]; simp; omega
theorem linesG_len (p : PolN) : (linesG p).length ≤ 1 + (p.clears.length + p.rels.length) := by
  unfold linesG
  split
  · rw [linesF_len]; exact Nat.le_refl _
  · simp
/-- What Lines tells: a function over a new box, whose row is new too. -/
def LinG (N : Nat) (ls : List (List UInt8)) (v : Value) (W : World) : Prop :=
  ∃ b a c, v = .func (.func 68) #[] #[.pointer (some ⟨b, 0, none⟩)] ∧ W.cell? ⟨b, 0, none⟩ = some (.slice a ls.length c) ∧ RowV W a (ls.map strL) ∧ N ≤ b ∧ ∀ y, a = some y → N ≤ y.block
theorem own_row {w : World} {base n : Nat} {v : Value} {ls : List (List UInt8)} (h : w.ownsRow base 9 1 v n (ls.map strL)) : ∃ a c, v = .slice a ls.length c ∧ RowV w a (ls.map strL) ∧ ∀ y, a = some y → base ≤ y.block := by
  have hn : ls.length = n := by have := h.1; simpa using this
  rcases h.2 with ⟨rfl, h0⟩ | ⟨g, cap, cur, rfl, hb, hg, r⟩
  · have : ls = [] := by rw [← List.length_eq_zero_iff]; omega
    subst this
    exact ⟨none, 0, rfl, fun i hi => by simp at hi, fun y e => by cases e⟩
  · refine ⟨_, cap, by rw [hn], fun i hi => ⟨g, 0, rfl, ?_⟩, fun y e => by cases e; exact hb⟩
    have := h.cells (g := g) rfl i _ (List.getElem?_eq_getElem hi)
    rwa [addr_add] at this
set_option maxRecDepth 100000 in
set_option maxHeartbeats 4000000 in
theorem linesO_any (p : PolN) (pa pb : Option Addr) (pc pd : Nat) (w : World) (hp : PolAt w p pa pc pb pd) (hT : TabP w) (hl1 : p.clears.length ≤ 1000) (hl2 : p.rels.length ≤ 1000) :
    Calls Tryz.prog 36 #[polV p pa pc pb pd] w fun e w' => (∃ v, e = .returned v ∧ LinG w.heap.size (linesG p) v w') ∧ Below w.heap.size w w' := by
  have hmk : ∀ (fn : Fn) (first cap : Array Value) (w : World), (Instr.makeFunc fn first cap).run Tryz.prog w = .ok (.func fn first cap) w := fun _ _ _ _ => rfl
  obtain ⟨w2, hw2⟩ : ∃ w2, (w.alloc (.cells #[labV p.dflt, .slice pa p.clears.length pc, .slice pb p.rels.length pd] 27)).alloc (.cells #[.slice none 0 0] 71) = w2 := ⟨_, rfl⟩
  have hb2 : Below w.heap.size w w2 := hw2 ▸ xalloc (xalloc (xrefl w) _) _
  have hz2 : w2.heap.size = w.heap.size + 2 := by rw [← hw2]; simp
  have hP : BlkG w2 w.heap.size 27 [labV p.dflt, .slice pa p.clears.length pc, .slice pb p.rels.length pd] := hw2 ▸ (BlkG.new w _ _).below (xalloc (xrefl _) _)
  have hE : BlkG w2 (w.heap.size + 1) 71 [.slice none 0 0] := by
    have := BlkG.new (w.alloc (.cells #[labV p.dflt, .slice pa p.clears.length pc, .slice pb p.rels.length pd] 27)) 71 [.slice none 0 0]
    rw [World.size_alloc] at this
    exact hw2 ▸ this
  have hck := Lib.hid (check_any p pa pb pc pd w2 (hp.below hb2) (by omega) (by omega))
  have hPr := Lib.hid (BlkG.range hP)
  have hpl := Lib.hid fun W (h : Below w2.heap.size w2 W) => lines_any p pa pb pc pd W (hp.below (xtrans hb2 h)) (hT.below (xtrans hb2 h)) hl1 hl2
  have hck0 := Lib.hid (show linesG p = if checkF p = 0 then linesF p else [] from rfl)
  replace hb2 := Lib.hid hb2
  replace hE := Lib.hid hE
  replace hP := Lib.hid hP
  clear hp hT
  unfold polV at hck hpl ⊢
  go_enter Tryz.func36, Tryz.ntmps36
  generalize hn : checkF p = n at *
  obtain ⟨L, hL⟩ : ∃ L, L = linesG p := ⟨_, rfl⟩
  rw [← hL] at hck0 ⊢
  replace hn := Lib.hid hn
  have cE := hE.out.cell 0 (by simp)
  simp only [List.getElem_cons_zero] at cE
  have hCk := Lib.hid fun W (h : Below w2.heap.size w2 W) => cbel h cE
  have hE3 := Lib.hid fun W (h : Below w2.heap.size w2 W) => hE.out.below h
  clear cE
  by_cases h0 : n = 0
  · subst h0
    have hLL : L = linesF p := by rw [hck0.out, if_pos rfl]
    replace hLL := Lib.hid hLL
    clear hck0 hL
    go_wp2_with (first
      | (refine wpList_load_mid rfl 27 _ rfl w.heap.size 0 rfl [labV p.dflt, .slice pa p.clears.length pc, .slice pb p.rels.length pd] _ hPr.out Tryz.underlying27 rfl (by kernel_rfl) ?_)
      | (go_at_call 14; refine hck.out.mono ?_; rintro e w3 ⟨rfl, hb3⟩; have hPr3 := Lib.hid ((hP.out.below hb3).range); replace hb3 := Lib.hid hb3; clear hPr)
      | (refine wpList_load_mid rfl 27 _ rfl w.heap.size 0 rfl [labV p.dflt, .slice pa p.clears.length pc, .slice pb p.rels.length pd] _ hPr3.out Tryz.underlying27 rfl (by kernel_rfl) ?_)
      | (go_at_call 67; refine (hpl.out _ hb3.out).mono ?_; rintro e w4 ⟨⟨v, rfl, ho⟩, hb4⟩; have hb24 := xtrans hb3.out hb4; have hE4 := hE3.out _ hb24; rw [← hLL.out] at ho; have hoz := hb3.out.size; obtain ⟨a, c, rfl, hrow, hge⟩ := own_row ho; have cE4 := hE4.cell 0 (by simp); simp only [List.getElem_cons_zero] at cE4; have fE4 := hE4.free 0; replace hE4 := Lib.hid hE4; replace hb24 := Lib.hid hb24; replace hrow := Lib.hid hrow; replace hge := Lib.hid hge; clear ho hb4))
    go_ret
    have hE5 := hE4.out.set 0 (.slice a L.length c)
    have cE5 := hE5.cell 0 (by simp)
    simp only [List.set_cons_zero, List.getElem_cons_zero] at cE5
    have hon : Only (· = w.heap.size + 1) w4 (w4.setCell ⟨w.heap.size + 1, 0, none⟩ (.slice a L.length c)) := (Only.refl _ _).setCell _ _ rfl
    have hb := xtrans hb2.out hb24.out
    refine ⟨⟨_, rfl, _, _, _, rfl, cE5, fun i hi => ?_, by omega, fun y e => ?_⟩, hon.below hb hb.size (by rintro j rfl; omega)⟩
    · obtain ⟨b, o, e, hc⟩ := hrow.out i hi
      have hbk : w3.heap.size + 1 ≤ b := hge.out _ e
      have hl := cell_lt hc
      refine ⟨b, o, e, (World.cell?_of_block (hon.same _ hl ?_)).trans hc⟩
      intro e2
      have : b = w.heap.size + 1 := e2
      omega
    · have := hge.out y e
      omega
  · have hLL : L = [] := by rw [hck0.out, if_neg h0]
    subst hLL
    have h1 : ((n : Int) == 0) = false := by rw [beq_eq_false_iff_ne]; omega
    clear hck0 hL
    go_wp2_with (first
      | (refine wpList_load_mid rfl 27 _ rfl w.heap.size 0 rfl [labV p.dflt, .slice pa p.clears.length pc, .slice pb p.rels.length pd] _ hPr.out Tryz.underlying27 rfl (by kernel_rfl) ?_)
      | (go_at_call 14; refine hck.out.mono ?_; rintro e w3 ⟨rfl, hb3⟩; replace hb3 := Lib.hid hb3; clear hPr))
    go_ret
    exact ⟨⟨_, rfl, _, _, _, rfl, hCk.out _ hb3.out, fun i hi => by simp at hi, by omega, fun y e => by cases e⟩, xtrans hb2.out hb3.out⟩
end Go.Proofs.YthpallkphamobaaGreatDoor
namespace Go.Proofs.YthpallkphamobaaGreatDoor
open Go.RowKit Go.Shelf

/-- A builder whose own blocks are none of S. -/
def BldS (S : Nat → Prop) (B b : Nat) (bs : List Value) (w : World) : Prop := ¬ S b ∧ Bld B b bs w ∧ ∀ v, w.cell? ⟨b, 1, none⟩ = some v → ∀ g, v.ownBlock = some g → ¬ S g
theorem run_append_string_blk {P : Program} (w : World) (base : Nat) (t u ty e : TypeId) (i : TypeInfo) (ht : P.underlying t = some (.slice e)) (hu : P.underlying u = some .string) (hi : P.info? e = some i) (hz : i.zero = some (.int .u8 0))
    (hsize : i.size = 1) (hby : i.bytes = 1) (v : Value) (n : Nat) (xs : List Value) (hown : w.ownsRow base e 1 v n xs) (s : ByteArray) (h63 : n + s.size ≤ maxLen) (hbytes : n + s.size ≤ 140737488355328) (hbase : base ≤ w.heap.size) :
    ∃ v' w', (Builtin.append_ #[t, u] ty #[v, .string s]).run P w = .ok v' w' ∧ w'.ownsRow base e 1 v' (n + s.size) (xs ++ Lib.strCells s) ∧ w.grownBy w' v.ownBlock ∧ (v'.ownBlock = v.ownBlock ∨ ∀ k, v'.ownBlock = some k → w.heap.size ≤ k) := by
  obtain ⟨v', w', hr, h2, h3, h4⟩ := Lib.run_append_own_string (P := P) w base t u ty e i ht hu hi hz hsize hby v n xs hown s h63 hbytes hbase
  refine ⟨v', w', hr, h2, h3, ?_⟩
  rcases hown.2 with ⟨rfl, h0⟩ | ⟨g, cap, cur, rfl, hbg, hg, hnc, hcm, hcs, htake⟩
  · have hx : xs = [] := by have := hown.1; rw [h0] at this; exact List.eq_nil_of_length_eq_zero (by simpa using this)
    subst hx h0
    obtain ⟨v2, w2, hr2, h22, -, -⟩ := Lib.run_append_own_string (P := P) w w.heap.size t u ty e i ht hu hi hz hsize hby (.slice none 0 0) 0 [] (World.ownsRow_nil _ _ _ _) s h63 hbytes (Nat.le_refl _)
    rw [hr] at hr2
    injection hr2 with e1 e2
    subst e1 e2
    exact .inr fun k hk => (own_lt h22 hk).1
  · have hxl : xs.length = n := by simpa using hown.1
    have hcs' : cur.size = cap := by simpa using hcs
    by_cases hroom : n + s.size ≤ cap
    · have hr2 := Lib.run_append_room_string (P := P) w t u ty e i ht hu hi hsize g n cap cur hg s hroom (by omega)
      rw [hr] at hr2
      injection hr2 with e1 e2
      subst e1
      exact .inl rfl
    · have holds : ∀ j u, xs[j]? = some u → w.cell? ((⟨g, 0, none⟩ : Addr).add j) = some u := hown.cells (g := g) rfl
      have hr2 := Lib.run_append_grow_string (P := P) w t u ty e i (.int .u8 0) ht hu hi hz ⟨g, 0, none⟩ n cap xs (by rw [hsize]; simpa using hxl) holds s (by omega) (by omega) (by rw [hby]; exact growslice_fits (by omega) (by omega))
      rw [hr] at hr2
      injection hr2 with e1 e2
      subst e1
      exact .inr fun k hk => by
        have : w.heap.size = k := by simpa [Value.ownBlock] using hk
        omega
theorem wpList_append_stringB {P : Program} {ops : Array Oper} {rest : List Oper} {o : Oper} {a : Act} {Q : Exit → Act → World → Prop} {w : World} (hgd : o.guard = none) (sl x : Operand) (t u : TypeId)
    (ho : o.op = .call { callee := .builtin .append, args := #[sl, x], argTypes := #[t, u] })
    (base : Nat) (e : TypeId) (i : TypeInfo) (ht : P.underlying t = some (.slice e)) (hu : P.underlying u = some .string) (hi : P.info? e = some i) (hz : i.zero = some (.int .u8 0))
    (hsize : i.size = 1) (hby : i.bytes = 1)
    (v : Value) (n : Nat) (xs : List Value) (hs : a.eval sl = v) (hown : w.ownsRow base e 1 v n xs) (s : ByteArray) (hx : a.eval x = .string s)
    (h63 : n + s.size ≤ maxLen) (hbytes : n + s.size ≤ 140737488355328) (hbase : base ≤ w.heap.size)
    (h : ∀ v' w', w'.ownsRow base e 1 v' (n + s.size) (xs ++ Lib.strCells s) → w.grownBy w' v.ownBlock → (v'.ownBlock = v.ownBlock ∨ ∀ k, v'.ownBlock = some k → w.heap.size ≤ k) → wpList P ops Q rest (a.put o.dst v') w') : wpList P ops Q (o :: rest) a w := by
  refine wpList_plain hgd fun K hK => ?_
  obtain ⟨v', w', hr, h2, h3, h4⟩ := run_append_string_blk (P := P) w base t u o.type e i ht hu hi hz hsize hby v n xs hown s h63 hbytes hbase
  unfold Oper.wp execOp
  simp only [ho, resolve, invoke, builtin, Sem.run_bind, Sem.run_pure, Result.andThen_ok, List.map_toArray, List.map_cons, List.map_nil, hs, hx, hr]
  exact hK _ _ (h v' w' h2 h3 h4)
theorem bldCheckO_any (B b : Nat) (bs : List Value) (w : World) (h : Bld B b bs w) :
    Calls Tryz.prog 92 #[.pointer (some ⟨b, 0, none⟩)] w fun e w' => e = .returned (.tuple #[]) ∧ BldAt B b (.pointer (some ⟨b, 0, none⟩)) bs w' ∧ Below B w w' ∧ Only (· = b) w w' ∧ w'.cell? ⟨b, 1, none⟩ = w.cell? ⟨b, 1, none⟩ := by
  rcases h with h | h
  · refine (bldCheck_fresh b w h.cell0 h.shape h.frozen0).mono ?_
    rintro e w' ⟨rfl, rfl⟩
    refine ⟨rfl, h.used _, (Below.refl B w).setCell (p := ⟨b, 0, none⟩) h.1 _, (Only.refl _ _).setCell _ _ rfl, ?_⟩
    obtain ⟨-, v, hbk, -⟩ := h
    have e2 : (w.setCell ⟨b, 0, none⟩ (.pointer (some ⟨b, 0, none⟩))).heap[b]? = some (.cells #[.pointer (some ⟨b, 0, none⟩), v] 95 (0, 0)) := by
      simp [World.setCell, Array.getElem?_modify, hbk]
    rw [Lib.cell_of_heap hbk, Lib.cell_of_heap e2]
    rfl
  · refine (bldCheck_used b w h.cell0).mono ?_
    rintro e w' ⟨rfl, rfl⟩
    exact ⟨rfl, h, Below.refl B _, Only.refl _ _, rfl⟩
set_option maxHeartbeats 4000000 in
set_option maxRecDepth 100000 in
theorem bldStrS_any (S : Nat → Prop) (B b : Nat) (bs : List Value) (s : ByteArray) (w : World) (h : BldS S B b bs w) (hlen : bs.length + s.size ≤ 140737488355328) (hBw : B ≤ w.heap.size) (hS : ∀ k, S k → k < w.heap.size) :
    Calls Tryz.prog 50 #[.pointer (some ⟨b, 0, none⟩), .string s] w fun e w' => e = .returned (.tuple #[.int .i64 s.size, .nilIface]) ∧ BldS S B b (bs ++ Lib.strCells s) w' ∧ Below B w w' ∧ Keep S w w' := by
  obtain ⟨i0, hi, hz0, hz1, hz2⟩ := info_parts bld_infoB
  obtain ⟨hSb, hB0, hSv⟩ := h
  have hck := Lib.hid (bldCheckO_any B b bs w hB0)
  replace hSv := Lib.hid hSv
  clear hB0
  go_enter Tryz.func50, Tryz.ntmps50
  go_wp2_with (go_at_call 92; refine hck.out.mono ?_)
  rintro e w1 ⟨rfl, h1, hb1, ho1, he1⟩
  obtain ⟨v, hbk, hown, hne, hB⟩ := h1.open
  have c1 : w1.cell? ⟨b, 1, none⟩ = some v := by rw [Lib.cell_of_heap hbk]; rfl
  have hSg := hSv.out v (by rw [← he1]; exact c1)
  replace hSg := Lib.hid hSg
  replace ho1 := Lib.hid ho1
  clear he1 hSv
  go_wp2_with (at_builtin; refine wpList_append_stringB rfl _ _ 93 9 rfl B 5 i0 Tryz.underlying93 Tryz.underlying9 hi hz0 hz1 hz2 _ _ _ rfl hown s rfl ?c3 ?c4 ?c5 ?_)
  case c3 => unfold maxLen; omega
  case c4 => omega
  case c5 => have := hb1.size; omega
  intro v' w2 hown' hgrow hvb
  have hb2 : w2.heap[b]? = some (.cells #[.pointer (some ⟨b, 0, none⟩), v] 95 (0, 0)) := by
    rw [hgrow.block b h1.lt (fun e => hne e.symm)]
    exact hbk
  have d1 : w2.cell? ⟨b, 1, none⟩ = some v := by rw [Lib.cell_of_heap hb2]; rfl
  have f1 : w2.frozen? ⟨b, 1, none⟩ = false := Lib.frozen_of_heap hb2 1
  obtain ⟨ao, n', cap, rfl⟩ : ∃ ao n' cap, v' = .slice ao n' cap := by
    rcases hown'.2 with ⟨hv, _⟩ | ⟨g, cap, cur, hv, _⟩
    · exact ⟨none, 0, 0, hv⟩
    · exact ⟨_, _, _, hv⟩
  replace hvb := Lib.hid hvb
  go_wp2
  go_ret2
  have hput := Lib.BuilderAt.put (T := 95) (e := 5) hB hb2 (bs' := bs ++ Lib.strCells s) (by rw [List.length_append, Lib.strCells_length]; exact hown') (by decide)
  have hw1 := ho1.out.size
  refine ⟨rfl, ⟨hSb, .inr hput, fun u hu g hg => ?_⟩, ?_, ?_⟩
  · have e3 : (w2.setCell ⟨b, 1, none⟩ (.slice ao n' cap)).heap[b]? = some (.cells #[.pointer (some ⟨b, 0, none⟩), .slice ao n' cap] 95 (0, 0)) := by
      simp [World.setCell, Array.getElem?_modify, hb2]
    rw [Lib.cell_of_heap e3] at hu
    have e4 : Value.slice ao n' cap = u := by simpa using hu
    subst e4
    intro hsg
    rcases hvb.out with e | e
    · exact hSg.out g (by rw [← e]; exact hg) hsg
    · have := e g hg; have := hS g hsg; omega
  · exact (hb1.grown hgrow (by have := hb1.size; omega) (fun k hk => (hown.lt k hk).1)).setCell (p := ⟨b, 1, none⟩) hB _
  · have hon : Only (· = b) w2 (w2.setCell ⟨b, 1, none⟩ (.slice ao n' cap)) := (Only.refl _ _).setCell _ _ rfl
    refine ⟨Nat.le_trans hw1 (Nat.le_trans hgrow.size hon.size), fun k hk hs => ?_⟩
    have hkb : k ≠ b := fun e => hSb (e ▸ hs)
    rw [hon.same k (by have := hgrow.size; omega) hkb, hgrow.block k (by omega) (fun e => hSg.out k e.symm hs), ho1.out.same k hk hkb]
theorem freeze_only {O : Nat → Prop} {W W' : World} (h : Only O W W') {q : Addr} (hq : O q.block) (n : Nat) : Only O W (W'.freeze q n) := by
  have key : ∀ k, k ≠ q.block → (W'.freeze q n).heap[k]? = W'.heap[k]? := by
    intro k hk
    unfold World.freeze
    split
    · rfl
    · simp only [Array.getElem?_modify]
      rw [if_neg (fun e => hk e.symm)]
  have hsz : (W'.freeze q n).heap.size = W'.heap.size := by
    unfold World.freeze
    split
    · rfl
    · simp
  have h1 : (W'.freeze q n).os = W'.os := by unfold World.freeze; split <;> rfl
  have h2 : (W'.freeze q n).tape = W'.tape := by unfold World.freeze; split <;> rfl
  have h3 : (W'.freeze q n).output = W'.output := by unfold World.freeze; split <;> rfl
  exact ⟨h1.trans h.os, h2.trans h.tape, h3.trans h.output, by rw [hsz]; exact h.size, fun k hk hn => (key k (fun e => hn (e ▸ hq))).trans (h.same k hk hn)⟩
set_option maxHeartbeats 4000000 in
set_option maxRecDepth 100000 in
theorem bldStringS_any (S : Nat → Prop) (B b : Nat) (l : List UInt8) (w : World) (h : BldS S B b (Lib.byteCells l) w) (hBw : B ≤ w.heap.size) (hS : ∀ k, S k → k < w.heap.size) (h63 : l.length ≤ 140737488355328) :
    Calls Tryz.prog 52 #[.pointer (some ⟨b, 0, none⟩)] w fun e w' => e = .returned (.string ⟨l.toArray⟩) ∧ Below B w w' ∧ Keep S w w' := by
  obtain ⟨hSb, hB0, hSv⟩ := h
  obtain ⟨p, hB, v, hbk, hown, hne⟩ : ∃ p, BldAt B b p (Lib.byteCells l) w := hB0.elim (fun h => ⟨_, h⟩) (fun h => ⟨_, h⟩)
  have hvS := hSv v (by rw [Lib.cell_of_heap hbk]; rfl)
  by_cases h0 : l = []
  · subst h0
    have key : Calls Tryz.prog 52 #[.pointer (some ⟨b, 0, none⟩)] w fun e w' => e = .returned (.string ⟨#[]⟩) ∧ Below w.heap.size w w' := by
      rcases hown.2 with ⟨rfl, -⟩ | ⟨g, cap, cur, rfl, -, hg, -⟩
      · exact Any.Builder_String_nil Tryz.lays169 Tryz.Builder_Extra_169 w.heap.size b p w hbk
      · by_cases hc0 : cap = 0
        · subst hc0
          exact Any.Builder_String_noroom Tryz.lays169 Tryz.Builder_Extra_169 w.heap.size b g p cur w (Nat.le_refl _) hbk hg
        · exact Any.Builder_String_room Tryz.lays169 Tryz.Builder_Extra_169 w.heap.size b g cap p w hc0 hbk
    exact key.mono fun e w' ⟨h1, h2⟩ => ⟨h1, h2.mono hBw, Below.keep h2⟩
  · obtain ⟨g, cap, cur, rfl, hbg, hg, hnc, hcm, hcs⟩ : ∃ g cap cur, v = .slice (some ⟨g, 0, none⟩) l.length cap ∧ B ≤ g ∧ w.heap[g]? = some (.cells cur 5 (0, 0)) ∧ l.length ≤ cap ∧ cap ≤ maxLen ∧ cur.size = cap := by
      rw [Lib.byteCells_length] at hown
      rcases hown.2 with ⟨-, hz⟩ | ⟨g, cap, cur, hv, h1, h2, h3, h4, h5, -⟩
      · exact absurd (List.eq_nil_of_length_eq_zero hz) h0
      · exact ⟨g, cap, cur, hv, h1, h2, h3, h4, by simpa using h5⟩
    have hl0 : l.length ≠ 0 := fun e => h0 (List.eq_nil_of_length_eq_zero e)
    have hgS := hvS g rfl
    have c1 : w.drew.cell? ⟨b, 1, none⟩ = some (.slice (some ⟨g, 0, none⟩) l.length cap) := by
      have : w.drew.heap[b]? = some (.cells #[p, .slice (some ⟨g, 0, none⟩) l.length cap] 95 (0, 0)) := hbk
      rw [Lib.cell_of_heap this]; rfl
    have hsd := Lib.run_unsafeSliceData_row (P := Tryz.prog) (w := w.drew) #[93] 143 ⟨g, 0, none⟩ l.length cap (by omega)
    have hus := Lib.run_unsafeString_row (P := Tryz.prog) w.drew 143 3 9 5 Tryz.underlying143 (by kernel_rfl) g cur.size (by have hg' : w.drew.heap[g]? = some (.cells cur 5 (0, 0)) := hg; simp [World.shape?, hg']) l h0 (by omega) (by omega)
      (fun j x hx => hown.cells (g := g) rfl j (.int .u8 x.toNat) (by simp [Lib.byteCells, hx]))
    have hfin : Below B w (w.drew.freeze ⟨g, 0, none⟩ l.length) := Lib.below_freeze (Below.drew (Below.refl B w)) (p := ⟨g, 0, none⟩) hbg _
    have hk : Keep S w (w.drew.freeze ⟨g, 0, none⟩ l.length) := by
      have : Only (· = g) w.drew (w.drew.freeze ⟨g, 0, none⟩ l.length) := freeze_only (O := (· = g)) (Only.refl _ _) (q := ⟨g, 0, none⟩) rfl _
      exact ⟨this.size, fun k hk hs => this.same k hk (fun e => hgS (e ▸ hs))⟩
    replace hfin := Lib.hid hfin
    replace hk := Lib.hid hk
    have mixed : Tryz.prog.follows Departure.mixedOrders = true := by kernel_rfl
    clear hown hvS hSv hB0 hcs hg
    go_enter Tryz.func52, Tryz.ntmps52
    go_wp2
    go_region_o
    all_goals (go_wp2; go_ret; exact ⟨rfl, hfin.out, hk.out⟩)
end Go.Proofs.YthpallkphamobaaGreatDoor
