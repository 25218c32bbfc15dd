/- Texts of this claim, merged; no condition. -/
import Derived.Test.YtijkdabmegbcjaaGreatDoorU35
import Derived.Test.YtijkdabmegbcjaaGreatDoorU28
import Derived.Test.YtijkdabmegbcjaaGreatDoorU25
import Derived.Test.YtijkdabmegbcjaaGreatDoorU16
import Derived.Test.YtijkdabmegbcjaaGreatDoorU02
import Derived.ProofKit
import Derived.OpenShut
import Derived.ShutString
import Derived.ChangeOld
import Derived.Below
import Derived.Test.YtijkdabmegbcjaaGreatDoorU00
import Derived.LaidMore
import Derived.Test.YtijkdabmegbcjaaGreatDoorU13
set_option linter.all false
namespace Go.Proofs.YtijkdabmegbcjaaGreatDoor
open Go.RowKit Go.Shelf
attribute [local go_sem] Oper.semAt_some

theorem steps_any (gb : Nat) (n : Int) (w : World) : Calls Tryz.prog 64 #[.pointer (some ⟨gb, 0, none⟩), .int .i64 n] w fun e w' => e = .returned (.func (.func 95) #[] #[.pointer (some ⟨w.heap.size, 0, none⟩), .pointer (some ⟨w.heap.size + 1, 0, none⟩)]) ∧ (w.alloc (.cells #[.pointer (some ⟨gb, 0, none⟩)] 91)).alloc (.cells #[.int .i64 n] 3) = w' := by
  go_enter Tryz.func64, Tryz.ntmps64
  go_wp2
  go_ret
  exact ⟨rfl, rfl⟩
theorem MeetAt.less {lo lo2 : Nat} {w : World} {gb : Nat} {bs : List BlkN} (h : MeetAt lo2 w gb bs) (hl : lo ≤ lo2) : MeetAt lo w gb bs := by
  obtain ⟨hb, F, h⟩ := h
  obtain ⟨E, clk, h1, h2, hp, h3⟩ := h.beh
  refine ⟨hb, F, h.c1, Nat.le_trans hl h.glo, Nat.le_trans hl h.hlo, ⟨E, clk, h1, h2, hp, fun k => ⟨(h3 k).1, fun K hK => ?_⟩⟩, h.ins, h.out⟩
  obtain ⟨b, e1, e2, e3, e4⟩ := (h3 k).2 K hK
  exact ⟨b, e1, e2, Nat.le_trans hl e3, e4⟩
/-- What Line hands back. -/
structure LnAt (bs : List BlkN) (n : Int) (b5 b3 gb lo : Nat) (W0 : World) : Prop where
  c5 : W0.cell? ⟨b5, 0, none⟩ = some (.pointer (some ⟨gb, 0, none⟩))
  c3 : W0.cell? ⟨b3, 0, none⟩ = some (.int .i64 n)
  l5 : lo ≤ b5
  l3 : lo ≤ b3
  m : MeetAt lo W0 gb bs
def LinJ (lo : Nat) (W0 : World) (B l : Nat) (J : (Nat → Prop) → List Nat → World → Prop) (O : Nat → Prop) (pre : List Nat) (W : World) : Prop :=
  J (fun k => O k ∨ (B ≤ k ∧ k < B + 3)) pre W ∧ W.cell? ⟨B, 0, none⟩ = some (.func (.yield l) #[] #[]) ∧ Old lo W0 W
def LinX (B : Nat) (Jx : (Nat → Prop) → List Nat → World → Prop) (c : Code) (O : Nat → Prop) (pre : List Nat) (W : World) : Prop :=
  c = .exit 0 ∧ Jx (fun k => O k ∨ (B ≤ k ∧ k < B + 3)) pre W
theorem linJ_stable (lo : Nat) (W0 : World) (B l : Nat) (J : (Nat → Prop) → List Nat → World → Prop) (hJ : Stable B J) (hB : W0.heap.size ≤ B) : Stable (B + 3) (LinJ lo W0 B l J) := by
  rintro O O' s W W' ⟨h1, h2, h3⟩ hO hon hO'
  have no : ∀ k, k < B + 3 → ¬ O k := fun k hk h => by have := hO k h; omega
  have hs := cell_lt h2
  simp only at hs
  refine ⟨hJ _ _ _ _ _ h1 (fun k h => ?_) (hon.mono fun k _ h => .inl h) (fun k h => ?_), hon.cell h2 (no _ (by simp)), h3.only (by omega) hon (fun k h => by have := hO k h; omega)⟩
  · rcases h with h | h
    · have := hO k h; omega
    · exact h.1
  · rcases h with h | h
    · exact (hO' k h).elim (fun h => .inl (.inl h)) .inr
    · exact .inl (.inr h)
theorem linX_stable (B : Nat) (Jx : (Nat → Prop) → List Nat → World → Prop) (c : Code) (hJ : Stable B Jx) : Stable (B + 3) (LinX B Jx c) := by
  rintro O O' s W W' ⟨hc, h1⟩ hO hon hO'
  refine ⟨hc, hJ _ _ _ _ _ h1 (fun k h => ?_) (hon.mono fun k _ h => .inl h) (fun k h => ?_)⟩
  · rcases h with h | h
    · have := hO k h; omega
    · exact h.1
  · rcases h with h | h
    · exact (hO' k h).elim (fun h => .inl (.inl h)) .inr
    · exact .inl (.inr h)
set_option maxRecDepth 100000 in
set_option maxHeartbeats 4000000 in
theorem line_seq (bs : List BlkN) (D : Nat) (g : Graph bs D) (hl : bs.length ≤ 200) (n : Int) (b5 b3 gb lo : Nat) (W0 W : World) (h : LnAt bs n b5 b3 gb lo W0) (hW : Below W0.heap.size W0 W) :
    SeqP Tryz.prog 63 #[.pointer (some ⟨b5, 0, none⟩), .pointer (some ⟨b3, 0, none⟩)] (fun x : Nat => #[.int .i64 x]) (WkRd lo W0) (fun xs => xs = lineZ bs D n) (fun pre => ∃ k, k ≤ (lineZ bs D n).length ∧ pre = (lineZ bs D n).take k) (lineZ bs D n).length false W := by
  intro l J Jx hJ hJx hY h0 _
  obtain ⟨R, hRe⟩ : ∃ R, lineZ bs D n = R := ⟨_, rfl⟩
  rw [hRe] at hY ⊢
  have hold : Hid (Old lo W0 W) := Lib.hid fun k hk => hW.block k hk.2
  have hsz0 := hW.size
  have hc5 := cbel hW h.c5
  have hc3 := cbel hW h.c3
  have hme := Lib.hid h.m
  clear h hW
  replace hJ := Lib.hid hJ
  replace hJx := Lib.hid hJx
  replace hY := Lib.hid hY
  replace h0 := Lib.hid h0
  refine callsIn_of_wp_marks Tryz.func63 rfl trivial ?_ rfl
  simp only [Tryz.ntmps63, List.size_toArray, List.length_cons, List.length_nil, Nat.reduceAdd, Nat.reduceSub, Array.replicate_succ, Array.replicate_zero, List.push_toArray, List.append_toArray, List.nil_append, List.cons_append]
  gi_wp2
  refine wpIn_scope_wide ?_
  gi_wp2
  refine wpIn_label ?_
  have hc5' := cbel (xalloc (xrefl W) (.cells #[.func (.yield l) #[] #[]] 104)) hc5
  have hc3' := cbel (xalloc (xrefl W) (.cells #[.func (.yield l) #[] #[]] 104)) hc3
  gi_wp2
  refine ⟨trivial, rfl, (callsIn_wide.2 (steps_any gb n _)).mono ?_⟩
  rintro e w' ⟨rfl, rfl⟩
  obtain ⟨Wb, hWb⟩ : ∃ Wb, ((W.alloc (.cells #[.func (.yield l) #[] #[]] 104)).alloc (.cells #[.pointer (some ⟨gb, 0, none⟩)] 91)).alloc (.cells #[.int .i64 n] 3) = Wb := ⟨_, rfl⟩
  have hsb : Wb.heap.size = W.heap.size + 3 := by rw [← hWb]; simp
  have hbb : Below W.heap.size W Wb := by rw [← hWb]; exact xalloc (xalloc (xalloc (xrefl W) _) _) _
  have cY : Wb.cell? ⟨W.heap.size, 0, none⟩ = some (.func (.yield l) #[] #[]) := by rw [← hWb]; simp [go_sem]
  have cG : Wb.cell? ⟨W.heap.size + 1, 0, none⟩ = some (.pointer (some ⟨gb, 0, none⟩)) := by rw [← hWb]; simp [go_sem]
  have cN : Wb.cell? ⟨W.heap.size + 2, 0, none⟩ = some (.int .i64 n) := by rw [← hWb]; simp [go_sem]
  have hOb := hold.out.below hsz0 hbb
  have h00 : LinJ lo W0 W.heap.size l J (fun _ => False) [] Wb := ⟨hJ.out _ _ _ _ _ h0.out (fun k h => h.elim) (Below.only hbb) (fun k h => h.elim (fun h => h.elim) (fun h => .inr h.1)), cY, hOb⟩
  simp only [World.size_alloc]
  rw [hWb]
  clear hWb hc5' hc3' cY
  gi_wp2
  refine wp_rangeP (gf := 95) (lb := #[.pointer (some ⟨W.heap.size + 1, 0, none⟩), .pointer (some ⟨W.heap.size + 2, 0, none⟩)]) rfl (enters_of Tryz.func95 (by kernel_rfl) rfl) (encs := fun x : Nat => #[.int .i64 x]) (Rd := fun k => WkRd lo W0 k ∨ k = W.heap.size + 1)
    (S := fun xs => xs = R) (Sp := fun pre => ∃ k, k ≤ R.length ∧ pre = R.take k) (N := R.length) (inf := false) (fun k h => by rcases h with h | h; have := h.2; omega; omega)
    (fun W1 hb1 => by have := steps_seq bs D g hl n (W.heap.size + 1) (W.heap.size + 2) gb lo W0 W1 hme.out (hOb.below (by omega) hb1) (by have := hb1.size; omega) (cbel hb1 cG) (cbel hb1 cN); rwa [hRe] at this) (fun x => rfl) (LinJ lo W0 W.heap.size l J) (LinX W.heap.size Jx) (by rw [hsb]; exact linJ_stable lo W0 W.heap.size l J hJ.out hsz0) (fun c => by rw [hsb]; exact linX_stable W.heap.size Jx c hJx.out) h00 (fun h => by cases h) ?round ?done ?stop
  case round =>
    rintro l1 O pre x W1 hOl hO ⟨h1, h2, h3⟩ hlen hsp
    rw [hsb] at hO
    gi_wp2
    refine ⟨Keep.refl _ _, fun W2 hon => ?_⟩
    have hl3 : W.heap.size + 3 ≤ l1 := (hO l1 hOl).1
    have c0 := hon.cell h2 (by simp; omega)
    have hs2 := hon.size
    have hl4 := (hO l1 hOl).2
    have hJ2 := hJ.out _ (fun k => O k ∨ (W.heap.size ≤ k ∧ k < W.heap.size + 3)) _ _ W2 h1 (fun k h => h.elim (fun h => by have := hO k h; omega) (fun h => h.1)) (hon.mono fun k _ e => .inl (by rw [e]; exact hOl)) (fun k h => .inl h)
    have hO2 : Old lo W0 W2 := h3.only (by omega) hon (fun k e => by omega)
    have hOw : ∀ k, (O k ∨ (W.heap.size ≤ k ∧ k < W.heap.size + 3)) → W.heap.size ≤ k ∧ k < W2.heap.size := fun k h => by
      rcases h with h | h
      · have := hO k h; omega
      · omega
    obtain ⟨fnc, tmps, assign, body, hy, hR⟩ := hY.out (fun k => O k ∨ (W.heap.size ≤ k ∧ k < W.heap.size + 3)) pre x W2 hOw hJ2 hlen hsp
    have hR' : RoundIn (Fence.wide.inRound l1) 0 Tryz.prog l fnc tmps assign body W2 fun e X' =>
        e = .returned (.bool true) ∧ J (fun k => O k ∨ (W.heap.size ≤ k ∧ k < W.heap.size + 3)) (pre ++ [x]) X' ∧ Keep (fun k => (O k ∨ (W.heap.size ≤ k ∧ k < W.heap.size + 3)) ∨ WkRd lo W0 k) W2 X' ∨
        e = .returned (.bool false) ∧ Jx (fun k => O k ∨ (W.heap.size ≤ k ∧ k < W.heap.size + 3)) (pre ++ [x]) X' ∧ Keep (fun k => (O k ∨ (W.heap.size ≤ k ∧ k < W.heap.size + 3)) ∨ WkRd lo W0 k) W2 X' := hR
    replace hR' := Lib.hid hR'
    replace hO2 := Lib.hid hO2
    replace hOw := Lib.hid hOw
    clear hR h1 h2 h3 hon hO hJ2
    gi_wp2
    refine ⟨rfl, hR'.out.mono ?_⟩
    rintro e W3 (⟨rfl, hJ3, hk3⟩ | ⟨rfl, hJx3, hk3⟩)
    · have c3 := hk3.cell c0 (.inl (.inr (by simp)))
      have hO3 : Old lo W0 W3 := fun k hr => (hk3.same k (by have := hr.2; omega) (.inr hr)).trans (hO2.out k hr)
      have hk4 : Keep (fun k => O k ∨ WkRd lo W0 k ∨ k = W.heap.size + 1) W2 W3 := hk3.mono fun k _ h => by
        rcases h with h | h | h
        · exact .inl (.inl h)
        · exact .inr h
        · exact .inl (.inr (by omega))
      have fin : LinJ lo W0 W.heap.size l J O (pre ++ [x]) W3 := ⟨hJ3, c3, hO3⟩
      replace fin := Lib.hid fin
      replace hk4 := Lib.hid hk4
      clear hk3 hJ3 c3 hO3
      gi_wp2
      exact ⟨hk4.out, fin.out⟩
    · have hk4 : Keep (fun k => O k ∨ WkRd lo W0 k ∨ k = W.heap.size + 1) W2 W3 := hk3.mono fun k _ h => by
        rcases h with h | h | h
        · exact .inl (.inl h)
        · exact .inr h
        · exact .inl (.inr (by omega))
      replace hk4 := Lib.hid hk4
      clear hk3
      gi_wp2
      exact ⟨hk4.out, rfl, hJx3⟩
  case done =>
    rintro D xs O W1 hD hOD hO hS ⟨h1, h2, h3⟩ hK
    gi_wp2
    rw [Exit.noGoto_normal]
    refine ⟨by simp, .inl ⟨_, _, rfl, run_takeDeferred hK, ?_⟩⟩
    have hput := (Only.refl (fun k => O k ∨ (W.heap.size ≤ k ∧ k < W.heap.size + 3)) W1).putObj D (.deferred none) (.inl hOD)
    refine ⟨_, results_none rfl _ _ _, ⟨_, rfl⟩, .inl ⟨_, _, hS, fun k h => ?_, hJ.out _ _ _ _ _ h1 (fun k h => ?_) hput (fun k h => .inl h)⟩⟩
    all_goals
      rcases h with h | h
      · have := hO k h; omega
      · exact h.1
  case stop =>
    rintro D c pre O W1 hD hOD hO ⟨k, hk, hpre⟩ ⟨rfl, hj⟩ hK
    gi_wp2
    rw [Exit.noGoto_normal]
    refine ⟨by simp, .inl ⟨_, _, rfl, run_takeDeferred hK, ?_⟩⟩
    have hput := (Only.refl (fun k => O k ∨ (W.heap.size ≤ k ∧ k < W.heap.size + 3)) W1).putObj D (.deferred none) (.inl hOD)
    refine ⟨_, results_none rfl _ _ _, ⟨_, rfl⟩, .inr ⟨_, _, ⟨k, hk, hpre⟩, fun k h => ?_, hJx.out _ _ _ _ _ hj (fun k h => ?_) hput (fun k h => .inl h)⟩⟩
    all_goals
      rcases h with h | h
      · have := hO k h; omega
      · exact h.1
set_option maxRecDepth 100000 in
theorem line_any (cs : List Nat) (n : Int) (a : Option Addr) (c : Nat) (w : World) (h : CodeAt w a c cs) (hl : cs.length ≤ 100) :
    Calls Tryz.prog 33 #[.slice a cs.length c, .int .i64 n] w fun e w' => (∃ b5 b3 gb, e = .returned (.func (.func 63) #[] #[.pointer (some ⟨b5, 0, none⟩), .pointer (some ⟨b3, 0, none⟩)]) ∧ LnAt (blksN cs) n b5 b3 gb w.heap.size w') ∧ Below w.heap.size w w' := by
  have hb0 : Below w.heap.size w (w.alloc (.cells #[.int .i64 n] 3)) := xalloc (xrefl w) _
  have hof := Lib.hid (ofGraph_any cs a c _ (h.below hb0) hl)
  have hx := (Box.new w (.int .i64 n) 3)
  have hs : (w.alloc (.cells #[.int .i64 n] 3)).heap.size = w.heap.size + 1 := World.size_alloc _ _
  replace hb0 := Lib.hid hb0
  replace hx := Lib.hid hx
  replace hs := Lib.hid hs
  clear h
  go_enter Tryz.func33, Tryz.ntmps33
  go_wp2_with (go_at_call 56; refine hof.out.mono ?_; rintro e w1 ⟨⟨gb, rfl, hG⟩, hb1⟩; have hme := Lib.hid hG.meet; have hx1 := Lib.hid (hx.out.below hb1); replace hb1 := Lib.hid (xtrans hb0.out hb1); clear hG)
  go_ret
  have hb2 := xalloc (xrefl w1) (.cells #[.pointer (some ⟨gb, 0, none⟩)] 91)
  have hlt := hb1.out.size
  exact ⟨⟨_, _, gb, rfl, (Box.new w1 _ 91).cell, cbel hb2 hx1.out.cell, by omega, Nat.le_refl _, (hme.out.below hb2).less (by rw [World.size_alloc]; omega)⟩, xtrans hb1.out hb2⟩
end Go.Proofs.YtijkdabmegbcjaaGreatDoor
namespace Go.Proofs.YtijkdabmegbcjaaGreatDoor
open Go.RowKit Go.Shelf
attribute [local go_sem] Oper.semAt_some

end Go.Proofs.YtijkdabmegbcjaaGreatDoor
namespace Go.Proofs.YtijkdabmegbcjaaGreatDoor
open Go.RowKit Go.Shelf
attribute [local go_sem] Oper.semAt_some

end Go.Proofs.YtijkdabmegbcjaaGreatDoor
namespace Go.Proofs.YtijkdabmegbcjaaGreatDoor
open Go.RowKit Go.Shelf
attribute [local go_sem] Oper.semAt_some

def worksM : List Nat := [96, 8, 96, 6, 87, 95, 91, 95, 91, 0]
theorem worksM0 : meetZ (blksN worksM) 10 0 = some 6 := by kernel_rfl
theorem worksM6 : meetZ (blksN worksM) 10 6 = some 8 := by kernel_rfl
theorem worksM8 : meetZ (blksN worksM) 10 8 = none := by kernel_rfl
theorem worksMB : behindZ (blksN worksM) 10 0 = [0, 6, 8] := by kernel_rfl
theorem worksML : lineZ (blksN worksM) 10 5 = [5, 6, 8] := by kernel_rfl
theorem worksME : exitsZ (blksN worksM) 10 1 (-1) = false := by kernel_rfl
/-- What has come of a line. -/
def LnS (B r : Nat) (k : Nat) (S : Nat → Prop) (W : World) : Prop := BoxR B 3 1 42 r (([5, 6, 8] : List Nat).take k).length ((natI (([5, 6, 8] : List Nat).take k)).map (Value.int .i64)) S W
set_option maxRecDepth 100000 in
set_option maxHeartbeats 8000000 in
theorem works12_any (w : World) : Calls Tryz.prog 25 #[] w fun e w' => e = .returned (.bool true) ∧ Below w.heap.size w w' := by
  obtain ⟨i0, hi0, hz0, hz1, hz2⟩ := info_parts info_int
  have g : Graph (blksN worksM) 10 := graph_code worksM
  have hb0 : Hid (Below w.heap.size w (w.alloc (.cells #[.int .u8 96, .int .u8 8, .int .u8 96, .int .u8 6, .int .u8 87, .int .u8 95, .int .u8 91, .int .u8 95, .int .u8 91, .int .u8 0] 5))) := Lib.hid (xalloc (xrefl w) _)
  have hC : Hid (CodeAt (w.alloc (.cells #[.int .u8 96, .int .u8 8, .int .u8 96, .int .u8 6, .int .u8 87, .int .u8 95, .int .u8 91, .int .u8 95, .int .u8 91, .int .u8 0] 5)) (some ⟨w.heap.size, 0, none⟩) 10 worksM) := Lib.hid ⟨rowAt_new w _ (natI worksM), (fun e => by cases e), by decide, by decide, by decide⟩
  have hf0 : Hid (∀ W, CodeAt W (some ⟨w.heap.size, 0, none⟩) 10 worksM → Calls Tryz.prog 26 #[.slice (some ⟨w.heap.size, 0, none⟩) 10 10, .int .i64 0] W fun e w' => e = .returned (.tuple #[.int .i64 6, .bool true]) ∧ Below W.heap.size W w') := Lib.hid fun W h => by
    have := meetM_any worksM 0 _ 10 W h (by decide)
    rw [show meetZ (blksN worksM) worksM.length 0 = some 6 from worksM0] at this
    exact this
  have hf6 : Hid (∀ W, CodeAt W (some ⟨w.heap.size, 0, none⟩) 10 worksM → Calls Tryz.prog 26 #[.slice (some ⟨w.heap.size, 0, none⟩) 10 10, .int .i64 6] W fun e w' => e = .returned (.tuple #[.int .i64 8, .bool true]) ∧ Below W.heap.size W w') := Lib.hid fun W h => by
    have := meetM_any worksM 6 _ 10 W h (by decide)
    rw [show meetZ (blksN worksM) worksM.length 6 = some 8 from worksM6] at this
    exact this
  have hf8 : Hid (∀ W, CodeAt W (some ⟨w.heap.size, 0, none⟩) 10 worksM → Calls Tryz.prog 26 #[.slice (some ⟨w.heap.size, 0, none⟩) 10 10, .int .i64 8] W fun e w' => e = .returned (.tuple #[.int .i64 0, .bool false]) ∧ Below W.heap.size W w') := Lib.hid fun W h => by
    have := meetM_any worksM 8 _ 10 W h (by decide)
    rw [show meetZ (blksN worksM) worksM.length 8 = none from worksM8] at this
    exact this
  have hfe : Hid (∀ W, CodeAt W (some ⟨w.heap.size, 0, none⟩) 10 worksM → Calls Tryz.prog 28 #[.slice (some ⟨w.heap.size, 0, none⟩) 10 10, .int .i64 1] W fun e w' => e = .returned (.bool false) ∧ Below W.heap.size W w') := Lib.hid fun W h => by
    have := endsM_any worksM 1 _ 10 W h (by decide)
    rw [show exitsZ (blksN worksM) worksM.length 1 (-1) = false from worksME] at this
    exact this
  have hfb : Hid (∀ W, CodeAt W (some ⟨w.heap.size, 0, none⟩) 10 worksM → Calls Tryz.prog 30 #[.slice (some ⟨w.heap.size, 0, none⟩) 10 10, .int .i64 0] W fun e w' => (∃ a c, e = .returned (.slice a 3 c) ∧ IntsAt w' a c [0, 6, 8]) ∧ Below W.heap.size W w') := Lib.hid fun W h => by
    have := behindM_any worksM 0 _ 10 W h (by decide)
    rw [show behindZ (blksN worksM) worksM.length 0 = [0, 6, 8] from worksMB] at this
    refine this.mono ?_
    rintro e w' ⟨⟨v, rfl, ho⟩, hb⟩
    obtain ⟨a, c, rfl, hI, -⟩ := ho.at
    exact ⟨⟨a, c, rfl, hI⟩, hb⟩
  have hfl : Hid (∀ W, CodeAt W (some ⟨w.heap.size, 0, none⟩) 10 worksM → Calls Tryz.prog 33 #[.slice (some ⟨w.heap.size, 0, none⟩) 10 10, .int .i64 5] W fun e w' => (∃ b5 b3 gb, e = .returned (.func (.func 63) #[] #[.pointer (some ⟨b5, 0, none⟩), .pointer (some ⟨b3, 0, none⟩)]) ∧ LnAt (blksN worksM) 5 b5 b3 gb W.heap.size w') ∧ Below W.heap.size W w') := Lib.hid fun W h => line_any worksM 5 _ 10 W h (by decide)
  have hnil := fun m k W => run_eql_fn_nil (P := Tryz.prog) 48 (by kernel_rfl) (.func 63) #[] #[.pointer (some ⟨m, 0, none⟩), .pointer (some ⟨k, 0, none⟩)] W
  refine (callsIn_wide (n := 0)).1 ?_
  refine callsIn_of_wp_marks Tryz.func25 rfl trivial ?_ rfl
  simp only [Tryz.ntmps25, List.size_toArray, List.length_cons, List.length_nil, Nat.reduceAdd, Nat.reduceSub, Array.replicate_succ, Array.replicate_zero, List.push_toArray, List.append_toArray, List.nil_append, List.cons_append]
  refine wpIn_wide.2 ?_
  go_wp2_with (first
    | (go_at_call 26; (with_reducible refine (hf0.out _ hC.out).mono ?_); rintro e w1 ⟨rfl, hb1⟩; have hC1 := Lib.hid (hC.out.below hb1); replace hb1 := Lib.hid (xtrans hb0.out hb1); clear hf0 hC)
    | (go_at_call 26; (with_reducible refine (hf6.out _ hC1.out).mono ?_); rintro e w2 ⟨rfl, hb2⟩; have hC2 := Lib.hid (hC1.out.below hb2); replace hb2 := Lib.hid (xtrans hb1.out hb2); clear hf6 hC1 hb1)
    | (go_at_call 26; (with_reducible refine (hf8.out _ hC2.out).mono ?_); rintro e w3 ⟨rfl, hb3⟩; have hC3 := Lib.hid (hC2.out.below hb3); have hC3b := Lib.hid (hC3.out.below (xalloc (xrefl w3) (.cells #[.slice none 0 0] 42))); replace hb3 := Lib.hid (xtrans hb2.out hb3); clear hf8 hC2 hb2)
    | (go_at_call 33; (with_reducible refine (hfl.out _ hC3b.out).mono ?_); rintro e w4 ⟨⟨b5, b3, gb, rfl, hL⟩, hb4⟩; rw [World.size_alloc] at hL; have hC4 := Lib.hid (hC3b.out.below hb4); replace hL := Lib.hid hL; replace hb4 := Lib.hid hb4; clear hfl hC3b))
  refine (wpIn_wide (n := 0)).1 ?_
  have hB0 := boxR_new (B := w3.heap.size) (ET := 3) (sz := 1) w3 42 (Nat.le_refl _)
  have hS1 : LnS w3.heap.size w3.heap.size 0 (· = w3.heap.size) w4 := boxR_fac.below hB0 hb4.out
  have hb34 := xtrans (xalloc (xrefl w3) (.cells #[.slice none 0 0] 42)) hb4.out
  have hs4 := hb4.out.size
  rw [World.size_alloc] at hs4
  have hw3 := hb3.out.size
  refine wp_rangeL (w0 := w3) (gf := 63) (lb := #[.pointer (some ⟨b5, 0, none⟩), .pointer (some ⟨b3, 0, none⟩)]) rfl (enters_of Tryz.func63 (by kernel_rfl) rfl) (encs := fun x : Nat => #[.int .i64 x]) (Rd := WkRd (w3.heap.size + 1) w4) [5, 6, 8]
    (fun k hk => hk.2) hb34 (fun W hW => by have := line_seq (blksN worksM) 10 g (by decide) 5 b5 b3 gb (w3.heap.size + 1) w4 W hL.out hW; rwa [worksML] at this) (fun x => rfl) (LnS w3.heap.size w3.heap.size) (fun _ _ _ _ => False) (fun k S => boxR_fac) (fun _ _ _ => ⟨fun _ _ h _ _ => h, fun _ h => h.elim⟩) (· = w3.heap.size)
    (fun j hj => ⟨by omega, fun hr => by have := hr.1; omega⟩) hS1 ?round ?done ?stop
  case round =>
    intro l0 k hk W
    have hst : Hid (([5, 6, 8] : List Nat).take (k + 1) = ([5, 6, 8] : List Nat).take k ++ [([5, 6, 8] : List Nat)[k]]) := Lib.hid (List.take_succ_eq_append_getElem hk)
    have hm1 : (([5, 6, 8] : List Nat).take k).length ≤ 200 := by rw [List.length_take]; simp at hk ⊢; omega
    have hOS : LnS w3.heap.size w3.heap.size k = BoxR w3.heap.size 3 1 42 w3.heap.size (([5, 6, 8] : List Nat).take k).length ((natI (([5, 6, 8] : List Nat).take k)).map (Value.int .i64)) := by funext S W; rfl
    have hOS2 : LnS w3.heap.size w3.heap.size (k + 1) = BoxR w3.heap.size 3 1 42 w3.heap.size (([5, 6, 8] : List Nat).take (k + 1)).length ((natI (([5, 6, 8] : List Nat).take (k + 1))).map (Value.int .i64)) := by funext S W; rfl
    rw [hst.out, List.length_append, natI_app, List.map_append] at hOS2
    replace hOS2 := Lib.hid hOS2
    generalize ([5, 6, 8] : List Nat)[k] = x at *
    generalize ([5, 6, 8] : List Nat).take k = T at *
    gi_wp2
    refine ⟨trivial, fun S W2 hb2 hzz _ hSo hS => ?_⟩
    have hsz2 := hb2.size
    rw [hOS] at hS
    obtain ⟨v, h1, h2, h3, h4, h5⟩ := hS
    have hcb := h1.cell
    have hfb := h1.free
    have hb3' : Below W2.heap.size W2 (W2.alloc (.cells #[.int .i64 x] 3)) := xalloc (xrefl _) _
    have hmid := Lib.hid fun V5 W5 (hg5 : (W2.alloc (.cells #[.int .i64 x] 3)).grownBy W5 v.ownBlock) (o5 : W5.ownsRow w3.heap.size 3 1 V5 (T.length + 1) ((natI T).map (Value.int .i64) ++ [.int .i64 x])) hvb => boxR_next (S := S) (by decide) h1 h2 h3 h4 hb3' hg5 o5 hvb
    have h2a := Lib.hid (h2.alloc (.cells #[.int .i64 x] 3))
    have hne := Lib.hid (own_ne h2 h1 (by decide))
    have h1a := Lib.hid (h1.below hb3')
    replace h5 := Lib.hid h5
    replace hSo := Lib.hid hSo
    have hq1 := Lib.hid (Box.new W2 (.int .i64 x) 3).cell
    clear h1 h2 h3 h4 hb3' hb2 hOS
    obtain ⟨a4, c4, rfl⟩ := own_slice h2a.out
    gi_wp2_with (gi_at_builtin; refine wpListIn_append_blkV (W2.alloc (.cells #[.int .i64 x] 3)) rfl _ _ 42 rfl w3.heap.size 3 i0 (.int .i64 0) 1 8 Tryz.underlying42 hi0 hz0 hz1 hz2 rfl (by decide) (.slice a4 T.length c4) T.length _ rfl h2a.out ⟨W2.heap.size, 0, none⟩ 1 1 [.int .i64 x] rfl rfl (by intro j u hj; match j, hj with | 0, hj => (injection hj with hj; subst hj; exact hq1.out)) (by simp [Value.oneCell']) (by unfold maxLen; omega) (by omega) (by rw [World.size_alloc]; omega) ?_; intro V5 W5 o5 hg5 hvb; have hfin := Lib.hid (hmid.out V5 W5 hg5 o5 hvb); have c5 := (h1a.out.only (only_grown hg5) hne.out); have cc5 := c5.cell; have cf5 := c5.free; obtain ⟨a5, e5, rfl⟩ := own_slice o5; clear hg5 o5 hvb c5 hmid)
    obtain ⟨ho, S', hS', hB⟩ := hfin.out
    exact ⟨ho, S', hS', by rw [hOS2.out]; exact hB⟩
  case done =>
    intro D S W hD hSD hb _ _ hS hK
    have hCW := Lib.hid (hC3.out.below hb)
    unfold LnS at hS
    obtain ⟨v, h1, h2, h3, h4, h5⟩ := hS
    have hn7 : ([5, 6, 8] : List Nat).take ([5, 6, 8] : List Nat).length = [5, 6, 8] := rfl
    rw [hn7] at h2
    obtain ⟨a4, c4, rfl⟩ := own_slice h2
    have hK2 := (Array.getElem?_eq_some_iff.1 hK).1
    have hbW := xtrans hb3.out hb
    have hml : IntsAt W a4 c4 [5, 6, 8] := by
      obtain ⟨a', c', e, hr, hn, -⟩ := rowV_own h2
      cases e
      exact ⟨RowV.ints hr, hn⟩
    replace hml := Lib.hid hml
    replace h1 := Lib.hid h1
    replace hK := Lib.hid hK
    replace hbW := Lib.hid hbW
    clear hL hC4 hb4 hB0 hS1 hb34 hb h2 h3 h4 h5
    go_wp2_with (first
      | (go_at_call 30; (with_reducible refine (hfb.out _ hCW.out).mono ?_); rintro e w5 ⟨⟨p5, q5, rfl, hI5⟩, hb5⟩; have hI6 := Lib.hid (hI5.below (xalloc (xrefl w5) (.cells #[.int .i64 0, .int .i64 6, .int .i64 8] 3))); have hI7 := Lib.hid (show IntsAt (w5.alloc (.cells #[.int .i64 0, .int .i64 6, .int .i64 8] 3)) (some ⟨w5.heap.size, 0, none⟩) 3 [0, 6, 8] from ⟨rowAt_new w5 _ (natI [0, 6, 8]), fun e => by cases e⟩); have hi1 := Lib.hid (show Calls Tryz.prog 22 #[.slice p5 3 q5, .slice (some ⟨w5.heap.size, 0, none⟩) 3 3] (w5.alloc (.cells #[.int .i64 0, .int .i64 6, .int .i64 8] 3)) (fun e w' => e = .returned (.bool true) ∧ ∃ k, w' = (w5.alloc (.cells #[.int .i64 0, .int .i64 6, .int .i64 8] 3)).drewN k) from refInts_any [0, 6, 8] [0, 6, 8] _ _ _ _ _ hI6.out hI7.out (by decide) (by decide)); have hb5a := xtrans hb5 (xalloc (xrefl w5) (.cells #[.int .i64 0, .int .i64 6, .int .i64 8] 3)); replace hb5a := Lib.hid hb5a; clear hb5)
      | (go_at_call 22; (with_reducible refine hi1.out.mono ?_); rintro e w6 ⟨rfl, kk, hw6⟩; have hb6 : Below W.heap.size W w6 := (by rw [hw6]; exact xtrans hb5a.out (xdrewN (xrefl _) kk)); have hcb6 := cbel hb6 h1.out.cell; have hml6 := Lib.hid ((hml.out.below hb6).below (xalloc (xrefl w6) (.cells #[.int .i64 5, .int .i64 6, .int .i64 8] 3))); have hI8 := Lib.hid (show IntsAt (w6.alloc (.cells #[.int .i64 5, .int .i64 6, .int .i64 8] 3)) (some ⟨w6.heap.size, 0, none⟩) 3 [5, 6, 8] from ⟨rowAt_new w6 _ (natI [5, 6, 8]), fun e => by cases e⟩); have hi2 := Lib.hid (show Calls Tryz.prog 22 #[.slice a4 3 c4, .slice (some ⟨w6.heap.size, 0, none⟩) 3 3] (w6.alloc (.cells #[.int .i64 5, .int .i64 6, .int .i64 8] 3)) (fun e w' => e = .returned (.bool true) ∧ ∃ k, w' = (w6.alloc (.cells #[.int .i64 5, .int .i64 6, .int .i64 8] 3)).drewN k) from refInts_any [5, 6, 8] [5, 6, 8] _ _ _ _ _ hml6.out hI8.out (by decide) (by decide)); have hb6a := xtrans hb6 (xalloc (xrefl w6) (.cells #[.int .i64 5, .int .i64 6, .int .i64 8] 3)); replace hb6a := Lib.hid hb6a; clear hb6 hi1 hw6)
      | (go_at_call 22; (with_reducible refine hi2.out.mono ?_); rintro e w7 ⟨rfl, k7, hw7⟩; have hb7 : Below W.heap.size W w7 := (by rw [hw7]; exact xtrans hb6a.out (xdrewN (xrefl _) k7)); have hC7 := Lib.hid (hCW.out.below hb7); replace hb7 := Lib.hid hb7; clear hw7 hi2)
      | (go_at_call 28; (with_reducible refine (hfe.out _ hC7.out).mono ?_); rintro e w8 ⟨rfl, hb8⟩; replace hb8 := Lib.hid (xtrans hb7.out hb8)))
    have hK8 := (hb8.out.block D hK2).trans hK.out
    have hput := (Only.refl (· = D) w8).putObj D (.deferred none) rfl
    have hfin := hput.below (xtrans hbW.out hb8.out) (xtrans hbW.out hb8.out).size (by rintro i rfl; omega)
    refine ⟨by simp [Act.put], .inl ⟨_, _, rfl, run_takeDeferred hK8, ?_⟩⟩
    exact ⟨_, results_tmp rfl _ _ _, rfl, hfin⟩
  case stop => 
    intro D k c S W _ _ _ _ _ _ h
    exact h.elim
end Go.Proofs.YtijkdabmegbcjaaGreatDoor
namespace Go.Proofs.YtijkdabmegbcjaaGreatDoor
open Go.ChangeShapes Go.WideShapes Go.ChangeAt Go.RowKit
open Go.ChangeMaps (open_string shut_string)

/-- What became of the walk of a law: true, and nothing that was there has turned. -/
def Yes (w : World) (e : Ending) (w' : World) : Prop := e = .returned (.bool true) ∧ Below w.heap.size w w'

section
variable {H : Type} {enc : TypeId × Value → H} {P : Program} {w : World} {base : Nat} {spare : Nat → Bool} {held : Bool} {t e : TypeId} {fuel : Nat} {cs : List Value} {x : DataW H × List MemPlace}

/-- A slice of integers. -/
theorem trod_row {q : IntKind} {v : Value} (ht : P.underlying t = some (.slice e)) (he : P.underlying e = some (.int q)) (hc : P.cellsOf e = 1) (h : DataW.trod enc P w base spare held fuel t [v] = some x) :
    ∃ a c zs, v = .slice a zs.length c ∧ RowAt q w a zs ∧ (a = none → c = 0) ∧ zs.length ≤ 9223372036854775807 ∧ ∀ z ∈ zs, (Lit.int q z).wf = true := by
  rcases open_ints ht he hc h with ⟨hcs, _⟩ | ⟨a, len, cap, zs, hcs, _, hl, hm, hz, _, hcell, hw⟩
  · simp only [List.cons.injEq, and_true] at hcs
    exact ⟨none, 0, [], hcs, RowAt.nil, fun _ => rfl, by simp, by simp⟩
  · simp only [List.cons.injEq, and_true] at hcs
    have hlz : len ≤ zs.length := by split at hz <;> omega
    refine ⟨some a, cap, zs.take len, by rw [hcs, List.length_take, Nat.min_eq_left hlz], fun i hi => ?_, by simp, ?_, fun z hz => hw z (List.mem_of_mem_take hz)⟩
    · rw [List.length_take] at hi
      have hcl := hcell i (by omega)
      obtain ⟨b, o, s⟩ := a
      have h0 := hcell 0 (by omega)
      have hs : s = none := by simpa [Addr.add] using World.cell?_spot h0
      subst hs
      refine ⟨b, o, rfl, ?_⟩
      rw [Addr.add_lit] at hcl
      rw [hcl, List.getElem_take, List.getD_eq_getElem?_getD, List.getElem?_eq_getElem (by omega)]
      rfl
    · unfold maxLen at hm
      rw [List.length_take]; omega
end

end Go.Proofs.YtijkdabmegbcjaaGreatDoor
namespace Go.Proofs.YtijkdabmegbcjaaGreatDoor
open Go.ChangeShapes Go.WideShapes Go.ChangeAt Go.RowKit
variable {H : Type} {enc : TypeId × Value → H} {P : Program} {w : World} {base : Nat} {spare : Nat → Bool} {held : Bool} {t e : TypeId} {fuel : Nat} {cs : List Value} {x : DataW H × List MemPlace}

theorem trod_row2 {q : IntKind} {v : Value} (ht : P.underlying t = some (.slice e)) (he : P.underlying e = some (.int q)) (hc : P.cellsOf e = 1) (h : DataW.trod enc P w base spare held fuel t [v] = some x) :
    ∃ a c zs, v = .slice a zs.length c ∧ RowAt q w a zs ∧ (a = none → c = 0) ∧ (zs.length ≤ c ∧ c ≤ 9223372036854775807) ∧ ∀ z ∈ zs, (Lit.int q z).wf = true := by
  obtain ⟨a, c, zs, h1, h2, h3, h4, h5⟩ := trod_row ht he hc h
  refine ⟨a, c, zs, h1, h2, h3, ?_, h5⟩
  rcases open_ints ht he hc h with ⟨hcs, _⟩ | ⟨a', len, cap, zs', hcs, _, hl, hm, _⟩
  · simp only [List.cons.injEq, and_true] at hcs
    rw [h1] at hcs
    injection hcs with e1 e2 e3
    omega
  · simp only [List.cons.injEq, and_true] at hcs
    rw [h1] at hcs
    injection hcs with e1 e2 e3
    unfold maxLen at hm
    omega
end Go.Proofs.YtijkdabmegbcjaaGreatDoor
namespace Go.Proofs.YtijkdabmegbcjaaGreatDoor
open Go.RowKit Go.Shelf

/-- No table is read. -/
def TabF (_ : World) : Prop := True
theorem tab_of_laid {X : Prop} {W : World} (_ : X) : TabF W := trivial
end Go.Proofs.YtijkdabmegbcjaaGreatDoor
namespace Go.Proofs.YtijkdabmegbcjaaGreatDoor
open Go.RowKit Go.Shelf
attribute [local go_sem] Oper.semAt_some
attribute [local go_sem 20000] run_max_big run_min_small

end Go.Proofs.YtijkdabmegbcjaaGreatDoor
namespace Go.Proofs.YtijkdabmegbcjaaGreatDoor

/-- A way so far: the blocks ahead of the one where it is. -/
inductive Pre (nx : Nat → List Nat) (a : Nat) : List Nat → Nat → Prop
  | here : Pre nx a [] a
  | go {v : List Nat} {k j : Nat} : Pre nx a v k → j ∈ nx k → Pre nx a (v ++ [k]) j
theorem Pre.way {nx : Nat → List Nat} {ex : Nat → Bool} {a k : Nat} {v : List Nat} (h : Pre nx a v k) : ∀ {l : List Nat}, Way nx ex k l → Way nx ex a (v ++ l) := by
  induction h with
  | here => exact fun hl => hl
  | @go v k j hp hj ih =>
    intro l hl
    have := ih (.step hj hl)
    simpa using this
theorem Pre.beh {nx : Nat → List Nat} {ex : Nat → Bool} {a k b : Nat} {v : List Nat} (h : Pre nx a v k) (hx : ex k = true) (hb : Beh nx ex a b) : b ∈ v ++ [k] := hb.2 _ (h.way (.out hx))
theorem blks_first {cs : List Nat} (h : 0 < (blksN cs).length) : (blksN cs)[0].first = 0 := by
  have hg : 0 < (grps cs).length := by simpa [blksN] using h
  have e : (blksN cs)[0].first = fstN (grps cs)[0] := by simp only [blksN, List.getElem_map]; rfl
  rw [e]
  obtain ⟨g, r, hgr⟩ : ∃ g r, grps cs = g :: r := by
    cases hc : grps cs with
    | nil => rw [hc] at hg; simp at hg
    | cons g r => exact ⟨g, r, rfl⟩
  have hne := grps_ne (cs := cs) (g := g) (by rw [hgr]; simp)
  have hj := grps_join cs
  rw [hgr] at hj
  have h0 : (grps cs)[0] = g := by simp [hgr]
  rw [h0]
  obtain ⟨x, g', rfl⟩ : ∃ x g', g = x :: g' := by
    cases g with
    | nil => exact absurd rfl hne
    | cons x g' => exact ⟨x, g', rfl⟩
  show x = 0
  by_cases hl : 0 < cs.length
  · unfold opsL at hj
    rw [opsA_lt hl] at hj
    simp at hj
    exact hj.1
  · unfold opsL at hj
    rw [opsA_ge (by omega)] at hj
    simp at hj
/-- Where a walk is. -/
structure AtB (bs : List BlkN) (B : BlkN) (K : List Nat) : Prop where
  mem : B ∈ bs
  gone : ∃ v, Pre (nextOf bs) 0 v B.first ∧ ∀ y, y ∈ v ++ [B.first] → y ∈ K
theorem AtB.next {bs : List BlkN} {D : Nat} (g : Graph bs D) {B : BlkN} {K : List Nat} (h : AtB bs B K) {j : Nat} (hj : j ∈ B.next) : ∃ C, findZ bs (j : Int) = some C ∧ C.first = j ∧ AtB bs C (addK K C.first) := by
  obtain ⟨v, h1, h2⟩ := h.gone
  have hk := g.next B h.mem j hj
  obtain ⟨C, hC, rfl⟩ := List.mem_map.1 hk
  refine ⟨C, by rw [findZ_nat]; exact g.find hC, rfl, hC, v ++ [B.first], .go h1 (by rw [g.nextB h.mem]; exact hj), fun y hy => ?_⟩
  rcases List.mem_append.1 hy with hy | hy
  · exact (mem_addK _ _ _).2 (.inr (h2 y hy))
  · exact (mem_addK _ _ _).2 (.inl (List.mem_singleton.1 hy))
theorem AtB.start {bs : List BlkN} {B : BlkN} (hB : B ∈ bs) (h0 : B.first = 0) : AtB bs B [B.first] := ⟨hB, [], by rw [h0]; exact .here, fun y hy => by simpa using hy⟩
theorem AtB.all {bs : List BlkN} {D : Nat} (g : Graph bs D) {B : BlkN} {K : List Nat} (h : AtB bs B K) (hx : B.exit = true) {y : Nat} (hy : y ∈ lineZ bs D 0) : y ∈ K := by
  obtain ⟨v, h1, h2⟩ := h.gone
  have hE : Ends (nextOf bs) (exitOf bs) 0 := ⟨_, h1.way (.out (by rw [g.exitB h.mem]; exact hx))⟩
  have hx0 := (exits_ends g).2 hE
  have e : lineZ bs D 0 = lineN bs D 0 := lineZ_nat bs D 0
  rw [e] at hy
  unfold lineN at hy
  rw [if_pos hx0] at hy
  have := (line_all g _ 0 hx0 (Nat.le_refl _)).2 y |>.1 hy
  exact h2 y (h1.beh (by rw [g.exitB h.mem]; exact hx) ((mem_behind g).1 this))
theorem line_facts {bs : List BlkN} {D : Nat} (g : Graph bs D) : (lineZ bs D 0).Nodup ∧ (∀ y, y ∈ lineZ bs D 0 ↔ y ∈ behindZ bs D 0) ∧ (lineZ bs D 0).length = (behindZ bs D 0).length := by
  have e : lineZ bs D 0 = lineN bs D 0 := lineZ_nat bs D 0
  have e2 : behindZ bs D 0 = behindN bs D 0 := behindZ_nat bs D 0
  rw [e, e2]
  have key : (lineN bs D 0).Nodup ∧ ∀ y, y ∈ lineN bs D 0 ↔ y ∈ behindN bs D 0 := by
    unfold lineN
    by_cases hx : exitsN bs D 0 (-1) = true
    · rw [if_pos hx]
      exact line_all g _ 0 hx (Nat.le_refl _)
    · rw [if_neg hx]
      have : behindN bs D 0 = [] := by
        cases h : behindN bs D 0 with
        | nil => rfl
        | cons x l => exact absurd ((behind_ne g).1 (by rw [h]; simp)) hx
      rw [this]; simp
  refine ⟨key.1, key.2, ?_⟩
  have a := key.1.length_le_of_subset (l₂ := behindN bs D 0) fun y hy => (key.2 y).1 hy
  have b := (behind_sl g 0).nodup.length_le_of_subset (l₂ := lineN bs D 0) fun y hy => (key.2 y).2 hy
  omega
end Go.Proofs.YtijkdabmegbcjaaGreatDoor
