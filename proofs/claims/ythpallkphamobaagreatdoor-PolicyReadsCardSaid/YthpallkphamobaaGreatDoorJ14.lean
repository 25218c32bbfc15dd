/- Texts of this claim, merged; no condition. -/
import Derived.Tactics2
import Derived.Defers
import Derived.Recover
import Derived.RowKit3
import Derived.Test.YthpallkphamobaaGreatDoorJ13
import Derived.Test.YthpallkphamobaaGreatDoorJ05
import Derived.Test.YthpallkphamobaaGreatDoorJ02
import Derived.Test.YthpallkphamobaaGreatDoorJ01
import Derived.Lib.SplitLaws
set_option linter.all false
namespace Go.Proofs.YthpallkphamobaaGreatDoor
open Go.RowKit Go.Shelf

/-- What is given up with. -/
def errP (n : Nat) : List PanicEntry := [{ v := .iface 36 (.int .i64 n), recovered := false }]
def errD (n : Nat) : List PanicEntry := (errP n).map fun e => { e with recovered := true }
theorem must_true (n : Nat) (w : World) : Calls Tryz.prog 59 #[.bool true, .int .i64 n] w fun e w' => e = .returned (.tuple #[]) ∧ w = w' := by
  go_enter Tryz.func59, Tryz.ntmps59
  go_wp2
  go_end0
  exact ⟨rfl, rfl⟩
theorem must_false (n : Nat) (w : World) : Calls Tryz.prog 59 #[.bool false, .int .i64 n] w fun e w' => e = .panicked (errP n) ∧ w = w' := by
  go_enter Tryz.func59, Tryz.ntmps59
  go_wp2
  exact ⟨rfl, rfl, rfl⟩
theorem check1_any (w : World) : Calls Tryz.prog 41 #[] w fun e w' => e = .returned (.tuple #[]) ∧ w = w' := by
  go_enter Tryz.func41, Tryz.ntmps41
  go_wp2
  go_end0
  exact ⟨rfl, rfl⟩
set_option maxRecDepth 100000 in
set_option maxHeartbeats 4000000 in
theorem caught_panicking (pe : Addr) (cf : FuncId) (caps : Array Value) (n : Nat) (v1 : Value) (w w2 : World) (hc : w.cell? pe = some v1) (hz : w.frozen? pe = false) (he : ∀ args w, (callFunc cf args).run Tryz.prog w = .ok (.enter cf args) w)
    (hcl : Calls Tryz.prog cf caps (w.setCell pe (.int .i64 n)) fun e w' => e = .returned (.tuple #[]) ∧ w2 = w') :
    CallsD Tryz.prog 40 #[.pointer (some pe), .func (.func cf) #[] caps] (.panicking (errP n)) w fun e u' w' =>
      e = .returned (.tuple #[]) ∧ u' = .panicking (errD n) ∧ w2 = w' := by
  have hta : ∀ w, (Instr.typeAssert (.iface 36 (.int .i64 n)) 20 36 false).run Tryz.prog w = .ok (.int .i64 n) w := fun _ => by kernel_rfl
  replace hcl := Lib.hid hcl
  refine callsD_of_wpS Tryz.func40 rfl fun c₀ cs hu => ?_
  apply wpS_seq
  apply wpS_region
  simp [wpOpsS, go_sem, recoverD, hu, Tryz.ntmps40, Exit.thenS, errP]
  refine wpS_of_wp ?_
  go_wp2_with (refine hcl.out.mono ?_; rintro e w2 ⟨rfl, rfl⟩)
  simp [bodyPostS, results, Tryz.results40, errD, errP]
set_option maxRecDepth 100000 in
set_option maxHeartbeats 4000000 in
theorem caught_idle (pe : Addr) (f : Value) (w : World) :
    CallsD Tryz.prog 40 #[.pointer (some pe), f] .returning w fun e u' w' => e = .returned (.tuple #[]) ∧ u' = .returning ∧ w' = w := by
  refine callsD_of_wpS Tryz.func40 rfl fun c₀ cs hu => ?_
  apply wpS_seq
  apply wpS_region
  simp [wpOpsS, go_sem, recoverD, hu, Tryz.ntmps40, Exit.thenS]
  refine wpS_of_wp ?_
  go_wp2
  cases c₀
  simp_all [bodyPostS, results, Tryz.results40]
/-- How right ends. -/
def RightE (w : World) (p : PolN) (e : Ending) (w' : World) : Prop := (checkF p = 0 → e = .returned (.tuple #[])) ∧ (checkF p ≠ 0 → e = .panicked (errP (checkF p))) ∧ Below w.heap.size w w'
set_option maxRecDepth 100000 in
set_option maxHeartbeats 8000000 in
theorem right_any (p : PolN) (pa pb : Option Addr) (c d : Nat) (w : World) (hp : PolAt w p pa c pb d) (hl : p.clears.length ≤ 1000000) (hl2 : p.rels.length ≤ 1000000) :
    Calls Tryz.prog 42 #[polV p pa c pb d] w (RightE w p) := by
  have hbe : Below w.heap.size w (w.alloc (.cells #[labV p.dflt, .slice pa p.clears.length c, .slice pb p.rels.length d] 27)) := xalloc (xrefl w) _
  have hP : BlkG (w.alloc (.cells #[labV p.dflt, .slice pa p.clears.length c, .slice pb p.rels.length d] 27)) w.heap.size 27 [labV p.dflt, .slice pa p.clears.length c, .slice pb p.rels.length d] := BlkG.new w _ _
  have hC := hp.below hbe
  have cP1 := hP.cell 1 (by simp)
  have cP2 := hP.cell 2 (by simp)
  simp only [List.getElem_cons_succ, List.getElem_cons_zero] at cP1 cP2
  have hmt := Lib.hid must_true
  have hmf := Lib.hid must_false
  have hmk : ∀ (fn : Fn) (first cap : Array Value) (w : World), (Instr.makeFunc fn first cap).run Tryz.prog w = .ok (.func fn first cap) w := fun _ _ _ _ => rfl
  have hend : ∀ {n : Nat} {W : World}, checkF p = n → n ≠ 0 → Below w.heap.size w W → RightE w p (.panicked (errP n)) W := fun {n W} e hn hb => ⟨fun h0 => absurd (e.symm.trans h0) hn, fun _ => by rw [e], hb⟩
  by_cases h3 : 64 < p.clears.length ∨ 64 < p.rels.length
  · have he : checkF p = 3 := by unfold checkF; rw [if_pos h3]
    replace hend := Lib.hid (fun (W : World) (hb : Below w.heap.size w W) => hend (W := W) he (by decide) hb)
    replace hbe := Lib.hid hbe
    unfold polV
    by_cases hc : (p.clears.length : Int) ≤ 64
    · have hr : ¬ (p.rels.length : Int) ≤ 64 := by omega
      clear he h3 hp hP hC
      go_enter Tryz.func42, Tryz.ntmps42
      go_wp2_with (go_at_call 59; refine (hmf.out 3 _).mono ?_; rintro e w3 ⟨rfl, rfl⟩)
      exact ⟨rfl, hend.out _ hbe.out⟩
    · clear he h3 hp hP hC
      go_enter Tryz.func42, Tryz.ntmps42
      go_wp2_with (go_at_call 59; refine (hmf.out 3 _).mono ?_; rintro e w3 ⟨rfl, rfl⟩)
      exact ⟨rfl, hend.out _ hbe.out⟩
  · have h1 : p.clears.length ≤ 64 := by omega
    have h2 : p.rels.length ≤ 64 := by omega
    have hbad := Lib.hid (check_bad h1 h2)
    have hgood := Lib.hid (check_good h1 h2)
    have hr1 := Lib.hid (rising_clearC_any p.clears pa c _ hC.cl hl (fun x hx => hp.ok.adrC hx))
    have hr2 := Lib.hid (fun W (hW : Below (w.alloc (.cells #[labV p.dflt, .slice pa p.clears.length c, .slice pb p.rels.length d] 27)).heap.size (w.alloc (.cells #[labV p.dflt, .slice pa p.clears.length c, .slice pb p.rels.length d] 27)) W) => rising_relC_any p.rels pb d W (hC.re.below hW) hl2 (fun x hx => hp.ok.adrR hx))
    have hfi := Lib.hid (fun W (hW : Below (w.alloc (.cells #[labV p.dflt, .slice pa p.clears.length c, .slice pb p.rels.length d] 27)).heap.size (w.alloc (.cells #[labV p.dflt, .slice pa p.clears.length c, .slice pb p.rels.length d] 27)) W) =>
      first_relC_any p.rels (fun x => !okR p x) 79 #[.pointer (some ⟨w.heap.size, 0, none⟩)] (enters_of Tryz.func79 (by kernel_rfl) rfl) pb d W (hC.re.below hW) hl2 (rows_lenR _ fun x hx => hp.ok.adrR hx) relC_one
        (fun x hx W' hW' => right3_any p x w.heap.size pa pb c d W' (hC.below (xtrans hW hW')) (hp.ok.adrR hx) hl (hP.below (xtrans hW hW'))))
    have hr : riseF ordC p.clears = true ∧ riseF ordR p.rels = true ∧ p.rels.all (okR p) = true ↔ riseF ordC p.clears = true ∧ riseF ordR p.rels = true ∧ p.rels.find? (fun x => !okR p x) = none := by
      rw [List.find?_eq_none, List.all_eq_true]
      simp
    have h64a : (p.clears.length : Int) ≤ 64 := by omega
    have h64b : (p.rels.length : Int) ≤ 64 := by omega
    have h22 : ∀ x, p.rels.find? (fun x => !okR p x) = some x → (relC x).length = 22 := fun x hx => relC_len (hp.ok.adrR (List.mem_of_find?_eq_some hx))
    rw [hr] at hbad hgood
    replace hend := Lib.hid (fun (W : World) (hx : ¬ (riseF ordC p.clears = true ∧ riseF ordR p.rels = true ∧ p.rels.find? (fun x => !okR p x) = none)) (hb : Below w.heap.size w W) => hend (W := W) (hbad.out hx) (by decide) hb)
    have hret : ∀ W, (riseF ordC p.clears = true ∧ riseF ordR p.rels = true ∧ p.rels.find? (fun x => !okR p x) = none) → Below w.heap.size w W → RightE w p (.returned (.tuple #[])) W := fun W hx hb => ⟨fun _ => rfl, fun h0 => absurd (hgood.out hx) h0, hb⟩
    replace hret := Lib.hid hret
    unfold polV
    generalize hA : riseF ordC p.clears = A at *
    generalize hB : riseF ordR p.rels = B at *
    generalize hO : p.rels.find? (fun x => !okR p x) = O at *
    replace hbe := Lib.hid hbe
    replace cP1 := Lib.hid cP1
    clear hbad hgood hr hC hP hp h3 hA hB hO h1 h2 hl hl2
    go_enter Tryz.func42, Tryz.ntmps42
    go_wp2_with (first
      | (go_at_call 59; refine (hmt.out 3 _).mono ?_; rintro e w3 ⟨rfl, rfl⟩)
      | (go_at_call 73; refine hr1.out.mono ?_; rintro e w2 ⟨rfl, hb2⟩; have cP3 := cbel hb2 cP2; clear cP2; replace hr2 := Lib.hid (hr2.out _ hb2); replace hfi := Lib.hid (fun W hW => hfi.out W (xtrans hb2 hW)); replace hb2 := Lib.hid (xtrans hbe.out hb2)))
    cases A with
    | false =>
      go_wp2_with (go_at_call 59; refine (hmf.out 2 _).mono ?_; rintro e w3 ⟨rfl, rfl⟩)
      exact ⟨rfl, hend.out _ (by simp) hb2.out⟩
    | true =>
      go_wp2_with (first
        | (go_at_call 59; refine (hmt.out 2 _).mono ?_; rintro e w3 ⟨rfl, rfl⟩)
        | (go_at_call 75; refine hr2.out.mono ?_; rintro e w4 ⟨rfl, hb4⟩; have cP4 := cbel hb4 cP3; clear cP3; replace hfi := Lib.hid (hfi.out _ hb4); replace hb4 := Lib.hid (xtrans hb2.out hb4)))
      cases B with
      | false =>
        go_wp2_with (go_at_call 59; refine (hmf.out 2 _).mono ?_; rintro e w3 ⟨rfl, rfl⟩)
        exact ⟨rfl, hend.out _ (by simp) hb4.out⟩
      | true =>
        cases O with
        | none =>
          go_wp2_with (first
            | (go_at_call 59; refine (hmt.out 2 _).mono ?_; rintro e w3 ⟨rfl, rfl⟩)
            | (go_at_call 38; refine hfi.out.mono ?_; rintro e w5 ⟨rfl, hb5⟩; replace hb5 := Lib.hid (xtrans hb4.out hb5))
            | (refine wpList_store_blkG rfl 67 _ _ rfl w5.heap.size rfl 67 zrelC zrelC (BlkG.new w5 _ _) rfl rfl (by kernel_rfl) (by decide) ?_; intro w6 hB6 ho6; have hb6 := ho6.below (xalloc (xrefl w5) _) (xalloc (xrefl w5) (.cells zrelC.toArray 67)).size (by rintro k rfl; exact Nat.le_refl _); replace hb6 := Lib.hid (xtrans hb5.out hb6); clear hB6 ho6))
          go_end0
          exact hret.out _ (by simp) hb6.out
        | some x =>
          have hlx := h22 x rfl
          have hone := relC_one x
          go_wp2_with (first
            | (go_at_call 59; refine (hmt.out 2 _).mono ?_; rintro e w3 ⟨rfl, rfl⟩)
            | (go_at_call 59; refine (hmf.out 2 _).mono ?_; rintro e w3 ⟨rfl, rfl⟩)
            | (go_at_call 38; refine hfi.out.mono ?_; rintro e w5 ⟨rfl, hb5⟩; replace hb5 := Lib.hid (xtrans hb4.out hb5))
            | (refine wpList_store_blkG rfl 67 _ _ rfl w5.heap.size rfl 67 zrelC (relC x) (BlkG.new w5 _ _) rfl (by rw [hlx]; rfl) (by rw [hlx]; kernel_rfl) hone ?_; intro w6 hB6 ho6; have hb6 := ho6.below (xalloc (xrefl w5) _) (xalloc (xrefl w5) (.cells zrelC.toArray 67)).size (by rintro k rfl; exact Nat.le_refl _); replace hb6 := Lib.hid (xtrans hb5.out hb6); clear hB6 ho6))
          exact ⟨rfl, hend.out _ (by simp) hb6.out⟩
end Go.Proofs.YthpallkphamobaaGreatDoor
namespace Go.Proofs.YthpallkphamobaaGreatDoor
open Go.RowKit Go.Shelf

theorem results_err {fn : Func} {p : Tmp} (h : fn.results = #[.cell p 36]) (tmps : Array Value) (w : World) (g : Nat) (v : Value) (hp : tmps.getD p undef = .pointer (some ⟨g, 0, none⟩)) (hc : w.cell? ⟨g, 0, none⟩ = some v) :
    (results fn tmps).run Tryz.prog w = .ok v w := by
  have hp' : tmps[p]?.getD undef = .pointer (some ⟨g, 0, none⟩) := by simpa using hp
  have hu := run_underlying Tryz.underlying36 w
  simp [results, h, hp', asAddr]
  unfold loadVar
  simp only [Sem.run_bind, hu, Result.andThen_ok]
  go_simp
theorem right_ends (p : PolN) (pa pb : Option Addr) (c d : Nat) (w : World) (hp : PolAt w p pa c pb d) (hl : p.clears.length ≤ 1000000) (hl2 : p.rels.length ≤ 1000000) (n : Nat) (hn : checkF p = n) :
    Calls Tryz.prog 42 #[polV p pa c pb d] w fun e w' => e = (if n = 0 then .returned (.tuple #[]) else .panicked (errP n)) ∧ Below w.heap.size w w' :=
  (right_any p pa pb c d w hp hl hl2).mono fun e w' h => ⟨by
    by_cases h0 : n = 0
    · rw [if_pos h0]; exact h.1 (hn.trans h0)
    · rw [if_neg h0, ← hn]; exact h.2.1 (fun h1 => h0 (hn.symm.trans h1)), h.2.2⟩
set_option maxRecDepth 100000 in
set_option maxHeartbeats 8000000 in
theorem check_any (p : PolN) (pa pb : Option Addr) (c d : Nat) (w : World) (hp : PolAt w p pa c pb d) (hl : p.clears.length ≤ 1000000) (hl2 : p.rels.length ≤ 1000000) :
    Calls Tryz.prog 14 #[polV p pa c pb d] w fun e w' => e = .returned (.int .i64 (checkF p)) ∧ Below w.heap.size w w' := by
  have hb2 : Below w.heap.size w ((w.alloc (.cells #[labV p.dflt, .slice pa p.clears.length c, .slice pb p.rels.length d] 27)).alloc (.cells #[.int .i64 0] 36)) := xalloc (xalloc (xrefl w) _) _
  have hP : BlkG ((w.alloc (.cells #[labV p.dflt, .slice pa p.clears.length c, .slice pb p.rels.length d] 27)).alloc (.cells #[.int .i64 0] 36)) w.heap.size 27 [labV p.dflt, .slice pa p.clears.length c, .slice pb p.rels.length d] := (BlkG.new w _ _).below (xalloc (xrefl _) _)
  have hE : BlkG ((w.alloc (.cells #[labV p.dflt, .slice pa p.clears.length c, .slice pb p.rels.length d] 27)).alloc (.cells #[.int .i64 0] 36)) (w.heap.size + 1) 36 [.int .i64 0] := by
    have := BlkG.new (w.alloc (.cells #[labV p.dflt, .slice pa p.clears.length c, .slice pb p.rels.length d] 27)) 36 [.int .i64 0]
    rwa [World.size_alloc] at this
  have hri := right_ends p pa pb c d _ (hp.below hb2) hl hl2
  have hPr := Lib.hid (BlkG.range hP)
  generalize hn : checkF p = n at *
  have hri := Lib.hid (hri n rfl)
  replace hb2 := Lib.hid hb2
  replace hE := Lib.hid hE
  clear hP hp hn
  unfold polV at hri ⊢
  go_enter_defers Tryz.func14, Tryz.ntmps14
  by_cases h0 : n = 0
  · subst h0
    rw [if_pos rfl] at hri
    go_wp2_with (first
      | (refine wpList_load_mid rfl 27 _ rfl w.heap.size 0 rfl [labV p.dflt, .slice pa p.clears.length c, .slice pb p.rels.length d] _ hPr.out Tryz.underlying27 rfl (by kernel_rfl) ?_)
      | (go_at_call 42; refine hri.out.mono ?_; rintro e w3 ⟨rfl, hb3⟩; have hE3 := BlkG.below hE.out hb3; have cE3 := hE3.cell 0 (by simp); simp only [List.getElem_cons_zero] at cE3; have fE3 := hE3.free 0; replace hE3 := Lib.hid hE3; replace hb3 := Lib.hid (xtrans hb2.out hb3)))
    refine leaves_cons (f := 40) (args := #[.pointer (some ⟨w.heap.size + 1, 0, none⟩), .func (.func 41) #[] #[]]) (by simp) (by simp [go_sem]) ?_
    refine (caught_idle ⟨w.heap.size + 1, 0, none⟩ _ _).mono ?_
    rintro e u' w'' ⟨rfl, rfl, rfl⟩
    have ho : Only (· = w.heap.size + 1) w3 (w3.setCell ⟨w.heap.size + 1, 0, none⟩ (.int .i64 0)) := (Only.refl _ _).setCell _ _ rfl
    have hE4 := hE3.out.set 0 (.int .i64 0)
    have cE4 := hE4.cell 0 (by simp)
    simp only [List.set_cons_zero, List.getElem_cons_zero] at cE4
    exact ⟨_, results_err (p := 2) rfl _ _ (w.heap.size + 1) _ rfl cE4, rfl, ho.below hb3.out hb3.out.size (by rintro j rfl; omega)⟩
  · rw [if_neg h0] at hri
    go_wp2_with (first
      | (refine wpList_load_mid rfl 27 _ rfl w.heap.size 0 rfl [labV p.dflt, .slice pa p.clears.length c, .slice pb p.rels.length d] _ hPr.out Tryz.underlying27 rfl (by kernel_rfl) ?_)
      | (go_at_call 42; refine hri.out.mono ?_; rintro e w3 ⟨rfl, hb3⟩; have hE3 := BlkG.below hE.out hb3; have cE3 := hE3.cell 0 (by simp); simp only [List.getElem_cons_zero] at cE3; have fE3 := hE3.free 0; replace hE3 := Lib.hid hE3; replace hb3 := Lib.hid (xtrans hb2.out hb3)))
    refine leaves_cons (f := 40) (args := #[.pointer (some ⟨w.heap.size + 1, 0, none⟩), .func (.func 41) #[] #[]]) (by simp) (by simp [go_sem]) ?_
    refine (caught_panicking ⟨w.heap.size + 1, 0, none⟩ 41 #[] n _ w3 _ cE3 fE3 (enters_of Tryz.func41 (by kernel_rfl) rfl) (check1_any _)).mono ?_
    rintro e u' w'' ⟨rfl, rfl, rfl⟩
    have ho : Only (· = w.heap.size + 1) w3 (w3.setCell ⟨w.heap.size + 1, 0, none⟩ (.int .i64 n)) := (Only.refl _ _).setCell _ _ rfl
    have hE4 := hE3.out.set 0 (.int .i64 n)
    have cE4 := hE4.cell 0 (by simp)
    simp only [List.set_cons_zero, List.getElem_cons_zero] at cE4
    exact ⟨_, results_err (p := 2) rfl _ _ (w.heap.size + 1) _ rfl cE4, rfl, ho.below hb3.out hb3.out.size (by rintro j rfl; omega)⟩
end Go.Proofs.YthpallkphamobaaGreatDoor
namespace Go.Proofs.YthpallkphamobaaGreatDoor
open Go.RowKit Go.Shelf

theorem own_same {w w' : World} {base : Nat} {e : TypeId} {size : Nat} {v : Value} {n : Nat} {xs : List Value} (h : w.ownsRow base e size v n xs) (hk : ∀ g, v.ownBlock = some g → g < w.heap.size → w'.heap[g]? = w.heap[g]?) : w'.ownsRow base e size v n xs := by
  refine ⟨h.1, ?_⟩
  rcases h.2 with hn | ⟨g, cap, cur, rfl, hb, hg, r⟩
  · exact .inl hn
  · exact .inr ⟨g, cap, cur, rfl, hb, (hk g rfl (Array.getElem?_eq_some_iff.1 hg).1).trans hg, r⟩
theorem ownB_lt {w : World} {base : Nat} {e : TypeId} {size : Nat} {v : Value} {n : Nat} {xs : List Value} (h : w.ownsRow base e size v n xs) {g : Nat} (hv : v.ownBlock = some g) : base ≤ g ∧ g < w.heap.size := by
  rcases h.2 with ⟨rfl, -⟩ | ⟨g', cap, cur, rfl, hb, hg, r⟩
  · cases hv
  · obtain rfl : g' = g := Option.some.inj hv
    exact ⟨hb, (Array.getElem?_eq_some_iff.1 hg).1⟩
theorem only_grown {w w' : World} {row : Option Nat} (h : w.grownBy w' row) : Only (fun k => row = some k) w w' :=
  ⟨h.os, h.tape, h.output, h.size, fun k hk hn => h.block k hk fun e => hn e.symm⟩
end Go.Proofs.YthpallkphamobaaGreatDoor
namespace Go.Proofs.YthpallkphamobaaGreatDoor
open Go.RowKit Go.Shelf

theorem own_neG {w : World} {base bx : Nat} {v : Value} {vs : List Value} {e T : TypeId} {size n : Nat} {xs : List Value} (h : w.ownsRow base e size v n xs) (hb : BlkG w bx T vs) (hT : e ≠ T) : v.ownBlock ≠ some bx := by
  rcases h.2 with ⟨rfl, -⟩ | ⟨g, cap, cur, rfl, _, hg, _⟩
  · intro e; cases e
  · intro e2
    have : g = bx := Option.some.inj e2
    subst this
    unfold BlkG at hb
    rw [hg] at hb
    injection hb with hb
    injection hb with h1 h2
    exact hT h2
end Go.Proofs.YthpallkphamobaaGreatDoor
namespace Go.Proofs.YthpallkphamobaaGreatDoor
open Go.RowKit Go.Shelf

def rdC (lv : Value) (x : BitVec 64) (vc vr : Value) : List Value := [lv, labV x, vc, vr]
/-- A block of strings. -/
def StrB (W : World) (k : Nat) : Prop := ∃ cs, W.heap[k]? = some (.cells cs 9 (0, 0))
/-- The words left, in a reader's block. -/
structure WdAt (W : World) (g : Nat) (x : BitVec 64) (vc vr : Value) (ws : List (List UInt8)) : Prop where
  out : ∃ a c, BlkG W g 115 (rdC (.slice a ws.length c) x vc vr) ∧ ws.length ≤ c ∧ c ≤ 1000000 ∧ RowV W a (ws.map strL) ∧ ∀ y, a = some y → StrB W y.block
theorem StrB.ne {W : World} {k g : Nat} {T : TypeId} {vs : List Value} (h : StrB W k) (hb : BlkG W g T vs) (hT : T ≠ 9) : k ≠ g := fun e => by
  subst e
  obtain ⟨cs, h⟩ := h
  unfold BlkG at hb
  rw [hb] at h
  injection h with h
  injection h with h1 h2
  exact hT h2
theorem StrB.own {W : World} {k base : Nat} {e : TypeId} {size : Nat} {v : Value} {n : Nat} {xs : List Value} (h : StrB W k) (ho : W.ownsRow base e size v n xs) (hT : e ≠ 9) : v.ownBlock ≠ some k := by
  rcases ho.2 with ⟨rfl, -⟩ | ⟨g, cap, cur, rfl, _, hg, _⟩
  · intro e; cases e
  · intro e2
    have e3 : g = k := Option.some.inj e2
    subst e3
    obtain ⟨cs, h⟩ := h
    rw [hg] at h
    injection h with h
    injection h with h1 h2
    exact hT h2
theorem StrB.only {O : Nat → Prop} {W W' : World} {k : Nat} (h : StrB W k) (ho : Only O W W') (hk : ¬ O k) : StrB W' k := by
  obtain ⟨cs, h⟩ := h
  exact ⟨cs, (ho.same k (Array.getElem?_eq_some_iff.1 h).1 hk).trans h⟩
theorem row_onlyS {O : Nat → Prop} {W W' : World} {a : Option Addr} {vs : List Value} (h : RowV W a vs) (ho : Only O W W') (hO : ∀ y, a = some y → ¬ O y.block) : RowV W' a vs := fun i hi => by
  obtain ⟨b, o, e, hc⟩ := h i hi
  exact ⟨b, o, e, ho.cell hc (show ¬ O b from hO ⟨b, o, none⟩ e)⟩
/-- Only a reader's block has changed, which holds no strings. -/
structure OnlyG (g : Nat) (W W' : World) : Prop where
  o : Only (· = g) W W'
  s : ∀ k, StrB W k → k ≠ g
theorem OnlyG.size {g : Nat} {W W' : World} (h : OnlyG g W W') : W.heap.size ≤ W'.heap.size := h.o.size
theorem WdAt.only {O : Nat → Prop} {W W' : World} {g : Nat} {x : BitVec 64} {vc vr : Value} {ws : List (List UInt8)} (h : WdAt W g x vc vr ws) (ho : Only O W W') (hg : ¬ O g) (hs : ∀ k, StrB W k → ¬ O k) : WdAt W' g x vc vr ws := by
  obtain ⟨a, c, h1, h2, h3, h4, h5⟩ := h.out
  exact ⟨⟨a, c, h1.only ho hg, h2, h3, row_onlyS h4 ho fun y e => hs _ (h5 y e), fun y e => (h5 y e).only ho (hs _ (h5 y e))⟩⟩
theorem WdAt.below {W W' : World} {g : Nat} {x : BitVec 64} {vc vr : Value} {ws : List (List UInt8)} (h : WdAt W g x vc vr ws) (hb : Below W.heap.size W W') : WdAt W' g x vc vr ws := h.only (Below.only hb : Only (fun _ => False) W W') id fun _ _ => id
theorem WdAt.lt {W : World} {g : Nat} {x : BitVec 64} {vc vr : Value} {ws : List (List UInt8)} (h : WdAt W g x vc vr ws) : g < W.heap.size := by
  obtain ⟨a, c, h1, -⟩ := h.out
  exact h1.lt
set_option maxRecDepth 100000 in
set_option maxHeartbeats 4000000 in
theorem take_none (g : Nat) (x : BitVec 64) (vc vr : Value) (w : World) (h : WdAt w g x vc vr []) : Calls Tryz.prog 97 #[.pointer (some ⟨g, 0, none⟩)] w fun e w' => e = .panicked (errP 190) ∧ w = w' := by
  obtain ⟨a, c, hx, h1, h2, hr, -⟩ := h.out
  have hcx := hx.cell 0 (by simp [rdC])
  simp only [rdC, List.length_nil, List.getElem_cons_zero] at hcx
  have hm := Lib.hid fun W => must_false 190 W
  clear hx hr
  go_enter Tryz.func97, Tryz.ntmps97
  go_wp2_with (go_at_call 59; refine (hm.out _).mono ?_; rintro e w2 ⟨rfl, rfl⟩)
  exact ⟨rfl, rfl, rfl⟩
set_option maxRecDepth 100000 in
set_option maxHeartbeats 4000000 in
theorem take_one (g : Nat) (y : BitVec 64) (vc vr : Value) (x : List UInt8) (r : List (List UInt8)) (w : World) (h : WdAt w g y vc vr (x :: r)) : Calls Tryz.prog 97 #[.pointer (some ⟨g, 0, none⟩)] w fun e w' => e = .returned (.string ⟨x.toArray⟩) ∧ WdAt w' g y vc vr r ∧ OnlyG g w w' := by
  obtain ⟨a, c, hx, h1, h2, hr, hty⟩ := h.out
  obtain ⟨b, o, rfl, hc⟩ := hr 0 (by simp)
  have hsb : StrB w b := hty _ rfl
  have hbg : b ≠ g := hsb.ne hx (by decide)
  clear hty
  have hc0 : w.cell? ⟨b, o, none⟩ = some (.string ⟨x.toArray⟩) := hc
  rw [List.length_cons] at h1 hx
  have hcx := hx.cell 0 (by simp [rdC])
  simp only [rdC, List.getElem_cons_zero] at hcx
  have hfx := hx.free 0
  have hr2 : RowV w (some ⟨b, o + 1, none⟩) (r.map strL) := fun i hi => by
    obtain ⟨b', o', e, hc⟩ := hr (i + 1) (by simpa using hi)
    cases e
    exact ⟨b, o + 1, rfl, by rw [show o + 1 + i = o + (i + 1) by omega, hc]; simp⟩
  have hm := Lib.hid fun W => must_true 190 W
  have hl0 : (0 : Int) < (r.length : Int) + 1 := by omega
  replace hsb := Lib.hid hsb
  replace hr2 := Lib.hid hr2
  clear hc hr h
  replace hx := Lib.hid hx
  generalize hn : r.length = n at *
  by_cases hc1 : c = 1
  · subst hc1
    obtain rfl : n = 0 := by omega
    have hr0 : r = [] := List.length_eq_zero_iff.1 hn
    subst hr0
    go_enter Tryz.func97, Tryz.ntmps97
    go_wp2_with (go_at_call 59; refine (hm.out _).mono ?_; rintro e w2 ⟨rfl, rfl⟩)
    go_ret
    exact ⟨rfl, ⟨⟨_, _, hx.out.set 0 _, by simp, by omega, fun i hi => absurd hi (by simp), fun y e => by cases e; exact hsb.out.only ((Only.refl (· = g) w).setCell _ _ rfl) hbg⟩⟩, (Only.refl (· = g) w).setCell _ _ rfl, fun k hk => hk.ne hx.out (by decide)⟩
  · have hc2 : ¬ (c : Int) = 1 := by omega
    have hc3 : (1 : Int) < c := by omega
    go_enter Tryz.func97, Tryz.ntmps97
    go_wp2_with (go_at_call 59; refine (hm.out _).mono ?_; rintro e w2 ⟨rfl, rfl⟩)
    go_ret
    have ho := (Only.refl (· = g) w).setCell ⟨g, 0, none⟩ (.slice (some ⟨b, o + 1, none⟩) n (c - 1)) rfl
    refine ⟨rfl, ⟨⟨some ⟨b, o + 1, none⟩, c - 1, ?_, ?_, ?_, row_onlyS hr2.out ho fun y e => by cases e; exact hbg, fun y e => by cases e; exact hsb.out.only ho hbg⟩⟩, ho, fun k hk => hk.ne hx.out (by decide)⟩
    · rw [hn]; exact hx.out.set 0 _
    · omega
    · omega
/-! What was read, or giving up. -/
set_option maxRecDepth 100000 in
set_option maxHeartbeats 4000000 in
theorem gotL_ok (x : BitVec 64) (w : World) : Calls Tryz.prog 98 #[.int .u64 (iv64 x), .int .i64 0] w fun e w' => e = .returned (.int .u64 (iv64 x)) ∧ w = w' := by
  have hmt := Lib.hid fun W => must_true 190 W
  go_enter Tryz.func98, Tryz.ntmps98
  go_wp2_with (go_at_call 59; refine (hmt.out _).mono ?_; rintro e w2 ⟨rfl, rfl⟩)
  go_ret
  exact ⟨rfl, rfl⟩
set_option maxRecDepth 100000 in
set_option maxHeartbeats 4000000 in
theorem gotL_no (w : World) : Calls Tryz.prog 98 #[.int .u64 0, .int .i64 180] w fun e w' => e = .panicked (errP 190) ∧ w = w' := by
  have hmf := Lib.hid fun W => must_false 190 W
  go_enter Tryz.func98, Tryz.ntmps98
  go_wp2_with (go_at_call 59; refine (hmf.out _).mono ?_; rintro e w2 ⟨rfl, rfl⟩)
  exact ⟨rfl, rfl, rfl⟩
set_option maxRecDepth 100000 in
set_option maxHeartbeats 4000000 in
theorem gotA_ok (a : List Nat) (ha : a.length = 20) (w : World) : Calls Tryz.prog 122 #[adrV a, .int .i64 0] w fun e w' => e = .returned (adrV a) ∧ Below w.heap.size w w' := by
  have hmt := Lib.hid fun W => must_true 190 W
  have hl : (adrC a).length = 20 := by rw [adrC_len, ha]
  have hone : (adrC a).all (·.oneCell') = true := by simp [adrC, Value.oneCell']
  unfold adrV
  generalize adrC a = vs at *
  have hA : Hid (BlkG ((w.alloc (.cells vs.toArray 29)).alloc (.cells ([.int .u8 0, .int .u8 0, .int .u8 0, .int .u8 0, .int .u8 0, .int .u8 0, .int .u8 0, .int .u8 0, .int .u8 0, .int .u8 0, .int .u8 0, .int .u8 0, .int .u8 0, .int .u8 0, .int .u8 0, .int .u8 0, .int .u8 0, .int .u8 0, .int .u8 0, .int .u8 0]).toArray 29)) w.heap.size 29 vs) := Lib.hid ((BlkG.new w _ _).alloc _)
  have hR : Hid (BlkG ((w.alloc (.cells vs.toArray 29)).alloc (.cells ([.int .u8 0, .int .u8 0, .int .u8 0, .int .u8 0, .int .u8 0, .int .u8 0, .int .u8 0, .int .u8 0, .int .u8 0, .int .u8 0, .int .u8 0, .int .u8 0, .int .u8 0, .int .u8 0, .int .u8 0, .int .u8 0, .int .u8 0, .int .u8 0, .int .u8 0, .int .u8 0]).toArray 29)) (w.heap.size + 1) 29 [.int .u8 0, .int .u8 0, .int .u8 0, .int .u8 0, .int .u8 0, .int .u8 0, .int .u8 0, .int .u8 0, .int .u8 0, .int .u8 0, .int .u8 0, .int .u8 0, .int .u8 0, .int .u8 0, .int .u8 0, .int .u8 0, .int .u8 0, .int .u8 0, .int .u8 0, .int .u8 0]) := Lib.hid (by
    have := BlkG.new (w.alloc (.cells vs.toArray 29)) 29 [.int .u8 0, .int .u8 0, .int .u8 0, .int .u8 0, .int .u8 0, .int .u8 0, .int .u8 0, .int .u8 0, .int .u8 0, .int .u8 0, .int .u8 0, .int .u8 0, .int .u8 0, .int .u8 0, .int .u8 0, .int .u8 0, .int .u8 0, .int .u8 0, .int .u8 0, .int .u8 0]
    rwa [World.size_alloc] at this)
  have hb := Lib.hid (xalloc (xalloc (xrefl w) (.cells vs.toArray 29)) (.cells ([.int .u8 0, .int .u8 0, .int .u8 0, .int .u8 0, .int .u8 0, .int .u8 0, .int .u8 0, .int .u8 0, .int .u8 0, .int .u8 0, .int .u8 0, .int .u8 0, .int .u8 0, .int .u8 0, .int .u8 0, .int .u8 0, .int .u8 0, .int .u8 0, .int .u8 0, .int .u8 0]).toArray 29))
  go_enter Tryz.func122, Tryz.ntmps122
  go_wp2_with (first
    | (go_at_call 59; refine (hmt.out _).mono ?_; rintro e w2 ⟨rfl, rfl⟩)
    | (refine wpList_load_blkG rfl 29 _ rfl w.heap.size rfl 29 _ _ hA.out Tryz.underlying29 rfl (by rw [hl]; kernel_rfl) ?_)
    | (refine wpList_store_blkG rfl 29 _ _ rfl (w.heap.size + 1) rfl 29 [.int .u8 0, .int .u8 0, .int .u8 0, .int .u8 0, .int .u8 0, .int .u8 0, .int .u8 0, .int .u8 0, .int .u8 0, .int .u8 0, .int .u8 0, .int .u8 0, .int .u8 0, .int .u8 0, .int .u8 0, .int .u8 0, .int .u8 0, .int .u8 0, .int .u8 0, .int .u8 0] vs hR.out rfl (by rw [hl]; rfl) (by rw [hl]; kernel_rfl) hone ?_; intro w4 hB4 ho4; have hb4 := Lib.hid (ho4.below hb.out hb.out.size (by rintro k rfl; omega)); replace hB4 := Lib.hid hB4; clear ho4))
  exact bodyPost_ret (results_blkG (p := 4) rfl _ _ (w.heap.size + 1) 29 _ _ rfl hB4.out Tryz.underlying29 rfl (by rw [hl]; kernel_rfl)) rfl ⟨rfl, hb4.out⟩
set_option maxRecDepth 100000 in
set_option maxHeartbeats 4000000 in
theorem gotA_no (v : Array Value) (w : World) : Calls Tryz.prog 122 #[.agg v, .int .i64 190] w fun e w' => e = .panicked (errP 190) ∧ Below w.heap.size w w' := by
  have hmf := Lib.hid fun W => must_false 190 W
  go_enter Tryz.func122, Tryz.ntmps122
  go_wp2_with (go_at_call 59; refine (hmf.out _).mono ?_; rintro e w2 ⟨rfl, rfl⟩)
  exact ⟨rfl, rfl, xalloc (xalloc (xrefl w) _) _⟩
end Go.Proofs.YthpallkphamobaaGreatDoor
namespace Go.Proofs.YthpallkphamobaaGreatDoor

def takeC (p : PolN) (ws : List (List UInt8)) : Option (PolN × List (List UInt8)) :=
  if p.rels = [] then match ws with
    | a :: x :: r => (addrF a).bind fun a => (parseP x).map fun d => ({ p with clears := p.clears ++ [(a, d)] }, r)
    | _ => none
  else none
def takeR (p : PolN) (ws : List (List UInt8)) : Option (PolN × List (List UInt8)) := match ws with
  | a :: n :: x :: r => (addrF a).bind fun a => (numF n).bind fun n => (parseP x).map fun d => ({ p with rels := p.rels ++ [(a, n, d)] }, r)
  | _ => none
def takeD (p : PolN) (ws : List (List UInt8)) : Option (PolN × List (List UInt8)) := match ws with
  | x :: r => (parseP x).map fun d => ({ p with dflt := d }, r)
  | _ => none
def endF (o : Option (PolN × List (List UInt8))) : Option PolN := o.bind fun q => if q.2 = [] then some q.1 else none
theorem line_first (p : PolN) (w : List UInt8) (ws : List (List UInt8)) : lineF p true (w :: ws) = if w = wDefault then endF (takeD p ws) else none := by
  unfold endF takeD
  match ws with
  | [] => unfold lineF; simp
  | [x] =>
    unfold lineF
    by_cases h : w = wDefault
    · simp only [h, if_true]; cases parseP x <;> simp
    · simp only [h, if_false]
  | x :: y :: r =>
    unfold lineF
    by_cases h : w = wDefault
    · simp only [h, if_true]; cases parseP x <;> simp
    · simp only [h, if_false]
theorem clear_ne : wClear ≠ wRelease := by decide
theorem line_next (p : PolN) (w : List UInt8) (ws : List (List UInt8)) : lineF p false (w :: ws) = if w = wClear then endF (takeC p ws) else if w = wRelease then endF (takeR p ws) else none := by
  unfold endF takeC takeR
  match ws with
  | [] => unfold lineF; simp
  | [a] => unfold lineF; simp
  | [a, x] =>
    unfold lineF
    by_cases h : w = wClear
    · simp only [h, if_true]
      by_cases h2 : p.rels = []
      · simp only [h2, and_self, if_true]
        cases addrF a with
        | none => simp
        | some b => cases parseP x <;> simp
      · simp only [h2, and_false, if_false]; simp
    · simp only [h, false_and, if_false]; simp
  | [a, n, x] =>
    unfold lineF
    by_cases h : w = wClear
    · have h2 : ¬ w = wRelease := fun e => clear_ne (h.symm.trans e)
      simp only [h2, if_false, h, if_true]
      by_cases h3 : p.rels = []
      · simp only [h3, if_true]
        cases addrF a with
        | none => simp [clear_ne]
        | some b => cases parseP n <;> simp [clear_ne]
      · simp only [h3, if_false]; simp [clear_ne]
    · simp only [h, if_false]
      by_cases h2 : w = wRelease
      · simp only [h2, if_true]
        cases addrF a with
        | none => simp
        | some b => cases numF n with
          | none => simp
          | some k => cases parseP x <;> simp
      · simp only [h2, if_false]
  | a :: n :: x :: y :: r =>
    unfold lineF
    by_cases h : w = wClear
    · simp only [h, if_true]
      by_cases h3 : p.rels = []
      · simp only [h3, if_true]
        cases addrF a with
        | none => simp
        | some b => cases parseP n <;> simp
      · simp only [h3, if_false]; simp
    · simp only [h, if_false]
      by_cases h2 : w = wRelease
      · simp only [h2, if_true]
        cases addrF a with
        | none => simp
        | some b => cases numF n with
          | none => simp
          | some k => cases parseP x <;> simp
      · simp only [h2, if_false]
end Go.Proofs.YthpallkphamobaaGreatDoor
