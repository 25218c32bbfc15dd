/- Texts of this claim, merged; no condition. -/
import Derived.Tactics2
import Derived.Defers
import Derived.Recover
import Derived.RowKit3
import Derived.Test.YthpallkphamobaaGreatDoorI12
import Derived.Test.YthpallkphamobaaGreatDoorI05
import Derived.Test.YthpallkphamobaaGreatDoorI02
import Derived.Test.YthpallkphamobaaGreatDoorI01
set_option linter.all false
namespace Go.Proofs.YthpallkphamobaaGreatDoor
open Go.RowKit Go.Shelf

/-- What is given up with. -/
def errP (n : Nat) : List PanicEntry := [{ v := .iface 36 (.int .i64 n), recovered := false }]
def errD (n : Nat) : List PanicEntry := (errP n).map fun e => { e with recovered := true }
theorem must_true (n : Nat) (w : World) : Calls Tryz.prog 59 #[.bool true, .int .i64 n] w fun e w' => e = .returned (.tuple #[]) ∧ w = w' := by
  go_enter Tryz.func59, Tryz.ntmps59
  go_wp2
  go_end0
  exact ⟨rfl, rfl⟩
theorem must_false (n : Nat) (w : World) : Calls Tryz.prog 59 #[.bool false, .int .i64 n] w fun e w' => e = .panicked (errP n) ∧ w = w' := by
  go_enter Tryz.func59, Tryz.ntmps59
  go_wp2
  exact ⟨rfl, rfl, rfl⟩
theorem check1_any (w : World) : Calls Tryz.prog 41 #[] w fun e w' => e = .returned (.tuple #[]) ∧ w = w' := by
  go_enter Tryz.func41, Tryz.ntmps41
  go_wp2
  go_end0
  exact ⟨rfl, rfl⟩
set_option maxRecDepth 100000 in
set_option maxHeartbeats 4000000 in
theorem caught_panicking (pe : Addr) (cf : FuncId) (caps : Array Value) (n : Nat) (v1 : Value) (w w2 : World) (hc : w.cell? pe = some v1) (hz : w.frozen? pe = false) (he : ∀ args w, (callFunc cf args).run Tryz.prog w = .ok (.enter cf args) w)
    (hcl : Calls Tryz.prog cf caps (w.setCell pe (.int .i64 n)) fun e w' => e = .returned (.tuple #[]) ∧ w2 = w') :
    CallsD Tryz.prog 40 #[.pointer (some pe), .func (.func cf) #[] caps] (.panicking (errP n)) w fun e u' w' =>
      e = .returned (.tuple #[]) ∧ u' = .panicking (errD n) ∧ w2 = w' := by
  have hta : ∀ w, (Instr.typeAssert (.iface 36 (.int .i64 n)) 20 36 false).run Tryz.prog w = .ok (.int .i64 n) w := fun _ => by kernel_rfl
  replace hcl := Lib.hid hcl
  refine callsD_of_wpS Tryz.func40 rfl fun c₀ cs hu => ?_
  apply wpS_seq
  apply wpS_region
  simp [wpOpsS, go_sem, recoverD, hu, Tryz.ntmps40, Exit.thenS, errP]
  refine wpS_of_wp ?_
  go_wp2_with (refine hcl.out.mono ?_; rintro e w2 ⟨rfl, rfl⟩)
  simp [bodyPostS, results, Tryz.results40, errD, errP]
set_option maxRecDepth 100000 in
set_option maxHeartbeats 4000000 in
theorem caught_idle (pe : Addr) (f : Value) (w : World) :
    CallsD Tryz.prog 40 #[.pointer (some pe), f] .returning w fun e u' w' => e = .returned (.tuple #[]) ∧ u' = .returning ∧ w' = w := by
  refine callsD_of_wpS Tryz.func40 rfl fun c₀ cs hu => ?_
  apply wpS_seq
  apply wpS_region
  simp [wpOpsS, go_sem, recoverD, hu, Tryz.ntmps40, Exit.thenS]
  refine wpS_of_wp ?_
  go_wp2
  cases c₀
  simp_all [bodyPostS, results, Tryz.results40]
/-- How right ends. -/
def RightE (w : World) (p : PolN) (e : Ending) (w' : World) : Prop := (checkF p = 0 → e = .returned (.tuple #[])) ∧ (checkF p ≠ 0 → e = .panicked (errP (checkF p))) ∧ Below w.heap.size w w'
set_option maxRecDepth 100000 in
set_option maxHeartbeats 8000000 in
theorem right_any (p : PolN) (pa pb : Option Addr) (c d : Nat) (w : World) (hp : PolAt w p pa c pb d) (hl : p.clears.length ≤ 1000000) (hl2 : p.rels.length ≤ 1000000) :
    Calls Tryz.prog 42 #[polV p pa c pb d] w (RightE w p) := by
  have hbe : Below w.heap.size w (w.alloc (.cells #[labV p.dflt, .slice pa p.clears.length c, .slice pb p.rels.length d] 27)) := xalloc (xrefl w) _
  have hP : BlkG (w.alloc (.cells #[labV p.dflt, .slice pa p.clears.length c, .slice pb p.rels.length d] 27)) w.heap.size 27 [labV p.dflt, .slice pa p.clears.length c, .slice pb p.rels.length d] := BlkG.new w _ _
  have hC := hp.below hbe
  have cP1 := hP.cell 1 (by simp)
  have cP2 := hP.cell 2 (by simp)
  simp only [List.getElem_cons_succ, List.getElem_cons_zero] at cP1 cP2
  have hmt := Lib.hid must_true
  have hmf := Lib.hid must_false
  have hmk : ∀ (fn : Fn) (first cap : Array Value) (w : World), (Instr.makeFunc fn first cap).run Tryz.prog w = .ok (.func fn first cap) w := fun _ _ _ _ => rfl
  have hend : ∀ {n : Nat} {W : World}, checkF p = n → n ≠ 0 → Below w.heap.size w W → RightE w p (.panicked (errP n)) W := fun {n W} e hn hb => ⟨fun h0 => absurd (e.symm.trans h0) hn, fun _ => by rw [e], hb⟩
  by_cases h3 : 64 < p.clears.length ∨ 64 < p.rels.length
  · have he : checkF p = 3 := by unfold checkF; rw [if_pos h3]
    replace hend := Lib.hid (fun (W : World) (hb : Below w.heap.size w W) => hend (W := W) he (by decide) hb)
    replace hbe := Lib.hid hbe
    unfold polV
    by_cases hc : (p.clears.length : Int) ≤ 64
    · have hr : ¬ (p.rels.length : Int) ≤ 64 := by omega
      clear he h3 hp hP hC
      go_enter Tryz.func42, Tryz.ntmps42
      go_wp2_with (go_at_call 59; refine (hmf.out 3 _).mono ?_; rintro e w3 ⟨rfl, rfl⟩)
      exact ⟨rfl, hend.out _ hbe.out⟩
    · clear he h3 hp hP hC
      go_enter Tryz.func42, Tryz.ntmps42
      go_wp2_with (go_at_call 59; refine (hmf.out 3 _).mono ?_; rintro e w3 ⟨rfl, rfl⟩)
      exact ⟨rfl, hend.out _ hbe.out⟩
  · have h1 : p.clears.length ≤ 64 := by omega
    have h2 : p.rels.length ≤ 64 := by omega
    have hbad := Lib.hid (check_bad h1 h2)
    have hgood := Lib.hid (check_good h1 h2)
    have hr1 := Lib.hid (rising_clearC_any p.clears pa c _ hC.cl hl (fun x hx => hp.ok.adrC hx))
    have hr2 := Lib.hid (fun W (hW : Below (w.alloc (.cells #[labV p.dflt, .slice pa p.clears.length c, .slice pb p.rels.length d] 27)).heap.size (w.alloc (.cells #[labV p.dflt, .slice pa p.clears.length c, .slice pb p.rels.length d] 27)) W) => rising_relC_any p.rels pb d W (hC.re.below hW) hl2 (fun x hx => hp.ok.adrR hx))
    have hfi := Lib.hid (fun W (hW : Below (w.alloc (.cells #[labV p.dflt, .slice pa p.clears.length c, .slice pb p.rels.length d] 27)).heap.size (w.alloc (.cells #[labV p.dflt, .slice pa p.clears.length c, .slice pb p.rels.length d] 27)) W) =>
      first_relC_any p.rels (fun x => !okR p x) 79 #[.pointer (some ⟨w.heap.size, 0, none⟩)] (enters_of Tryz.func79 (by kernel_rfl) rfl) pb d W (hC.re.below hW) hl2 (rows_lenR _ fun x hx => hp.ok.adrR hx) relC_one
        (fun x hx W' hW' => right3_any p x w.heap.size pa pb c d W' (hC.below (xtrans hW hW')) (hp.ok.adrR hx) hl (hP.below (xtrans hW hW'))))
    have hr : riseF ordC p.clears = true ∧ riseF ordR p.rels = true ∧ p.rels.all (okR p) = true ↔ riseF ordC p.clears = true ∧ riseF ordR p.rels = true ∧ p.rels.find? (fun x => !okR p x) = none := by
      rw [List.find?_eq_none, List.all_eq_true]
      simp
    have h64a : (p.clears.length : Int) ≤ 64 := by omega
    have h64b : (p.rels.length : Int) ≤ 64 := by omega
    have h22 : ∀ x, p.rels.find? (fun x => !okR p x) = some x → (relC x).length = 22 := fun x hx => relC_len (hp.ok.adrR (List.mem_of_find?_eq_some hx))
    rw [hr] at hbad hgood
    replace hend := Lib.hid (fun (W : World) (hx : ¬ (riseF ordC p.clears = true ∧ riseF ordR p.rels = true ∧ p.rels.find? (fun x => !okR p x) = none)) (hb : Below w.heap.size w W) => hend (W := W) (hbad.out hx) (by decide) hb)
    have hret : ∀ W, (riseF ordC p.clears = true ∧ riseF ordR p.rels = true ∧ p.rels.find? (fun x => !okR p x) = none) → Below w.heap.size w W → RightE w p (.returned (.tuple #[])) W := fun W hx hb => ⟨fun _ => rfl, fun h0 => absurd (hgood.out hx) h0, hb⟩
    replace hret := Lib.hid hret
    unfold polV
    generalize hA : riseF ordC p.clears = A at *
    generalize hB : riseF ordR p.rels = B at *
    generalize hO : p.rels.find? (fun x => !okR p x) = O at *
    replace hbe := Lib.hid hbe
    replace cP1 := Lib.hid cP1
    clear hbad hgood hr hC hP hp h3 hA hB hO h1 h2 hl hl2
    go_enter Tryz.func42, Tryz.ntmps42
    go_wp2_with (first
      | (go_at_call 59; refine (hmt.out 3 _).mono ?_; rintro e w3 ⟨rfl, rfl⟩)
      | (go_at_call 73; refine hr1.out.mono ?_; rintro e w2 ⟨rfl, hb2⟩; have cP3 := cbel hb2 cP2; clear cP2; replace hr2 := Lib.hid (hr2.out _ hb2); replace hfi := Lib.hid (fun W hW => hfi.out W (xtrans hb2 hW)); replace hb2 := Lib.hid (xtrans hbe.out hb2)))
    cases A with
    | false =>
      go_wp2_with (go_at_call 59; refine (hmf.out 2 _).mono ?_; rintro e w3 ⟨rfl, rfl⟩)
      exact ⟨rfl, hend.out _ (by simp) hb2.out⟩
    | true =>
      go_wp2_with (first
        | (go_at_call 59; refine (hmt.out 2 _).mono ?_; rintro e w3 ⟨rfl, rfl⟩)
        | (go_at_call 75; refine hr2.out.mono ?_; rintro e w4 ⟨rfl, hb4⟩; have cP4 := cbel hb4 cP3; clear cP3; replace hfi := Lib.hid (hfi.out _ hb4); replace hb4 := Lib.hid (xtrans hb2.out hb4)))
      cases B with
      | false =>
        go_wp2_with (go_at_call 59; refine (hmf.out 2 _).mono ?_; rintro e w3 ⟨rfl, rfl⟩)
        exact ⟨rfl, hend.out _ (by simp) hb4.out⟩
      | true =>
        cases O with
        | none =>
          go_wp2_with (first
            | (go_at_call 59; refine (hmt.out 2 _).mono ?_; rintro e w3 ⟨rfl, rfl⟩)
            | (go_at_call 38; refine hfi.out.mono ?_; rintro e w5 ⟨rfl, hb5⟩; replace hb5 := Lib.hid (xtrans hb4.out hb5))
            | (refine wpList_store_blkG rfl 67 _ _ rfl w5.heap.size rfl 67 zrelC zrelC (BlkG.new w5 _ _) rfl rfl (by kernel_rfl) (by decide) ?_; intro w6 hB6 ho6; have hb6 := ho6.below (xalloc (xrefl w5) _) (xalloc (xrefl w5) (.cells zrelC.toArray 67)).size (by rintro k rfl; exact Nat.le_refl _); replace hb6 := Lib.hid (xtrans hb5.out hb6); clear hB6 ho6))
          go_end0
          exact hret.out _ (by simp) hb6.out
        | some x =>
          have hlx := h22 x rfl
          have hone := relC_one x
          go_wp2_with (first
            | (go_at_call 59; refine (hmt.out 2 _).mono ?_; rintro e w3 ⟨rfl, rfl⟩)
            | (go_at_call 59; refine (hmf.out 2 _).mono ?_; rintro e w3 ⟨rfl, rfl⟩)
            | (go_at_call 38; refine hfi.out.mono ?_; rintro e w5 ⟨rfl, hb5⟩; replace hb5 := Lib.hid (xtrans hb4.out hb5))
            | (refine wpList_store_blkG rfl 67 _ _ rfl w5.heap.size rfl 67 zrelC (relC x) (BlkG.new w5 _ _) rfl (by rw [hlx]; rfl) (by rw [hlx]; kernel_rfl) hone ?_; intro w6 hB6 ho6; have hb6 := ho6.below (xalloc (xrefl w5) _) (xalloc (xrefl w5) (.cells zrelC.toArray 67)).size (by rintro k rfl; exact Nat.le_refl _); replace hb6 := Lib.hid (xtrans hb5.out hb6); clear hB6 ho6))
          exact ⟨rfl, hend.out _ (by simp) hb6.out⟩
end Go.Proofs.YthpallkphamobaaGreatDoor
namespace Go.Proofs.YthpallkphamobaaGreatDoor
open Go.RowKit Go.Shelf

theorem results_err {fn : Func} {p : Tmp} (h : fn.results = #[.cell p 36]) (tmps : Array Value) (w : World) (g : Nat) (v : Value) (hp : tmps.getD p undef = .pointer (some ⟨g, 0, none⟩)) (hc : w.cell? ⟨g, 0, none⟩ = some v) :
    (results fn tmps).run Tryz.prog w = .ok v w := by
  have hp' : tmps[p]?.getD undef = .pointer (some ⟨g, 0, none⟩) := by simpa using hp
  have hu := run_underlying Tryz.underlying36 w
  simp [results, h, hp', asAddr]
  unfold loadVar
  simp only [Sem.run_bind, hu, Result.andThen_ok]
  go_simp
theorem right_ends (p : PolN) (pa pb : Option Addr) (c d : Nat) (w : World) (hp : PolAt w p pa c pb d) (hl : p.clears.length ≤ 1000000) (hl2 : p.rels.length ≤ 1000000) (n : Nat) (hn : checkF p = n) :
    Calls Tryz.prog 42 #[polV p pa c pb d] w fun e w' => e = (if n = 0 then .returned (.tuple #[]) else .panicked (errP n)) ∧ Below w.heap.size w w' :=
  (right_any p pa pb c d w hp hl hl2).mono fun e w' h => ⟨by
    by_cases h0 : n = 0
    · rw [if_pos h0]; exact h.1 (hn.trans h0)
    · rw [if_neg h0, ← hn]; exact h.2.1 (fun h1 => h0 (hn.symm.trans h1)), h.2.2⟩
set_option maxRecDepth 100000 in
set_option maxHeartbeats 8000000 in
theorem check_any (p : PolN) (pa pb : Option Addr) (c d : Nat) (w : World) (hp : PolAt w p pa c pb d) (hl : p.clears.length ≤ 1000000) (hl2 : p.rels.length ≤ 1000000) :
    Calls Tryz.prog 14 #[polV p pa c pb d] w fun e w' => e = .returned (.int .i64 (checkF p)) ∧ Below w.heap.size w w' := by
  have hb2 : Below w.heap.size w ((w.alloc (.cells #[labV p.dflt, .slice pa p.clears.length c, .slice pb p.rels.length d] 27)).alloc (.cells #[.int .i64 0] 36)) := xalloc (xalloc (xrefl w) _) _
  have hP : BlkG ((w.alloc (.cells #[labV p.dflt, .slice pa p.clears.length c, .slice pb p.rels.length d] 27)).alloc (.cells #[.int .i64 0] 36)) w.heap.size 27 [labV p.dflt, .slice pa p.clears.length c, .slice pb p.rels.length d] := (BlkG.new w _ _).below (xalloc (xrefl _) _)
  have hE : BlkG ((w.alloc (.cells #[labV p.dflt, .slice pa p.clears.length c, .slice pb p.rels.length d] 27)).alloc (.cells #[.int .i64 0] 36)) (w.heap.size + 1) 36 [.int .i64 0] := by
    have := BlkG.new (w.alloc (.cells #[labV p.dflt, .slice pa p.clears.length c, .slice pb p.rels.length d] 27)) 36 [.int .i64 0]
    rwa [World.size_alloc] at this
  have hri := right_ends p pa pb c d _ (hp.below hb2) hl hl2
  have hPr := Lib.hid (BlkG.range hP)
  generalize hn : checkF p = n at *
  have hri := Lib.hid (hri n rfl)
  replace hb2 := Lib.hid hb2
  replace hE := Lib.hid hE
  clear hP hp hn
  unfold polV at hri ⊢
  go_enter_defers Tryz.func14, Tryz.ntmps14
  by_cases h0 : n = 0
  · subst h0
    rw [if_pos rfl] at hri
    go_wp2_with (first
      | (refine wpList_load_mid rfl 27 _ rfl w.heap.size 0 rfl [labV p.dflt, .slice pa p.clears.length c, .slice pb p.rels.length d] _ hPr.out Tryz.underlying27 rfl (by kernel_rfl) ?_)
      | (go_at_call 42; refine hri.out.mono ?_; rintro e w3 ⟨rfl, hb3⟩; have hE3 := BlkG.below hE.out hb3; have cE3 := hE3.cell 0 (by simp); simp only [List.getElem_cons_zero] at cE3; have fE3 := hE3.free 0; replace hE3 := Lib.hid hE3; replace hb3 := Lib.hid (xtrans hb2.out hb3)))
    refine leaves_cons (f := 40) (args := #[.pointer (some ⟨w.heap.size + 1, 0, none⟩), .func (.func 41) #[] #[]]) (by simp) (by simp [go_sem]) ?_
    refine (caught_idle ⟨w.heap.size + 1, 0, none⟩ _ _).mono ?_
    rintro e u' w'' ⟨rfl, rfl, rfl⟩
    have ho : Only (· = w.heap.size + 1) w3 (w3.setCell ⟨w.heap.size + 1, 0, none⟩ (.int .i64 0)) := (Only.refl _ _).setCell _ _ rfl
    have hE4 := hE3.out.set 0 (.int .i64 0)
    have cE4 := hE4.cell 0 (by simp)
    simp only [List.set_cons_zero, List.getElem_cons_zero] at cE4
    exact ⟨_, results_err (p := 2) rfl _ _ (w.heap.size + 1) _ rfl cE4, rfl, ho.below hb3.out hb3.out.size (by rintro j rfl; omega)⟩
  · rw [if_neg h0] at hri
    go_wp2_with (first
      | (refine wpList_load_mid rfl 27 _ rfl w.heap.size 0 rfl [labV p.dflt, .slice pa p.clears.length c, .slice pb p.rels.length d] _ hPr.out Tryz.underlying27 rfl (by kernel_rfl) ?_)
      | (go_at_call 42; refine hri.out.mono ?_; rintro e w3 ⟨rfl, hb3⟩; have hE3 := BlkG.below hE.out hb3; have cE3 := hE3.cell 0 (by simp); simp only [List.getElem_cons_zero] at cE3; have fE3 := hE3.free 0; replace hE3 := Lib.hid hE3; replace hb3 := Lib.hid (xtrans hb2.out hb3)))
    refine leaves_cons (f := 40) (args := #[.pointer (some ⟨w.heap.size + 1, 0, none⟩), .func (.func 41) #[] #[]]) (by simp) (by simp [go_sem]) ?_
    refine (caught_panicking ⟨w.heap.size + 1, 0, none⟩ 41 #[] n _ w3 _ cE3 fE3 (enters_of Tryz.func41 (by kernel_rfl) rfl) (check1_any _)).mono ?_
    rintro e u' w'' ⟨rfl, rfl, rfl⟩
    have ho : Only (· = w.heap.size + 1) w3 (w3.setCell ⟨w.heap.size + 1, 0, none⟩ (.int .i64 n)) := (Only.refl _ _).setCell _ _ rfl
    have hE4 := hE3.out.set 0 (.int .i64 n)
    have cE4 := hE4.cell 0 (by simp)
    simp only [List.set_cons_zero, List.getElem_cons_zero] at cE4
    exact ⟨_, results_err (p := 2) rfl _ _ (w.heap.size + 1) _ rfl cE4, rfl, ho.below hb3.out hb3.out.size (by rintro j rfl; omega)⟩
end Go.Proofs.YthpallkphamobaaGreatDoor
namespace Go.Proofs.YthpallkphamobaaGreatDoor
open Go.RowKit Go.Shelf

theorem Fac.only' {S O : Nat → Prop} {R : World → Prop} {W W' : World} (h : Fac S R) (hR : R W) (ho : Only O W W') (hO : ∀ k, S k → ¬ O k) : R W' := h.on.only hR ho hO
theorem take_snoc {α : Type} {l pre : List α} {x : α} {k : Nat} (hk : k ≤ l.length) (h : pre ++ [x] = l.take k) : ∃ hl : pre.length < l.length, l[pre.length] = x ∧ pre = l.take pre.length := by
  have hlen := congrArg List.length h
  rw [List.length_append, List.length_take, List.length_singleton] at hlen
  have hkk : k = pre.length + 1 := by omega
  have hl : pre.length < l.length := by omega
  refine ⟨hl, ?_, ?_⟩
  · rw [hkk, List.take_succ_eq_append_getElem hl] at h
    have := (List.append_inj' h rfl).2
    simpa using this.symm
  · rw [hkk, List.take_succ_eq_append_getElem hl] at h
    exact (List.append_inj' h rfl).1

/-- How a round may be left. -/
def postL (k : Nat) (St : Nat → (Nat → Prop) → World → Prop) (Stop : Nat → Code → (Nat → Prop) → World → Prop) (S : Nat → Prop) (W : World) : Exit → Act → World → Prop
  | .normal, _, W' => Only S W W' ∧ ∃ S', (∀ j, S' j → S j ∨ W.heap.size ≤ j) ∧ St (k + 1) S' W'
  | .ret, _, W' => Only S W W' ∧ ∃ S', (∀ j, S' j → S j ∨ W.heap.size ≤ j) ∧ Stop k .ret S' W'
  | .exit id, _, W' => Only S W W' ∧ ∃ S', (∀ j, S' j → S j ∨ W.heap.size ≤ j) ∧ Stop k (.exit id) S' W'
  | .goto t, _, W' => Only S W W' ∧ ∃ S', (∀ j, S' j → S j ∨ W.heap.size ≤ j) ∧ Stop k (.goto t) S' W'
  | .panic _, _, _ => False
  | .outgrown, _, _ => False

theorem wp_rangeL {P : Program} {α : Type} {g : Operand} {ps : Array Tmp} {assign body : Code} {Q : Exit → Act → World → Prop} {a : Act} {w w0 : World}
    {gf : Nat} {lb : Array Value} (hg : a.eval g = .func (.func gf) #[] lb) (eg : ∀ args w, (callFunc gf args).run P w = .ok (.enter gf args) w)
    {encs : α → Array Value} {Rd : Nat → Prop} (l : List α) (hRd : ∀ k, Rd k → k < w.heap.size) (hw0 : Below w0.heap.size w0 w)
    (hseq : ∀ W, Below w.heap.size w W → SeqP P gf lb encs Rd (fun xs => xs = l) (fun pre => ∃ k, k ≤ l.length ∧ pre = l.take k) l.length false W) (hps : ∀ x, (encs x).size = ps.size)
    (St : Nat → (Nat → Prop) → World → Prop) (Stop : Nat → Code → (Nat → Prop) → World → Prop) (fac : ∀ k S, Fac S (St k S)) (facS : ∀ k c S, Fac S (Stop k c S))
    (S0 : Nat → Prop) (hS0 : ∀ j, S0 j → w0.heap.size ≤ j ∧ ¬ Rd j) (h0 : St 0 S0 w)
    (hround : ∀ (l0 k : Nat) (hk : k < l.length) (W : World),
      assign.wpIn (Fence.wide.inRound l0) 0 P (Exit.then (fun a₁ W₁ => W₁ = W ∧ ∀ S W₂, Below w0.heap.size w0 W₂ → w.heap.size ≤ W₂.heap.size → (∀ j, Rd j → W₂.heap[j]? = w.heap[j]?) → (∀ j, S j → w0.heap.size ≤ j ∧ ¬ Rd j) → St k S W₂ →
        body.wpIn (Fence.wide.inRound l0) 0 P (postL k St Stop S W₂) a₁ W₂) (fun _ _ _ => False))
        { tmps := (ps.zip (encs l[k])).foldl (fun t (p, v) => t.setIfInBounds p v) a.tmps, defers := [] } W)
    (hdone : ∀ (D : Nat) (S : Nat → Prop) (W : World), w.heap.size ≤ D → ¬ S D → Below w0.heap.size w0 W → (∀ j, Rd j → W.heap[j]? = w.heap[j]?) → (∀ j, S j → w0.heap.size ≤ j) → St l.length S W → W.heap[D]? = some (.deferred (some [])) → Q .normal { a with defers := { target := .collected D, args := #[] } :: a.defers } W)
    (hstop : ∀ (D k : Nat) (c : Code) (S : Nat → Prop) (W : World), k < l.length → w.heap.size ≤ D → ¬ S D → Below w0.heap.size w0 W → (∀ j, Rd j → W.heap[j]? = w.heap[j]?) → (∀ j, S j → w0.heap.size ≤ j) → Stop k c S W → W.heap[D]? = some (.deferred (some [])) → c.wpIn Fence.wide 0 P Q { a with defers := { target := .collected D, args := #[] } :: a.defers } W) :
    (Code.rangeFunc g ps assign body).wpIn Fence.wide 0 P Q a w := by
  have stab : ∀ (F : Nat → (Nat → Prop) → World → Prop) (_ : ∀ k S, Fac S (F k S)) (m : List α → Nat), Stable w.heap.size (fun O (pre : List α) W => Below w0.heap.size w0 W ∧ w.heap.size ≤ W.heap.size ∧ (∀ j, Rd j → W.heap[j]? = w.heap[j]?) ∧ ∃ S, (∀ j, S j → ¬ O j ∧ w0.heap.size ≤ j ∧ ¬ Rd j) ∧ F (m pre) S W) := by
    rintro F fF m O O' s W W' ⟨h1, h2, h3, S, h4, h5⟩ hO hon hO'
    refine ⟨hon.below h1 h1.size (fun i hi => by have := hO i hi; have := hw0.size; omega), Nat.le_trans h2 hon.size, fun j hj => ?_, S, fun j hj => ⟨fun h => ?_, (h4 j hj).2⟩, (fF _ S).only' h5 hon fun j hj => (h4 j hj).1⟩
    · have := hRd j hj
      rw [hon.same j (by omega) (fun h => by have := hO j h; omega)]
      exact h3 j hj
    · have hl := (fF _ S).lt _ h5 j hj
      rcases hO' j h with h | h
      · exact (h4 j hj).1 h
      · omega
  refine wp_rangeP hg eg (encs := encs) (Rd := Rd) (S := fun xs => xs = l) (Sp := fun pre => ∃ k, k ≤ l.length ∧ pre = l.take k) (N := l.length) (inf := false) hRd hseq hps
    (fun O pre W => Below w0.heap.size w0 W ∧ w.heap.size ≤ W.heap.size ∧ (∀ j, Rd j → W.heap[j]? = w.heap[j]?) ∧ ∃ S, (∀ j, S j → ¬ O j ∧ w0.heap.size ≤ j ∧ ¬ Rd j) ∧ St pre.length S W)
    (fun c O pre W => Below w0.heap.size w0 W ∧ w.heap.size ≤ W.heap.size ∧ (∀ j, Rd j → W.heap[j]? = w.heap[j]?) ∧ ∃ S, (∀ j, S j → ¬ O j ∧ w0.heap.size ≤ j ∧ ¬ Rd j) ∧ (Stop (pre.length - 1) c S W ∧ pre.length - 1 < l.length))
    (stab St fac List.length) (fun c => stab (fun k S W => Stop k c S W ∧ k < l.length) (fun k S => ⟨fun W W' h hz hs => ⟨(facS k c S).on W W' h.1 hz hs, h.2⟩, fun W h => (facS k c S).lt W h.1⟩) (fun pre => pre.length - 1)) ⟨hw0, Nat.le_refl _, fun _ _ => rfl, S0, fun j hj => ⟨fun h => h, hS0 j hj⟩, h0⟩ (fun h => by cases h) ?_ ?_ ?_
  · rintro l0 O pre x W hOl hO hI hlen ⟨k, hk, hsp⟩
    obtain ⟨hl, hx, -⟩ := take_snoc hk hsp
    subst hx
    refine wpIn_mono (hround l0 pre.length hl W) ?_
    rintro e a1 W1 hp
    cases e with
    | normal =>
      obtain ⟨rfl, hb⟩ := hp
      refine ⟨Keep.refl _ _, fun W2 hon => ?_⟩
      obtain ⟨h1, h2, h3, S, h4, h5⟩ := stab St fac List.length O O pre W1 W2 hI (fun k h => (hO k h).1) (hon.mono fun j _ e => by rw [e]; exact hOl) (fun k h => .inl h)
      have hO2 : ∀ k, O k → k < W2.heap.size := fun k h => Nat.lt_of_lt_of_le (hO k h).2 hon.size
      refine wpIn_mono (hb S W2 h1 h2 h3 (fun j hj => (h4 j hj).2) h5) ?_
      have key : ∀ (F : Nat → (Nat → Prop) → World → Prop) (W3 : World), Only S W2 W3 → (∃ S', (∀ j, S' j → S j ∨ W2.heap.size ≤ j) ∧ F 0 S' W3) →
          Keep (fun k => O k ∨ Rd k) W2 W3 ∧ Below w0.heap.size w0 W3 ∧ w.heap.size ≤ W3.heap.size ∧ (∀ j, Rd j → W3.heap[j]? = w.heap[j]?) ∧ ∃ S, (∀ j, S j → ¬ O j ∧ w0.heap.size ≤ j ∧ ¬ Rd j) ∧ F 0 S W3 := by
        rintro F W3 ho ⟨S', e1, e2⟩
        refine ⟨⟨ho.size, fun j hj h => ho.same j hj fun hs => ?_⟩, ho.below h1 h1.size (fun j hj => (h4 j hj).2.1), Nat.le_trans h2 ho.size, fun j hj => ?_, S', fun j hj => ?_, e2⟩
        · rcases h with h | h
          · exact (h4 j hs).1 h
          · exact (h4 j hs).2.2 h
        · have := hRd j hj
          rw [ho.same j (by omega) fun hs => (h4 j hs).2.2 hj]
          exact h3 j hj
        · rcases e1 j hj with h | h
          · exact h4 j h
          · have := hw0.size
            exact ⟨fun ho => by have := hO2 j ho; omega, by omega, fun hr => by have := hRd j hr; omega⟩
      rintro e a3 W3 hp
      cases e with
      | normal =>
        obtain ⟨ho, hs⟩ := hp
        obtain ⟨r1, r2, r3, r4, r5⟩ := key (fun _ S W => St (pre.length + 1) S W) W3 ho hs
        exact ⟨r1, r2, r3, r4, by rw [List.length_append]; exact r5⟩
      | ret =>
        obtain ⟨ho, S', hS', hs⟩ := hp
        obtain ⟨r1, r2, r3, r4, r5⟩ := key (fun _ S W => Stop pre.length .ret S W ∧ pre.length < l.length) W3 ho ⟨S', hS', hs, hl⟩
        exact ⟨r1, r2, r3, r4, by rw [List.length_append]; exact r5⟩
      | exit id =>
        obtain ⟨ho, S', hS', hs⟩ := hp
        obtain ⟨r1, r2, r3, r4, r5⟩ := key (fun _ S W => Stop pre.length (.exit id) S W ∧ pre.length < l.length) W3 ho ⟨S', hS', hs, hl⟩
        exact ⟨r1, r2, r3, r4, by rw [List.length_append]; exact r5⟩
      | goto t =>
        obtain ⟨ho, S', hS', hs⟩ := hp
        obtain ⟨r1, r2, r3, r4, r5⟩ := key (fun _ S W => Stop pre.length (.goto t) S W ∧ pre.length < l.length) W3 ho ⟨S', hS', hs, hl⟩
        exact ⟨r1, r2, r3, r4, by rw [List.length_append]; exact r5⟩
      | panic ch => exact hp.elim
      | outgrown => exact hp.elim
    | _ => exact hp.elim
  · rintro D xs O W hD hOD hO hS ⟨h1, h2, h3, S, h4, h5⟩ hK
    rw [show xs = l from hS] at h5
    exact hdone D S W hD (fun h => (h4 D h).1 hOD) h1 h3 (fun j hj => (h4 j hj).2.1) h5 hK
  · rintro D c pre O W hD hOD hO hSp ⟨h1, h2, h3, S, h4, h5, h6⟩ hK
    exact hstop D _ c S W h6 hD (fun h => (h4 D h).1 hOD) h1 h3 (fun j hj => (h4 j hj).2.1) h5 hK
end Go.Proofs.YthpallkphamobaaGreatDoor
namespace Go.Proofs.YthpallkphamobaaGreatDoor
open Go.RowKit Go.Shelf

theorem own_same {w w' : World} {base : Nat} {e : TypeId} {size : Nat} {v : Value} {n : Nat} {xs : List Value} (h : w.ownsRow base e size v n xs) (hk : ∀ g, v.ownBlock = some g → g < w.heap.size → w'.heap[g]? = w.heap[g]?) : w'.ownsRow base e size v n xs := by
  refine ⟨h.1, ?_⟩
  rcases h.2 with hn | ⟨g, cap, cur, rfl, hb, hg, r⟩
  · exact .inl hn
  · exact .inr ⟨g, cap, cur, rfl, hb, (hk g rfl (Array.getElem?_eq_some_iff.1 hg).1).trans hg, r⟩
theorem ownB_lt {w : World} {base : Nat} {e : TypeId} {size : Nat} {v : Value} {n : Nat} {xs : List Value} (h : w.ownsRow base e size v n xs) {g : Nat} (hv : v.ownBlock = some g) : base ≤ g ∧ g < w.heap.size := by
  rcases h.2 with ⟨rfl, -⟩ | ⟨g', cap, cur, rfl, hb, hg, r⟩
  · cases hv
  · obtain rfl : g' = g := Option.some.inj hv
    exact ⟨hb, (Array.getElem?_eq_some_iff.1 hg).1⟩
theorem only_grown {w w' : World} {row : Option Nat} (h : w.grownBy w' row) : Only (fun k => row = some k) w w' :=
  ⟨h.os, h.tape, h.output, h.size, fun k hk hn => h.block k hk fun e => hn e.symm⟩
end Go.Proofs.YthpallkphamobaaGreatDoor
namespace Go.Proofs.YthpallkphamobaaGreatDoor
open Go.RowKit Go.Shelf

theorem own_neG {w : World} {base bx : Nat} {v : Value} {vs : List Value} {e T : TypeId} {size n : Nat} {xs : List Value} (h : w.ownsRow base e size v n xs) (hb : BlkG w bx T vs) (hT : e ≠ T) : v.ownBlock ≠ some bx := by
  rcases h.2 with ⟨rfl, -⟩ | ⟨g, cap, cur, rfl, _, hg, _⟩
  · intro e; cases e
  · intro e2
    have : g = bx := Option.some.inj e2
    subst this
    unfold BlkG at hb
    rw [hg] at hb
    injection hb with hb
    injection hb with h1 h2
    exact hT h2
end Go.Proofs.YthpallkphamobaaGreatDoor
