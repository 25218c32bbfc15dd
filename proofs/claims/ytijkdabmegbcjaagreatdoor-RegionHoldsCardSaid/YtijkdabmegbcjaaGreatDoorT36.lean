/- Texts of this claim, merged; no condition. -/
import Derived.Tactics2
import Derived.Defers
import Derived.Recover
import Derived.RowKit3
import Derived.Test.YtijkdabmegbcjaaGreatDoorT35
import Derived.Test.YtijkdabmegbcjaaGreatDoorT22
import Derived.Test.YtijkdabmegbcjaaGreatDoorT00
import Derived.Test.YtijkdabmegbcjaaGreatDoorTA
set_option linter.all false
namespace Go.Proofs.YtijkdabmegbcjaaGreatDoor
section
open Go.RowKit Go.Shelf
def doneP : List PanicEntry := noneP.map fun e => { e with recovered := true }
set_option maxRecDepth 100000 in
set_option maxHeartbeats 4000000 in
theorem caughtR_panicking (p : Addr) (x : Bool) (w : World) (hc : w.cell? p = some (.bool x)) (hz : w.frozen? p = false) :
    CallsD Tryz.prog 99 #[.pointer (some p)] (.panicking noneP) w fun e u' w' =>
      e = .returned (.tuple #[]) ∧ u' = .panicking doneP ∧ w' = (w.alloc (.cells #[] 149)).setCell p (.bool false) := by
  have hta : ∀ w, (Instr.typeAssert (.iface 149 (.agg #[])) 20 149 true).run Tryz.prog w = .ok (.tuple #[.agg #[], .bool true]) w := fun _ => by kernel_rfl
  have hc1 : (w.alloc (.cells #[] 149)).cell? p = some (.bool x) := ca _ hc
  have hz1 : (w.alloc (.cells #[] 149)).frozen? p = false := by rw [frozen?_alloc_cells]; exact hz
  refine callsD_of_wpS Tryz.func99 rfl fun c₀ cs hu => ?_
  apply wpS_seq
  apply wpS_region
  simp [wpOpsS, go_sem, recoverD, hu, Tryz.ntmps99, Exit.thenS, noneP]
  refine wpS_of_wp ?_
  go_wp2
  simp [bodyPostS, results, Tryz.results99, doneP, noneP]
set_option maxRecDepth 100000 in
set_option maxHeartbeats 4000000 in
theorem caughtR_idle (p : Addr) (w : World) :
    CallsD Tryz.prog 99 #[.pointer (some p)] .returning w fun e u' w' => e = .returned (.tuple #[]) ∧ u' = .returning ∧ w' = w := by
  refine callsD_of_wpS Tryz.func99 rfl fun c₀ cs hu => ?_
  apply wpS_seq
  apply wpS_region
  simp [wpOpsS, go_sem, recoverD, hu, Tryz.ntmps99, Exit.thenS]
  refine wpS_of_wp ?_
  go_wp2
  cases c₀
  simp_all [bodyPostS, results, Tryz.results99]
set_option maxRecDepth 100000 in
set_option maxHeartbeats 4000000 in
theorem caughtI_panicking (p : Addr) (x : Bool) (w : World) (hc : w.cell? p = some (.bool x)) (hz : w.frozen? p = false) :
    CallsD Tryz.prog 125 #[.pointer (some p)] (.panicking noneP) w fun e u' w' =>
      e = .returned (.tuple #[]) ∧ u' = .panicking doneP ∧ w' = (w.alloc (.cells #[] 149)).setCell p (.bool false) := by
  have hta : ∀ w, (Instr.typeAssert (.iface 149 (.agg #[])) 20 149 true).run Tryz.prog w = .ok (.tuple #[.agg #[], .bool true]) w := fun _ => by kernel_rfl
  have hc1 : (w.alloc (.cells #[] 149)).cell? p = some (.bool x) := ca _ hc
  have hz1 : (w.alloc (.cells #[] 149)).frozen? p = false := by rw [frozen?_alloc_cells]; exact hz
  refine callsD_of_wpS Tryz.func125 rfl fun c₀ cs hu => ?_
  apply wpS_seq
  apply wpS_region
  simp [wpOpsS, go_sem, recoverD, hu, Tryz.ntmps125, Exit.thenS, noneP]
  refine wpS_of_wp ?_
  go_wp2
  simp [bodyPostS, results, Tryz.results125, doneP, noneP]
set_option maxRecDepth 100000 in
set_option maxHeartbeats 4000000 in
theorem caughtI_idle (p : Addr) (w : World) :
    CallsD Tryz.prog 125 #[.pointer (some p)] .returning w fun e u' w' => e = .returned (.tuple #[]) ∧ u' = .returning ∧ w' = w := by
  refine callsD_of_wpS Tryz.func125 rfl fun c₀ cs hu => ?_
  apply wpS_seq
  apply wpS_region
  simp [wpOpsS, go_sem, recoverD, hu, Tryz.ntmps125, Exit.thenS]
  refine wpS_of_wp ?_
  go_wp2
  cases c₀
  simp_all [bodyPostS, results, Tryz.results125]
end
section
open Go.RowKit Go.Shelf
def regC (en : Int) (s : StN) : List Value := [.int .i64 en, .int .u64 s.g0, .int .u64 s.g1, .int .i64 s.lo, .int .i64 s.hi, .int .i64 s.ht]
def regL (r : Option (Int × StN)) : List Value := match r with | none => regC 0 zeroS | some x => regC x.1 x.2
def SeeR (r : Option (Int × StN)) (e : Ending) : Prop := match r with | none => e = .panicked noneP | some x => e = .returned (.agg (regC x.1 x.2).toArray)
theorem results_blkG_var {P : Program} {fn : Func} {p r : Tmp} {ty t2 : TypeId} (h : fn.results = #[.cell p ty, .cell r t2]) (tmps : Array Value) (w : World) (b b2 : Nat) (T : TypeId) (vs : List Value) (d : TypeDesc) (v : Value)
    (hp : tmps.getD p undef = .pointer (some ⟨b, 0, none⟩)) (hB : BlkG w b T vs) (hu : P.underlying ty = some d) (hd : (match d with | .struct _ | .array _ _ => true | _ => false) = true) (hi : (P.info? ty).map (·.size) = some vs.length)
    (hr : tmps.getD r undef = .pointer (some ⟨b2, 0, none⟩)) (hv : (loadVar t2 ⟨b2, 0, none⟩).run P w = .ok v w) :
    (results fn tmps).run P w = .ok (.tuple #[.agg vs.toArray, v]) w := by
  have hp' : tmps[p]?.getD undef = .pointer (some ⟨b, 0, none⟩) := by simpa using hp
  have hr' : tmps[r]?.getD undef = .pointer (some ⟨b2, 0, none⟩) := by simpa using hr
  simp [results, h, hp', hr', asAddr, run_loadVar_row w b T ty _ (0, 0) d hB hu hd (by simpa using hi), Sem.run_bind, hv]
theorem info_reg : (Tryz.prog.info? 59).map (fun i => (i.zero, i.size, i.bytes)) = some (some (.agg #[.int .i64 0, .int .u64 0, .int .u64 0, .int .i64 0, .int .i64 0, .int .i64 0]), 6, 48) := by kernel_rfl
theorem load_bool (w : World) (b : Nat) (x : Bool) (h : w.cell? ⟨b, 0, none⟩ = some (.bool x)) : (loadVar 4 ⟨b, 0, none⟩).run Tryz.prog w = .ok (.bool x) w := by
  simp [go_sem, h]
set_option maxRecDepth 100000 in
set_option maxHeartbeats 4000000 in
theorem triedR_any (p q : Value) (r : Option (Int × StN)) (W : World) (hsee : ∀ W', Below W.heap.size W W' → Calls Tryz.prog 68 #[p, q] W' fun e W'' => SeeR r e ∧ Below W'.heap.size W' W'') :
    Calls Tryz.prog 67 #[.func (.func 68) #[] #[p, q]] W fun e W' => e = .returned (.tuple #[.agg (regL r).toArray, .bool r.isSome]) ∧ Below W.heap.size W W' := by
  have hmf : ∀ (fn : Fn) (first cap : Array Value) (w : World), (Instr.makeFunc fn first cap).run Tryz.prog w = .ok (.func fn first cap) w := fun _ _ _ _ => rfl
  obtain ⟨i0, hi0, hz0, hz1, hz2⟩ := info_parts info_reg
  have hrg := Tryz.underlying59
  have hb2 : Below W.heap.size W ((W.alloc (.cells #[.int .i64 0, .int .u64 0, .int .u64 0, .int .i64 0, .int .i64 0, .int .i64 0] 59)).alloc (.cells #[.bool false] 4)) := xalloc (xalloc (xrefl W) _) _
  have hR2 : BlkG ((W.alloc (.cells #[.int .i64 0, .int .u64 0, .int .u64 0, .int .i64 0, .int .i64 0, .int .i64 0] 59)).alloc (.cells #[.bool false] 4)) W.heap.size 59 (regC 0 zeroS) := (BlkG.new W _ _).alloc _
  have hx2 : Box ((W.alloc (.cells #[.int .i64 0, .int .u64 0, .int .u64 0, .int .i64 0, .int .i64 0, .int .i64 0] 59)).alloc (.cells #[.bool false] 4)) (W.heap.size + 1) (.bool false) 4 := by
    have := Box.new (W.alloc (.cells #[.int .i64 0, .int .u64 0, .int .u64 0, .int .i64 0, .int .i64 0, .int .i64 0] 59)) (.bool false) 4
    rwa [World.size_alloc] at this
  have hs2 : ((W.alloc (.cells #[.int .i64 0, .int .u64 0, .int .u64 0, .int .i64 0, .int .i64 0, .int .i64 0] 59)).alloc (.cells #[.bool false] 4)).heap.size = W.heap.size + 1 + 1 := by rw [World.size_alloc, World.size_alloc]
  replace hsee := qh hsee
  replace hb2 := qh hb2
  replace hR2 := qh hR2
  replace hx2 := qh hx2
  go_enter_defers Tryz.func67, Tryz.ntmps67
  cases r with
  | none =>
    unfold SeeR at hsee
    go_wp2_with (go_at_call 68; refine (hsee.out _ hb2.out).mono ?_; rintro e w3 ⟨rfl, hb3⟩; have hR3 := qh (hR2.out.below hb3); have hx3 := qh (hx2.out.below hb3); have hb03 := qh (xtrans hb2.out hb3); have hsz3 := hb3.size; clear hb3)
    refine leaves_cons (f := 99) (args := #[.pointer (some ⟨W.heap.size + 1, 0, none⟩)]) (by simp) (by simp [go_sem]) ?_
    refine (caughtR_panicking ⟨W.heap.size + 1, 0, none⟩ false w3 hx3.out.cell hx3.out.free).mono ?_
    rintro e u' w'' ⟨rfl, rfl, rfl⟩
    have hx4 : Box (w3.alloc (.cells #[] 149)) (W.heap.size + 1) (.bool false) 4 := hx3.out.below (xalloc (xrefl w3) _)
    have hR4 : BlkG (w3.alloc (.cells #[] 149)) W.heap.size 59 (regC 0 zeroS) := hR3.out.alloc _
    have ho : Only (· = W.heap.size + 1) (w3.alloc (.cells #[] 149)) ((w3.alloc (.cells #[] 149)).setCell ⟨W.heap.size + 1, 0, none⟩ (.bool false)) := (Only.refl _ _).setCell _ _ rfl
    have hb4 : Below W.heap.size W (w3.alloc (.cells #[] 149)) := xtrans hb03.out (xalloc (xrefl w3) _)
    refine ⟨_, results_blkG_var (p := 2) (r := 3) rfl _ _ W.heap.size (W.heap.size + 1) 59 (regC 0 zeroS) _ (.bool false) rfl (hR4.only ho (by omega)) hrg rfl (by kernel_rfl) rfl (load_bool _ _ _ (hx4.set (.bool false)).cell), rfl, ho.below hb4 hb4.size (by rintro j rfl; omega)⟩
  | some x =>
    unfold SeeR at hsee
    go_wp2_with (first
      | (go_at_call 68; refine (hsee.out _ hb2.out).mono ?_; rintro e w3 ⟨rfl, hb3⟩; have hR3 := qh (hR2.out.below hb3); have hx3 := qh (hx2.out.below hb3); have hb03 := qh (xtrans hb2.out hb3); have hsz3 := hb3.size; clear hb3)
      | (refine wpList_store_blkG rfl 59 _ _ rfl W.heap.size rfl 59 (regC 0 zeroS) (regC x.1 x.2) hR3.out rfl rfl (by kernel_rfl) rfl ?_; intro w4 hR4 ho4; have hx4 := hx3.out.only ho4 (by omega); have cx4 := hx4.cell; have fx4 := hx4.free; have hb4 := qh (ho4.below hb03.out hb03.out.size (by rintro j rfl; omega)); replace hR4 := qh hR4; replace hx4 := qh hx4; clear ho4))
    refine leaves_cons (f := 99) (args := #[.pointer (some ⟨W.heap.size + 1, 0, none⟩)]) (by simp) (by simp [go_sem]) ?_
    refine (caughtR_idle ⟨W.heap.size + 1, 0, none⟩ _).mono ?_
    rintro e u' w'' ⟨rfl, rfl, rfl⟩
    have ho : Only (· = W.heap.size + 1) w4 (w4.setCell ⟨W.heap.size + 1, 0, none⟩ (.bool true)) := (Only.refl _ _).setCell _ _ rfl
    refine ⟨_, results_blkG_var (p := 2) (r := 3) rfl _ _ W.heap.size (W.heap.size + 1) 59 (regC x.1 x.2) _ (.bool true) rfl (hR4.out.only ho (by omega)) hrg rfl (by kernel_rfl) rfl (load_bool _ _ _ (hx4.out.set (.bool true)).cell), rfl, ho.below hb4.out hb4.out.size (by rintro j rfl; omega)⟩
def SeeI (r : Option (List Nat)) (e : Ending) (W : World) : Prop := match r with | none => e = .panicked noneP | some l => ∃ a c, e = .returned (.slice a l.length c) ∧ IntsAt W a c l
theorem results_tmp_var {P : Program} {fn : Func} {p r : Tmp} {t2 : TypeId} (h : fn.results = #[.tmp p, .cell r t2]) (tmps : Array Value) (w : World) (b2 : Nat) (v : Value)
    (hr : tmps.getD r undef = .pointer (some ⟨b2, 0, none⟩)) (hv : (loadVar t2 ⟨b2, 0, none⟩).run P w = .ok v w) :
    (results fn tmps).run P w = .ok (.tuple #[tmps.getD p undef, v]) w := by
  have hr' : tmps[r]?.getD undef = .pointer (some ⟨b2, 0, none⟩) := by simpa using hr
  simp [results, h, hr', asAddr, Sem.run_bind, hv]
set_option maxRecDepth 100000 in
set_option maxHeartbeats 4000000 in
theorem triedI_any (p q : Value) (r : Option (List Nat)) (W : World) (hsee : ∀ W', Below W.heap.size W W' → Calls Tryz.prog 97 #[p, q] W' fun e W'' => SeeI r e W'' ∧ Below W'.heap.size W' W'') :
    Calls Tryz.prog 96 #[.func (.func 97) #[] #[p, q]] W fun e W' => (∃ a c, e = .returned (.tuple #[.slice a (r.getD []).length c, .bool r.isSome]) ∧ IntsAt W' a c (r.getD [])) ∧ Below W.heap.size W W' := by
  have hmf : ∀ (fn : Fn) (first cap : Array Value) (w : World), (Instr.makeFunc fn first cap).run Tryz.prog w = .ok (.func fn first cap) w := fun _ _ _ _ => rfl
  have hb2 : Below W.heap.size W (W.alloc (.cells #[.bool false] 4)) := xalloc (xrefl W) _
  have hx2 : Box (W.alloc (.cells #[.bool false] 4)) W.heap.size (.bool false) 4 := Box.new W (.bool false) 4
  replace hsee := qh hsee
  replace hb2 := qh hb2
  replace hx2 := qh hx2
  go_enter_defers Tryz.func96, Tryz.ntmps96
  cases r with
  | none =>
    unfold SeeI at hsee
    go_wp2_with (go_at_call 97; refine (hsee.out _ hb2.out).mono ?_; rintro e w3 ⟨rfl, hb3⟩; have hx3 := qh (hx2.out.below hb3); have hb03 := qh (xtrans hb2.out hb3); have hsz3 := hb3.size; clear hb3)
    refine leaves_cons (f := 125) (args := #[.pointer (some ⟨W.heap.size, 0, none⟩)]) (by simp) (by simp [go_sem]) ?_
    refine (caughtI_panicking ⟨W.heap.size, 0, none⟩ false w3 hx3.out.cell hx3.out.free).mono ?_
    rintro e u' w'' ⟨rfl, rfl, rfl⟩
    have hx4 : Box (w3.alloc (.cells #[] 149)) W.heap.size (.bool false) 4 := hx3.out.below (xalloc (xrefl w3) _)
    have ho : Only (· = W.heap.size) (w3.alloc (.cells #[] 149)) ((w3.alloc (.cells #[] 149)).setCell ⟨W.heap.size, 0, none⟩ (.bool false)) := (Only.refl _ _).setCell _ _ rfl
    have hb4 : Below W.heap.size W (w3.alloc (.cells #[] 149)) := xtrans hb03.out (xalloc (xrefl w3) _)
    exact ⟨_, results_tmp_var (p := 2) (r := 3) rfl _ _ W.heap.size (.bool false) rfl (load_bool _ _ _ (hx4.set (.bool false)).cell), ⟨none, 0, rfl, ⟨fun i hi => absurd hi (by simp [natI]), fun _ => rfl⟩⟩, ho.below hb4 hb4.size (by rintro j rfl; omega)⟩
  | some l =>
    unfold SeeI at hsee
    go_wp2_with (go_at_call 97; refine (hsee.out _ hb2.out).mono ?_; rintro e w3 ⟨⟨a, c, rfl, hI⟩, hb3⟩; have hx3 := hx2.out.below hb3; have cx3 := hx3.cell; have fx3 := hx3.free; have hb03 := qh (xtrans hb2.out hb3); have hsz3 := hb3.size; replace hx3 := qh hx3; replace hI := qh hI; replace hb3 := qh hb3)
    refine leaves_cons (f := 125) (args := #[.pointer (some ⟨W.heap.size, 0, none⟩)]) (by simp) (by simp [go_sem]) ?_
    refine (caughtI_idle ⟨W.heap.size, 0, none⟩ _).mono ?_
    rintro e u' w'' ⟨rfl, rfl, rfl⟩
    have ho : Only (· = W.heap.size) w3 (w3.setCell ⟨W.heap.size, 0, none⟩ (.bool true)) := (Only.refl _ _).setCell _ _ rfl
    refine ⟨_, results_tmp_var (p := 2) (r := 3) rfl _ _ W.heap.size (.bool true) rfl (load_bool _ _ _ (hx3.out.set (.bool true)).cell), ⟨a, c, rfl, ⟨fun i hi => ?_, hI.out.nil⟩⟩, ho.below hb03.out hb03.out.size (by rintro j rfl; omega)⟩
    obtain ⟨b, o, e, hc⟩ := hI.out.row i hi
    refine ⟨b, o, e, ho.cell hc fun hb => ?_⟩
    simp only at hb
    subst hb
    have h0 := hx3.out
    unfold Box at h0
    unfold World.cell? at hc
    simp only [h0] at hc
    rcases Nat.eq_zero_or_pos (o + i) with h | h
    · rw [h] at hc; simp at hc
    · rw [Array.getElem?_eq_none (by simp; omega)] at hc; cases hc
end
section
open Go.RowKit
def entQ (q : IntKind) (e : Int × Value × Nat) : MapEntry := { key := .int q e.1, val := e.2.1, born := e.2.2 }
def mapQ (q : IntKind) (E : List (Int × Value × Nat)) (clk : Nat) : Obj := .map (E.map (entQ q)).toArray clk
theorem findNow_Q (q : IntKind) (n : Int) : ∀ (E : List (Int × Value × Nat)) (j : Nat), ∃ r, Instr.findNow (.int q) (.int q n) (E.map (entQ q)) j = some r ∧
    ((r = none ∧ ∀ e ∈ E, e.1 ≠ n) ∨ ∃ d, ∃ h : d < E.length, r = some (j + d, E[d].2.1) ∧ E[d].1 = n ∧ ∀ i (hi : i < d), (E[i]'(by omega)).1 ≠ n)
  | [], j => ⟨none, rfl, .inl ⟨rfl, by simp⟩⟩
  | e :: E, j => by
    by_cases h : n = e.1
    · refine ⟨some (j, e.2.1), by simp [entQ, Instr.findNow, Instr.sameNow, h], .inr ⟨0, by simp, rfl, h.symm, fun i hi => absurd hi (by omega)⟩⟩
    · obtain ⟨r, h1, h2⟩ := findNow_Q q n E (j + 1)
      have hb : (n == e.1) = false := by simpa using h
      refine ⟨r, by simp [entQ, Instr.findNow, Instr.sameNow, hb]; exact h1, ?_⟩
      rcases h2 with ⟨h2, h3⟩ | ⟨d, hd, h2, h3, h4⟩
      · refine .inl ⟨h2, fun x hx => ?_⟩
        rcases List.mem_cons.1 hx with rfl | hx
        · exact fun e => h e.symm
        · exact h3 x hx
      · refine .inr ⟨d + 1, by simpa using hd, by rw [h2]; simp; omega, by simpa using h3, fun i hi => ?_⟩
        match i, hi with
        | 0, _ => exact fun e => h e.symm
        | i + 1, hi => simpa using h4 i (by omega)
theorem findKey_Q {P : Program} {k : TypeId} {q : IntKind} (hk : P.underlying k = some (.int q)) (n : Int) (E : List (Int × Value × Nat)) (w : World) {r : Option (Nat × Value)} (h : Instr.findNow (.int q) (.int q n) (E.map (entQ q)) 0 = some r) :
    (Instr.findKey k (.int q n) (E.map (entQ q))).run P w = .ok r w := by
  simp [Instr.findKey, run_underlying hk, Sem.run_bind, h]
def valQ (n : Int) (E : List (Int × Value × Nat)) : Option Value := (E.find? fun e => e.1 == n).map (·.2.1)
theorem valQ_none {n : Int} {E : List (Int × Value × Nat)} (h : ∀ e ∈ E, e.1 ≠ n) : valQ n E = none := by
  unfold valQ
  rw [List.find?_eq_none.2 fun e he => by simpa using h e he]; rfl
theorem valQ_get {n : Int} {E : List (Int × Value × Nat)} {d : Nat} (hd : d < E.length) (h : E[d].1 = n) (h2 : ∀ i (hi : i < d), (E[i]'(by omega)).1 ≠ n) : valQ n E = some E[d].2.1 := by
  unfold valQ
  rw [show E.find? (fun e => e.1 == n) = some E[d] from List.find?_eq_some_iff_getElem.2 ⟨by simpa using h, d, hd, rfl, fun i hi => by have := h2 i hi; simpa using this⟩]; rfl
section
variable {P : Program} {q : IntKind} {w : World} {b : Nat} {E : List (Int × Value × Nat)} {clk : Nat}
theorem run_lookQ {t k e : TypeId} (ht : P.underlying t = some (.map k e)) (hk : P.underlying k = some (.int q)) {z : Value} (hz : ∀ w, (zeroValue e).run P w = .ok z w) (n : Int) (c : Bool) (hb : w.heap[b]? = some (mapQ q E clk)) :
    (Instr.lookup t (.map (some b)) (.int q n) c).run P w = .ok (if c then .tuple #[(valQ n E).getD z, .bool (valQ n E).isSome] else (valQ n E).getD z) w := by
  obtain ⟨r, h1, h2⟩ := findNow_Q q n E 0
  unfold mapQ at hb
  simp only [Instr.lookup, run_underlying ht, Sem.run_bind, Result.andThen_ok, getObj, Sem.run, hb]
  simp [checkKey_int hk, findKey_Q hk n E w h1]
  rcases h2 with ⟨rfl, h3⟩ | ⟨d, hd, rfl, h3, h4⟩
  · rw [valQ_none h3]; simp [hz]
  · rw [valQ_get hd h3 h4]; simp
theorem run_putQ_new {t k e : TypeId} (ht : P.underlying t = some (.map k e)) (hk : P.underlying k = some (.int q)) (n : Int) (v : Value) (hb : w.heap[b]? = some (mapQ q E clk)) (hn : ∀ e ∈ E, e.1 ≠ n) :
    (Instr.mapUpdate t (.map (some b)) (.int q n) v).run P w = .ok () (w.putObj b (mapQ q (E ++ [(n, v, clk)]) (clk + 1))) := by
  obtain ⟨r, h1, h2⟩ := findNow_Q q n E 0
  have hr : r = none := by
    rcases h2 with ⟨h2, -⟩ | ⟨d, hd, -, h3, -⟩
    · exact h2
    · exact absurd h3 (hn _ (List.getElem_mem hd))
  subst hr
  unfold mapQ at hb
  simp only [Instr.mapUpdate, run_underlying ht, Sem.run_bind, Result.andThen_ok, getObj, setObj, Sem.run, hb, checkKey_int hk, findKey_Q hk n E w h1]
  show Result.ok () (w.putObj b _) = _
  congr 2
  simp [mapQ, entQ]
theorem run_putQ_old {t k e : TypeId} (ht : P.underlying t = some (.map k e)) (hk : P.underlying k = some (.int q)) (n : Int) (v : Value) (hb : w.heap[b]? = some (mapQ q E clk)) {d : Nat} (hd : d < E.length) (h3 : E[d].1 = n) (h4 : ∀ i (hi : i < d), (E[i]'(by omega)).1 ≠ n) :
    (Instr.mapUpdate t (.map (some b)) (.int q n) v).run P w = .ok () (w.putObj b (mapQ q (E.set d (n, v, E[d].2.2)) clk)) := by
  obtain ⟨r, h1, h2⟩ := findNow_Q q n E 0
  have hr : r = some (d, E[d].2.1) := by
    rcases h2 with ⟨-, h5⟩ | ⟨d', hd', h5, h6, h7⟩
    · exact absurd h3 (h5 _ (List.getElem_mem hd))
    · have e : d' = d := by
        rcases Nat.lt_trichotomy d' d with h | h | h
        · exact absurd h6 (h4 d' h)
        · exact h
        · exact absurd h3 (h7 d h)
      subst e
      rw [h5, Nat.zero_add]
  subst hr
  unfold mapQ at hb
  have hks : ∀ c : Value, (Instr.keyThatStays (.int q n) (.int q n)).run P w = .ok (.int q n) w := fun _ => by
    unfold Instr.keyThatStays
    rw [if_pos (by show Instr.sameBits (9999 + 1) _ _ = true; simp [Instr.sameBits])]
    simp
  have h3' : (Option.map (fun x => x.key) (E.map (entQ q)).toArray[d]?).getD (.int q n) = .int q n := by
    rw [List.getElem?_toArray, List.getElem?_map, List.getElem?_eq_getElem hd]
    simp [entQ, h3]
  simp only [Instr.mapUpdate, run_underlying ht, Sem.run_bind, Result.andThen_ok, getObj, setObj, Sem.run, hb, checkKey_int hk, findKey_Q hk n E w h1, h3', hks undef]
  show Result.ok () (w.putObj b _) = _
  congr 2
  unfold mapQ
  congr 1
  apply Array.ext'
  rw [Array.toList_modify]
  show (E.map (entQ q)).modify d _ = (E.set d _).map (entQ q)
  apply List.ext_getElem (by simp)
  intro i h5 h6
  rw [List.getElem_modify]
  simp only [List.getElem_map, List.getElem_set]
  by_cases e : d = i
  · subst e; simp [entQ]
  · simp [e]
theorem erase_filter {n : Int} : ∀ {E : List (Int × Value × Nat)} {d : Nat} (hd : d < E.length), (E.map (·.1)).Nodup → E[d].1 = n → E.eraseIdx d = E.filter fun e => decide (e.1 ≠ n)
  | x :: E, 0, hd, hn, h => by
    rw [List.eraseIdx_zero, List.tail_cons]
    rw [List.map_cons, List.nodup_cons] at hn
    simp only [List.getElem_cons_zero] at h
    rw [List.filter_cons_of_neg (by simp [h])]
    refine (List.filter_eq_self.2 fun e he => ?_).symm
    have : e.1 ≠ x.1 := fun h2 => hn.1 (List.mem_map.2 ⟨e, he, h2⟩)
    rw [h] at this
    simpa using this
  | x :: E, d + 1, hd, hn, h => by
    rw [List.map_cons, List.nodup_cons] at hn
    have hd' : d < E.length := by simpa using hd
    have h' : E[d].1 = n := by simpa using h
    have : x.1 ≠ n := fun e => hn.1 (List.mem_map.2 ⟨E[d], List.getElem_mem hd', by rw [h', e]⟩)
    rw [List.eraseIdx_cons_succ, List.filter_cons_of_pos (by simpa using this), erase_filter hd' hn.2 h']
theorem eraseIdx_ent (q : IntKind) : ∀ (E : List (Int × Value × Nat)) (d : Nat), (E.map (entQ q)).eraseIdx d = (E.eraseIdx d).map (entQ q)
  | [], _ => rfl
  | _ :: _, 0 => rfl
  | x :: E, d + 1 => by rw [List.map_cons, List.eraseIdx_cons_succ, List.eraseIdx_cons_succ, eraseIdx_ent q E d, List.map_cons]
theorem run_delQ {t k e ty : TypeId} (ht : P.underlying t = some (.map k e)) (hk : P.underlying k = some (.int q)) (n : Int) (hb : w.heap[b]? = some (mapQ q E clk)) (hn : (E.map (·.1)).Nodup) :
    (Builtin.delete_ #[t, k] ty #[.map (some b), .int q n]).run P w = .ok (.tuple #[]) (w.putObj b (mapQ q (E.filter fun e => decide (e.1 ≠ n)) clk)) := by
  obtain ⟨r, h1, h2⟩ := findNow_Q q n E 0
  unfold mapQ at hb
  rcases h2 with ⟨rfl, h3⟩ | ⟨d, hd, rfl, h3, h4⟩
  · have hf : E.filter (fun e => decide (e.1 ≠ n)) = E := List.filter_eq_self.2 fun e he => by simpa using h3 e he
    rw [hf]
    simp [Builtin.delete_, run_underlying ht, Sem.run_bind, getObj, setObj, Sem.run, hb, checkKey_int hk, findKey_Q hk n E w h1, Result.andThen]
    rfl
  · rw [← erase_filter hd hn h3]
    rw [Nat.zero_add] at h1
    simp [Builtin.delete_, run_underlying ht, Sem.run_bind, getObj, setObj, Sem.run, hb, checkKey_int hk, findKey_Q hk n E w h1, Result.andThen]
    show w.putObj b _ = w.putObj b _
    congr 1
    unfold mapQ
    congr 1
    apply Array.ext'
    simp [Array.eraseIdxIfInBounds, hd]
    exact eraseIdx_ent q E d
def itQ (b clk : Nat) (S : List Nat) : Obj := .mapIter (some b) clk S.toArray clk
theorem range_Q {t k e : TypeId} (ht : P.underlying t = some (.map k e)) (hb : w.heap[b]? = some (mapQ q E clk)) :
    (Instr.range t (.map (some b))).run P w = .ok (.pointer (some ⟨w.heap.size, 0, none⟩)) (w.alloc (itQ b clk [])) := by
  unfold mapQ at hb
  simp [Instr.range, run_underlying ht, Sem.run_bind, getObj, Sem.run, hb, itQ, Result.andThen]
theorem next_Q {it : Nat} {S : List Nat} (ty : TypeId) (hi : w.heap[it]? = some (itQ b clk S)) (hb : w.heap[b]? = some (mapQ q E clk)) (hlt : ∀ e ∈ E, e.2.2 < clk) :
    ((∀ e ∈ E, e.2.2 ∈ S) ∧ (Instr.next (.pointer (some ⟨it, 0, none⟩)) false ty).run P w = .ok (.tuple #[.bool false]) w) ∨
    ∃ e ∈ E, e.2.2 ∉ S ∧ ∃ W', (Instr.next (.pointer (some ⟨it, 0, none⟩)) false ty).run P w = .ok (.tuple #[.bool true, .int q e.1, e.2.1]) W' ∧ Only (· = it) w W' ∧ W'.heap[it]? = some (itQ b clk (S ++ [e.2.2])) := by
  unfold mapQ at hb
  unfold itQ at hi
  have hit : it < w.heap.size := (Array.getElem?_eq_some_iff.1 hi).1
  have hent : ∀ x ∈ E.map (entQ q), x.born < clk := fun x hx => by
    obtain ⟨e, he, rfl⟩ := List.mem_map.1 hx
    exact hlt e he
  have htest : (!S.toArray.isEmpty && !(E.map (entQ q)).toArray.isEmpty && (E.map (entQ q)).toArray.all (fun x => decide (x.born ≥ clk))) = false := by
    cases hL : E.map (entQ q) with
    | nil => simp
    | cons e r =>
      have := hent e (by rw [hL]; simp)
      have h2 : decide (e.born ≥ clk) = false := decide_eq_false (by omega)
      simp [h2]
  simp only [Instr.next, getObj, setObj, Sem.run_bind, Sem.run, hi, hb, Result.andThen, htest, Bool.false_eq_true, if_false]
  generalize hL : (E.map (entQ q)).toArray.filter (fun e => !S.toArray.contains e.born) = L
  have hmem : ∀ x ∈ L.toList, x ∈ E.map (entQ q) ∧ x.born ∉ S := fun x hx => by
    rw [← hL] at hx
    simp only [List.filter_toArray, List.mem_filter] at hx
    exact ⟨hx.1, by simpa using hx.2⟩
  have e1 : L.filter (fun x => decide (x.born < clk)) = L := Array.filter_eq_self.2 fun x hx => by simpa using hent x (hmem x (by simpa using hx)).1
  have e2 : L.filter (fun x => decide (x.born ≥ clk)) = #[] := by
    rw [Array.filter_eq_empty_iff]
    intro x hx
    have := hent x (hmem x (by simpa using hx)).1
    simp; omega
  simp only [e1, e2, Array.append_empty]
  by_cases h0 : L.size = 0
  · left
    have hLe : L = #[] := Array.eq_empty_of_size_eq_zero h0
    refine ⟨fun e he => ?_, ?_⟩
    · by_cases hs : e.2.2 ∈ S
      · exact hs
      · have hin : entQ q e ∈ L := by
          rw [← hL, Array.mem_filter]
          refine ⟨by simpa using ⟨e.1, e.2.1, e.2.2, he, rfl⟩, by simpa [entQ] using hs⟩
        rw [hLe] at hin
        simp at hin
    · subst hLe
      simp [choose, Sem.run, Question.forced]
  · right
    have hne : L.isEmpty = false := by simp [Array.isEmpty, h0]
    simp only [hne, Bool.false_eq_true, if_false, Array.empty_append, Array.size_map]
    obtain ⟨k, W1, hk, hO, hh, hrun⟩ : ∃ (k : Nat) (W1 : World), k < L.size ∧ Only (fun _ => False) w W1 ∧ W1.heap = w.heap ∧ (choose (Question.mapNext L.size)).run P w = .ok k W1 := by
      by_cases hf : L.size ≤ 1
      · exact ⟨0, w, by omega, Only.refl _ _, rfl, by simp [choose, Sem.run, Question.forced, hf]⟩
      · exact ⟨_, w.drew, Nat.mod_lt _ (by omega), ⟨rfl, rfl, rfl, Nat.le_refl _, fun _ _ _ => rfl⟩, rfl, by
          simp only [choose, Sem.run, Question.forced, decide_eq_true_eq, hf, if_false, Question.cut]
          rfl⟩
    obtain ⟨hin, hns⟩ := hmem L[k] (by simp)
    obtain ⟨e, he, hee⟩ := List.mem_map.1 hin
    refine ⟨e, he, by rw [← hee] at hns; exact hns, W1.putObj it (itQ b clk (S ++ [e.2.2])), ?_, ?_, World.putObj_heap_same (by rw [hh]; exact hit)⟩
    · simp only [hrun, Array.getElem?_map, Array.getElem?_eq_getElem hk, Option.map_some, Sem.run_bind, Sem.run, Result.andThen, ← hee]
      simp [itQ, hh, hi, World.putObj, entQ]
    · exact (hO.mono fun k _ h => h.elim).putObj it _ rfl
theorem entry_Q {it : Nat} {S : List Nat} {e : Int × Value × Nat} (he : e ∈ E) (hn : (E.map (·.2.2)).Nodup) (hi : w.heap[it]? = some (itQ b clk (S ++ [e.2.2]))) (hb : w.heap[b]? = some (mapQ q E clk)) :
    (Instr.entry (.pointer (some ⟨it, 0, none⟩))).run P w = .ok (.tuple #[.int q e.1, e.2.1]) w := by
  unfold mapQ at hb
  unfold itQ at hi
  have hf : (E.map (entQ q)).find? (fun x => x.born == e.2.2) = some (entQ q e) := by
    clear hi hb
    induction E with
    | nil => cases he
    | cons x E ih =>
      rw [List.map_cons, List.nodup_cons] at hn
      rw [List.map_cons, List.find?_cons]
      rcases List.mem_cons.1 he with rfl | h
      · simp [entQ]
      · have : (x.2.2 == e.2.2) = false := by
          rw [beq_eq_false_iff_ne]
          intro h2
          exact hn.1 (List.mem_map.2 ⟨e, h, h2.symm⟩)
        simp only [entQ, this]
        exact ih h hn.2
  simp only [Instr.entry, getObj, Sem.run_bind, Sem.run, hi, hb, Result.andThen]
  simp [hf, hb, Sem.run, Result.andThen, entQ]
theorem run_lenQ {t k e : TypeId} (ht : P.underlying t = some (.map k e)) (T : TypeId) (hb : w.heap[b]? = some (mapQ q E clk)) : (Builtin.len_ #[t] T #[.map (some b)]).run P w = .ok (.int .i64 E.length) w := by
  unfold mapQ at hb
  simp only [Builtin.len_, List.getElem?_toArray, List.getElem?_cons_zero]
  simp only [run_underlying ht, Sem.run_bind, Result.andThen_ok, getObj, Sem.run, hb]
  simp [go_sem]
end
end
end Go.Proofs.YtijkdabmegbcjaaGreatDoor
