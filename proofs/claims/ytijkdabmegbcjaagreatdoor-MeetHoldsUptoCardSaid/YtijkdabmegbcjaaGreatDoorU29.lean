/- Texts of this claim, merged; no condition. -/
import Derived.Shelf.SlMaps.Clone
import Derived.Test.YtijkdabmegbcjaaGreatDoorU28
import Derived.Test.YtijkdabmegbcjaaGreatDoorU00
import Derived.Test.YtijkdabmegbcjaaGreatDoorU05
set_option linter.all false
namespace Go.Proofs.YtijkdabmegbcjaaGreatDoor
open Go.RowKit Go.Shelf

set_option maxRecDepth 100000 in
set_option maxHeartbeats 1000000 in
theorem cloneS_any (b clk : Nat) (E : List (Int × Value × Nat)) (w : World) (hb : w.heap[b]? = some (mapQ .i64 E clk)) :
    Calls Tryz.prog 89 #[.map (some b)] w fun e w' => e = .returned (.map (some w.heap.size)) ∧ w.alloc (mapQ .i64 E clk) = w' := by
  have hq := fun w => run_eql_map_nil_sl (P := Tryz.prog) w 132 _ _ (some b) Tryz.underlying132
  unfold mapQ at hb
  go_enter Tryz.func89, Tryz.ntmps89
  go_wp2
  rw [run_callFunc_extern Tryz.func120 (by kernel_rfl) (by kernel_rfl) (by kernel_rfl) (e := Extern.MapsClone.clone) (by kernel_rfl), run_maps_clone_sl w 132 hb]
  simp only [Result.andThen]
  rw [Oper.upon_value]
  go_wp2
  rw [run_typeAssert_map_sl _ 132 20 _ _ _ Tryz.underlying132]
  simp only [Result.andThen]
  rw [Oper.upon_value]
  go_wp2
  go_ret
  exact ⟨rfl, rfl⟩
set_option maxRecDepth 100000 in
set_option maxHeartbeats 1000000 in
theorem cloneB_any (b clk : Nat) (E : List (Int × Value × Nat)) (w : World) (hb : w.heap[b]? = some (mapQ .i64 E clk)) :
    Calls Tryz.prog 137 #[.map (some b)] w fun e w' => e = .returned (.map (some w.heap.size)) ∧ w.alloc (mapQ .i64 E clk) = w' := by
  have hq := fun w => run_eql_map_nil_sl (P := Tryz.prog) w 95 _ _ (some b) Tryz.underlying95
  unfold mapQ at hb
  go_enter Tryz.func137, Tryz.ntmps137
  go_wp2
  rw [run_callFunc_extern Tryz.func120 (by kernel_rfl) (by kernel_rfl) (by kernel_rfl) (e := Extern.MapsClone.clone) (by kernel_rfl), run_maps_clone_sl w 95 hb]
  simp only [Result.andThen]
  rw [Oper.upon_value]
  go_wp2
  rw [run_typeAssert_map_sl _ 95 20 _ _ _ Tryz.underlying95]
  simp only [Result.andThen]
  rw [Oper.upon_value]
  go_wp2
  go_ret
  exact ⟨rfl, rfl⟩
theorem met1_any (bx ms : Nat) (K : List Nat) (k : Nat) (v : Value) (w : World) (hx : w.cell? ⟨bx, 0, none⟩ = some (.map (some ms))) (hS : SetAt w ms K) :
    Calls Tryz.prog 139 #[.int .i64 k, v, .pointer (some ⟨bx, 0, none⟩)] w fun e w' => e = .returned (.bool (!decide (k ∈ K))) ∧ w = w' := by
  have hz : ∀ w, (zeroValue 4).run Tryz.prog w = .ok (.bool false) w := fun _ => by kernel_rfl
  replace hS := Lib.hid hS
  go_enter Tryz.func139, Tryz.ntmps139
  go_wp2_with (refine wpList_exec rfl (.bool (decide (k ∈ K))) (exec_lookS 95 3 4 _ _ rfl Tryz.underlying95 Tryz.underlying3 hz ms k K rfl rfl hS.out) ?_)
  go_ret
  exact ⟨rfl, rfl⟩
set_option maxRecDepth 100000 in
set_option maxHeartbeats 2000000 in
theorem delFunc_any (b bx ms : Nat) (K0 Ks : List Nat) (w : World) (hb : SetAt w b K0) (hx : w.cell? ⟨bx, 0, none⟩ = some (.map (some ms))) (hS : SetAt w ms Ks) (hne : b ≠ ms) :
    Calls Tryz.prog 138 #[.map (some b), .func (.func 139) #[] #[.pointer (some ⟨bx, 0, none⟩)]] w fun e w' => e = .returned (.tuple #[]) ∧ SetAt w' b (K0.filter fun k => decide (k ∈ Ks)) ∧ Only (· = b) w w' := by
  have hbl := hb.lt
  have hml := hS.lt
  have hxl := cell_lt hx
  obtain ⟨E0, clk, h1, h2⟩ := hb
  have hbx : bx ≠ b := fun e => by
    subst e
    unfold mapQ at h1
    obtain ⟨obj, ho⟩ : ∃ obj, w.heap[bx]? = some obj := ⟨_, h1⟩
    unfold World.cell? at hx
    simp [h1] at hx
  have hrg := range_Q (P := Tryz.prog) (t := 95) Tryz.underlying95 h1
  have hb9 : Below w.heap.size w (w.alloc (itQ b clk [])) := xalloc (xrefl w) _
  obtain ⟨it, hit⟩ : ∃ it, it = w.heap.size := ⟨_, rfl⟩
  have hi9 : (w.alloc (itQ b clk [])).heap[it]? = some (itQ b clk []) := by rw [hit]; exact World.alloc_heap_new w _
  have hm9 := (hb9.block b hbl).trans h1
  have hS9 := hS.below hb9
  have hx9 := cbel hb9 hx
  have hs9 : (w.alloc (itQ b clk [])).heap.size = w.heap.size + 1 := World.size_alloc _ _
  have hf0 : E0.filter (leftP [] Ks) = E0 := List.filter_eq_self.2 fun e _ => by unfold leftP; simp
  clear hx
  replace h2 := Lib.hid h2
  go_enter Tryz.func138, Tryz.ntmps138
  go_wp2
  rw [← hit]
  generalize w.alloc (itQ b clk []) = w9 at *
  have hit1 : w.heap.size ≤ it := by omega
  have hit2 : it < w9.heap.size := by omega
  have hs9' : w.heap.size ≤ w9.heap.size := by omega
  replace hit := Lib.hid hit
  replace hi9 := Lib.hid hi9
  replace hm9 := Lib.hid (by rw [← hf0] at hm9; exact hm9)
  replace hS9 := Lib.hid hS9
  replace hx9 := Lib.hid hx9
  replace hb9 := Lib.hid hb9
  clear hrg hs9 hf0 h1 hS
  go_loopw [4] (fun _ wx => ∃ S : List Nat, Hid (S.Nodup ∧ ∀ s ∈ S, ∃ e ∈ E0, e.2.2 = s) ∧ Hid (wx.heap[it]? = some (itQ b clk S)) ∧ Hid (wx.heap[b]? = some (mapQ .i64 (E0.filter (leftP S Ks)) clk)) ∧ Hid (Only (fun k => k = it ∨ k = b) w9 wx)) (fun _ wx => E0.length - seenQ wx it)
  case atStart => exact ⟨[], Lib.hid ⟨List.nodup_nil, by simp⟩, hi9, hm9, Lib.hid (Only.refl _ _)⟩
  case round =>
    clear hi9 hm9
    obtain ⟨S, hSn, hi, hm, hon⟩ := hrel
    have hsz := hon.out.size
    rcases next_Q (P := Tryz.prog) 0 hi.out hm.out (fun e he => h2.out.lt e (List.mem_filter.1 he).1) with ⟨hall, hrun⟩ | ⟨e, he, hns, W2, hrun, hon2, hi2⟩
    · have hrun' : ∀ ty, (Instr.next (.pointer (some ⟨it, 0, none⟩)) false ty).run Tryz.prog wr = _ := fun ty => hrun
      have hfin := left_all hall
      replace hfin := Lib.hid hfin
      clear hrun hall
      go_wp2
      go_end0
      refine ⟨rfl, ⟨_, clk, hm.out, ?_⟩, ?_⟩
      · rw [hfin.out]; exact h2.out.drop fun k => decide (k ∈ Ks)
      · exact ⟨hon.out.os.trans hb9.out.os, hon.out.tape.trans hb9.out.tape, hon.out.output.trans hb9.out.output, by omega, fun k hk hkb => (hon.out.same k (by omega) (by rintro (h | h); omega; exact hkb h)).trans (hb9.out.block k hk)⟩
    · have hrun' : ∀ ty, (Instr.next (.pointer (some ⟨it, 0, none⟩)) false ty).run Tryz.prog wr = _ := fun ty => hrun
      have heE := (List.mem_filter.1 he).1
      have hm2 := (hon2.same b (by omega) (by omega)).trans hm.out
      have hen := entry_Q (P := Tryz.prog) he ((List.filter_sublist.map _).nodup h2.out.sn) hi2 hm2
      obtain ⟨k, hkK, hek⟩ := h2.out.nat heE
      have hev := h2.out.val e heE
      have hslt := stamps_lt hSn.out.1 hSn.out.2 heE hns
      have hsl : seenQ wr it = S.length := seenQ_eq hi.out
      have hSn2 : Hid ((S ++ [e.2.2]).Nodup ∧ ∀ s ∈ S ++ [e.2.2], ∃ e ∈ E0, e.2.2 = s) := Lib.hid ⟨List.nodup_append.2 ⟨hSn.out.1, by simp, fun a ha b hb h => hns (by simp at hb; rw [← hb, ← h]; exact ha)⟩, fun s hs => by
        rcases List.mem_append.1 hs with h | h
        · exact hSn.out.2 s h
        · rw [List.mem_singleton] at h; exact ⟨e, heE, h.symm⟩⟩
      have hon3 : Only (fun k => k = it ∨ k = b) w9 W2 := hon.out.trans (hon2.mono fun _ _ e => .inl e)
      have hS2 := hS9.out.only hon3 (by omega)
      have hx2 := hon3.cell hx9.out (by simp only; omega)
      have hmet := fun v => met1_any bx ms Ks k v W2 hx2 hS2
      have hltw := hon2.size
      rw [hek, hev] at hrun' hen
      have hi2' := Lib.hid hi2
      have hon3' := Lib.hid hon3
      by_cases hkK2 : k ∈ Ks
      · have hst := left_stay (S := S) h2.out heE (by rw [hek, Int.toNat_natCast]; exact hkK2)
        have hm3 := Lib.hid (show W2.heap[b]? = some (mapQ .i64 (E0.filter (leftP (S ++ [e.2.2]) Ks)) clk) by rw [hst]; exact hm2)
        rw [decide_eq_true hkK2] at hmet
        generalize e.2.2 = st at *
        replace hmet := Lib.hid hmet
        replace hsl := Lib.hid hsl
        clear hst hkK2 hi2 hon3 hm2 hrun hon2 hS2 hx2 hns heE he hev hek
        go_wp2_with (go_at_call 139; refine (hmet.out _).mono ?_; rintro en w' ⟨rfl, rfl⟩)
        refine ⟨⟨S ++ [st], hSn2, hi2', hm3, hon3'⟩, ?_⟩
        rw [hsl.out, seenQ_eq hi2'.out, List.length_append, List.length_singleton]; omega
      · have hgo := left_go (S := S) h2.out heE (by rw [hek, Int.toNat_natCast]; exact hkK2) hns
        rw [hek] at hgo
        have hnd := ((List.filter_sublist (p := leftP S Ks) (l := E0)).map (·.1)).nodup h2.out.keyNd
        rw [decide_eq_false hkK2] at hmet
        have hbl2 : b < W2.heap.size := by omega
        generalize e.2.2 = st at *
        have hgo' := Lib.hid hgo
        replace hmet := Lib.hid hmet
        replace hsl := Lib.hid hsl
        replace hm2 := Lib.hid hm2
        clear hgo hkK2 hi2 hon3 hrun hon2 hS2 hx2 hns heE he hev hek
        go_wp2_with (first
          | (go_at_call 139; refine (hmet.out _).mono ?_; rintro en w' ⟨rfl, rfl⟩)
          | (refine wpList_delQ rfl 95 3 4 _ _ rfl Tryz.underlying95 Tryz.underlying3 b (k : Int) (E0.filter (leftP S Ks)) clk rfl rfl hm2.out hnd ?_; rw [hgo'.out]))
        have hi3 : (W2.putObj b (mapQ .i64 (E0.filter (leftP (S ++ [st]) Ks)) clk)).heap[it]? = some (itQ b clk (S ++ [st])) := (World.putObj_heap_other (by omega)).trans hi2'.out
        refine ⟨⟨_, _, _, _, _, _, _, _, _, _, _, _, _, ⟨S ++ [st], hSn2, Lib.hid hi3, Lib.hid (World.putObj_heap_same hbl2), Lib.hid (hon3'.out.trans ((Only.refl _ _).putObj b _ (.inr rfl)))⟩, rfl⟩, ?_⟩
        rw [hsl.out, seenQ_eq hi3, List.length_append, List.length_singleton]; omega
end Go.Proofs.YtijkdabmegbcjaaGreatDoor
namespace Go.Proofs.YtijkdabmegbcjaaGreatDoor
open Go.RowKit

theorem run_sliceBound {P : Program} (n m : Nat) (k : BoundsCode) (w : World) (h : n ≤ m) : (Instr.sliceBound (.int .i64 n) m k).run P w = .ok n w := by
  have h1 : (n : Int) ≤ (m : Int) := by omega
  have h0 : (0 : Int) ≤ (n : Int) := by omega
  simp [Instr.sliceBound, asIntOf, Sem.run_bind, h]
/-- Where 's[k:]' lies. -/
def sl2 (a : Option Addr) (k c : Nat) : Option Addr := if c = k then a else a.map (·.add k)
theorem run_slice_lo {P : Program} (T e : TypeId) (a : Option Addr) (n c k : Nat) (w : World) (hT : P.underlying T = some (.slice e)) (hs : (P.info? e).map (·.size) = some 1) (hk : k ≤ n) (hc : n ≤ c) :
    (Instr.slice T (.slice a n c) (some (.int .i64 k)) none none).run P w = .ok (.slice (sl2 a k c) (n - k) (c - k)) w := by
  obtain ⟨i, hi, hs1⟩ := Option.map_eq_some_iff.1 hs
  simp only [Instr.slice, Instr.sliceBounds, Sem.run_bind, run_underlying hT, Result.andThen_ok, Option.isSome_none, Bool.false_eq_true, if_false, if_true, run_sliceBound k n _ w hk, Sem.run_pure]
  simp [sizeOf, typeInfo, hi, hs1, Sem.run_bind, sl2]
end Go.Proofs.YtijkdabmegbcjaaGreatDoor
namespace Go.Proofs.YtijkdabmegbcjaaGreatDoor
open Go.RowKit Go.Shelf

def interT (K : List Nat) (r : List (List Nat)) : List Nat := r.foldl (fun acc K => acc.filter fun k => decide (k ∈ K)) K
theorem interT_snoc (K : List Nat) (r : List (List Nat)) (L : List Nat) : interT K (r ++ [L]) = (interT K r).filter fun k => decide (k ∈ L) := by unfold interT; rw [List.foldl_append]; rfl
theorem mem_interT (x : Nat) : ∀ (r : List (List Nat)) (K : List Nat), x ∈ interT K r ↔ x ∈ K ∧ ∀ L ∈ r, x ∈ L
  | [], K => by simp [interT]
  | L :: r, K => by
    show x ∈ interT (K.filter fun k => decide (k ∈ L)) r ↔ _
    rw [mem_interT x r, List.mem_filter, decide_eq_true_eq]
    simp only [List.mem_cons, forall_eq_or_imp, and_assoc]
theorem rowV_drop {w : World} {a : Option Addr} {vs : List Value} (h : RowV w a vs) (k c : Nat) (hc : vs.length ≤ c) : RowV w (sl2 a k c) (vs.drop k) := fun i hi => by
  rw [List.length_drop] at hi
  obtain ⟨b, o, h1, h2⟩ := h (k + i) (by omega)
  refine ⟨b, o + k, ?_, ?_⟩
  · unfold sl2
    rw [if_neg (by omega), h1]
    simp [Addr.add]
  · rw [List.getElem_drop, Nat.add_assoc]; exact h2
set_option maxRecDepth 100000 in
set_option maxHeartbeats 2000000 in
theorem met_any (b0 : Nat) (r : List Nat) (K0 : List Nat) (Ks : List (List Nat)) (a : Option Addr) (c : Nat) (w : World) (hc : r.length + 1 ≤ c) (hl : r.length ≤ 1000) (hlen : Ks.length = r.length) (hrow : RowV w a ((b0 :: r).map fun b => .map (some b)))
    (h0 : SetAt w b0 K0) (hs : ∀ i (h : i < r.length), SetAt w r[i] (Ks[i]'(by omega))) :
    Calls Tryz.prog 121 #[.slice a (r.length + 1) c] w fun e w' => (e = .returned (.map (some w.heap.size)) ∧ SetAt w' w.heap.size (interT K0 Ks)) ∧ Below w.heap.size w w' := by
  obtain ⟨E, clk, hE1, hE2⟩ := h0
  have hcl := Lib.hid (cloneB_any b0 clk E w hE1)
  obtain ⟨b, o, rfl, hc0⟩ := hrow 0 (by simp)
  have hc0' : w.cell? ⟨b, o, none⟩ = some (.map (some b0)) := by simpa using hc0
  have hb1 : Below w.heap.size w (w.alloc (mapQ .i64 E clk)) := xalloc (xrefl w) _
  have hS1 : Hid (SetAt (w.alloc (mapQ .i64 E clk)) w.heap.size (interT K0 (Ks.take 0))) := Lib.hid ⟨E, clk, World.alloc_heap_new w _, hE2⟩
  have hsl : ∀ W, (Instr.slice 169 (.slice (some ⟨b, o, none⟩) (r.length + 1) c) (some (.int .i64 1)) none none).run Tryz.prog W = .ok (.slice (sl2 (some ⟨b, o, none⟩) 1 c) r.length (c - 1)) W := fun W => run_slice_lo (P := Tryz.prog) 169 95 (some ⟨b, o, none⟩) (r.length + 1) c 1 W Tryz.underlying169 (by kernel_rfl) (by omega) hc
  have hrd : RowV w (sl2 (some ⟨b, o, none⟩) 1 c) (r.map fun b => .map (some b)) := by
    have := rowV_drop hrow 1 c (by simpa using hc)
    simpa using this
  generalize sl2 (some ⟨b, o, none⟩) 1 c = a1 at *
  have hposI : (0 : Int) < (r.length : Int) + 1 := by omega
  replace hb1 := Lib.hid hb1
  replace hrd := Lib.hid hrd
  replace hs := Lib.hid hs
  clear hrow hc0 hE1 hE2
  go_enter Tryz.func121, Tryz.ntmps121
  go_wp2_with (go_at_call 137; refine hcl.out.mono ?_; rintro e w' ⟨rfl, rfl⟩)
  go_loopw [13] (fun iv wx => ∃ i : Nat, iv = .int .i64 i ∧ i ≤ r.length ∧ Hid (SetAt wx w.heap.size (interT K0 (Ks.take i))) ∧ Hid (Below w.heap.size w wx)) (fun iv _ => r.length - (intOf iv).toNat)
  case atStart => exact ⟨0, rfl, by omega, hS1, hb1⟩
  case round =>
    clear hS1 hb1
    obtain ⟨i, rfl, hi, hS, hb⟩ := hrel
    by_cases hlt : i < r.length
    · have hltI : (i : Int) < r.length := by omega
      obtain ⟨b2, o2, rfl, hci⟩ := hrd.out i (by simpa using hlt)
      have hci' : wr.cell? ⟨b2, o2 + i, none⟩ = some (.map (some r[i])) := cbel hb.out (by simpa using hci)
      have hSi := (hs.out i hlt).below hb.out
      have hlti := (hs.out i hlt).lt
      have htk : Hid (interT K0 (Ks.take (i + 1)) = (interT K0 (Ks.take i)).filter fun k => decide (k ∈ Ks[i]'(by omega))) := Lib.hid (by rw [List.take_succ_eq_append_getElem (by omega), interT_snoc])
      generalize r[i] = m at *
      generalize Ks[i]'(by omega) = Km at *
      have hbA : Below wr.heap.size wr (wr.alloc (.cells #[.map (some m)] 95)) := xalloc (xrefl wr) _
      have hdl := Lib.hid (delFunc_any w.heap.size wr.heap.size m _ Km (wr.alloc (.cells #[.map (some m)] 95)) (hS.out.below hbA) (Box.new wr _ _).cell (hSi.below hbA) (by omega))
      replace hbA := Lib.hid hbA
      clear hci hSi
      go_wp2_with (go_at_call 138; refine hdl.out.mono ?_; rintro e w3 ⟨rfl, hS3, ho3⟩; have hb3 := Lib.hid (ho3.below (xtrans hb.out hbA.out) (xtrans hb.out hbA.out).size (by rintro k rfl; exact Nat.le_refl _)); replace hS3 := Lib.hid hS3; clear ho3)
      exact ⟨⟨i + 1, by go_num, by omega, Lib.hid (by rw [htk.out]; exact hS3.out), hb3⟩, by simp [intOf]; omega⟩
    · obtain rfl : i = r.length := by omega
      rw [← hlen, List.take_length] at hS
      clear hlt
      go_wp2
      go_ret
      exact ⟨⟨rfl, hS.out⟩, hb.out⟩
end Go.Proofs.YtijkdabmegbcjaaGreatDoor
namespace Go.Proofs.YtijkdabmegbcjaaGreatDoor

/-- A way to the exit. -/
inductive Way (nx : Nat → List Nat) (ex : Nat → Bool) : Nat → List Nat → Prop
  | out {k : Nat} : ex k = true → Way nx ex k [k]
  | step {k j : Nat} {l : List Nat} : j ∈ nx k → Way nx ex j l → Way nx ex k (k :: l)
def Ends (nx : Nat → List Nat) (ex : Nat → Bool) (k : Nat) : Prop := ∃ l, Way nx ex k l
/-- All ways to the exit go through it. -/
def Beh (nx : Nat → List Nat) (ex : Nat → Bool) (k b : Nat) : Prop := Ends nx ex k ∧ ∀ l, Way nx ex k l → b ∈ l
/-- One comes there, not through but. -/
inductive RchA (nx : Nat → List Nat) (but : Int) : Nat → Nat → Prop
  | here {a : Nat} : (a : Int) ≠ but → RchA nx but a a
  | go {a c b : Nat} : (a : Int) ≠ but → c ∈ nx a → RchA nx but c b → RchA nx but a b
section
variable {nx : Nat → List Nat} {ex : Nat → Bool}
theorem Way.first {k : Nat} {l : List Nat} (h : Way nx ex k l) : k ∈ l := by cases h <;> simp
theorem Way.cut {k b : Nat} {l : List Nat} (h : Way nx ex k l) (hb : b ∈ l) : ∃ l', Way nx ex b l' ∧ (∀ x ∈ l', x ∈ l) ∧ l'.length ≤ l.length ∧ (b ≠ k → l'.length < l.length) := by
  induction h with
  | out he =>
    simp at hb
    subst hb
    exact ⟨_, .out he, fun _ h => h, Nat.le_refl _, fun h => absurd rfl h⟩
  | @step k j l hj hw ih =>
    rcases List.mem_cons.1 hb with e | e
    · subst e
      exact ⟨_, .step hj hw, fun _ h => h, Nat.le_refl _, fun h => absurd rfl h⟩
    · obtain ⟨l', h1, h2, h3, h4⟩ := ih e
      exact ⟨l', h1, fun x hx => List.mem_cons_of_mem _ (h2 x hx), by simp; omega, fun _ => by simp; omega⟩
theorem Beh.self {k : Nat} (h : Ends nx ex k) : Beh nx ex k k := ⟨h, fun _ hl => hl.first⟩
theorem Beh.ends {k b : Nat} (h : Beh nx ex k b) : Ends nx ex b := by
  obtain ⟨⟨l, hl⟩, h2⟩ := h
  obtain ⟨l', h', -⟩ := hl.cut (h2 l hl)
  exact ⟨l', h'⟩
theorem Beh.trans {k a b : Nat} (h : Beh nx ex k a) (h2 : Beh nx ex a b) : Beh nx ex k b := by
  refine ⟨h.1, fun l hl => ?_⟩
  obtain ⟨l', h', hs, -⟩ := hl.cut (h.2 l hl)
  exact hs b (h2.2 l' h')
theorem Beh.anti {k a : Nat} (h : Beh nx ex k a) (h2 : Beh nx ex a k) : a = k := by
  by_cases e : a = k
  · exact e
  · exfalso
    have key : ∀ n l, Way nx ex k l → l.length ≤ n → False := by
      intro n
      induction n with
      | zero =>
        intro l hl hn
        cases hl <;> simp at hn
      | succ n ih =>
        intro l hl hn
        obtain ⟨l', h', -, -, hlt⟩ := hl.cut (h.2 l hl)
        obtain ⟨l2, h3, -, hle, -⟩ := h'.cut (h2.2 l' h')
        have := hlt e
        exact ih l2 h3 (by omega)
    obtain ⟨⟨l, hl⟩, -⟩ := h
    exact key _ l hl (Nat.le_refl _)
theorem Beh.fix {k b : Nat} (h : Beh nx ex k b) : b = k ∨ (ex k = false ∧ ∀ j ∈ nx k, Ends nx ex j → Beh nx ex j b) := by
  by_cases e : b = k
  · exact .inl e
  · right
    constructor
    · cases hx : ex k with
      | false => rfl
      | true => have := h.2 _ (.out hx); simp at this; exact absurd this e
    · intro j hj hE
      refine ⟨hE, fun l hl => ?_⟩
      rcases List.mem_cons.1 (h.2 _ (.step hj hl)) with e2 | e2
      · exact absurd e2 e
      · exact e2
theorem beh_of {B : Nat → Nat → Prop} (hB : ∀ k b, Ends nx ex k → B k b → b = k ∨ (ex k = false ∧ ∀ j ∈ nx k, Ends nx ex j → B j b)) {k b : Nat} (hE : Ends nx ex k) (h : B k b) : Beh nx ex k b := by
  refine ⟨hE, fun l hl => ?_⟩
  clear hE
  induction hl with
  | @out k hx =>
    rcases hB _ b ⟨_, .out hx⟩ h with e | ⟨e, -⟩
    · simp [e]
    · rw [hx] at e; cases e
  | @step k j l hj hw ih =>
    rcases hB k b ⟨_, .step hj hw⟩ h with e | ⟨-, e⟩
    · simp [e]
    · exact List.mem_cons_of_mem _ (ih (e j hj ⟨l, hw⟩))
theorem ends_fix {k : Nat} : Ends nx ex k ↔ ex k = true ∨ ∃ j ∈ nx k, Ends nx ex j := by
  constructor
  · rintro ⟨l, hl⟩
    cases hl with
    | out h => exact .inl h
    | step hj hw => exact .inr ⟨_, hj, _, hw⟩
  · rintro (h | ⟨j, hj, l, hl⟩)
    · exact ⟨_, .out h⟩
    · exact ⟨_, .step hj hl⟩
theorem ends_in {S : Nat → Prop} {D : Nat → Prop} (hD : ∀ k, D k → ∀ j ∈ nx k, D j) (hS : ∀ k, D k → (ex k = true ∨ ∃ j ∈ nx k, S j) → S k) {k : Nat} (hk : D k) (h : Ends nx ex k) : S k := by
  obtain ⟨l, hl⟩ := h
  induction hl with
  | out h => exact hS _ hk (.inl h)
  | step hj hw ih => exact hS _ hk (.inr ⟨_, hj, ih (hD _ hk _ hj)⟩)
theorem RchA.ne {but : Int} {a b : Nat} (h : RchA nx but a b) : (a : Int) ≠ but := by cases h <;> assumption
theorem way_iff {but : Int} {a : Nat} : (∃ x, RchA nx but a x ∧ ex x = true) ↔ ∃ l, Way nx ex a l ∧ ∀ y ∈ l, (y : Int) ≠ but := by
  constructor
  · rintro ⟨x, h, hx⟩
    induction h with
    | here h => exact ⟨_, .out hx, by simpa using h⟩
    | go h1 h2 _ ih =>
      obtain ⟨l, hl, hn⟩ := ih hx
      exact ⟨_, .step h2 hl, fun y hy => (List.mem_cons.1 hy).elim (fun e => by rw [e]; exact h1) (hn y)⟩
  · rintro ⟨l, hl, hn⟩
    induction hl with
    | out h => exact ⟨_, .here (hn _ (by simp)), h⟩
    | step hj hw ih =>
      obtain ⟨x, h1, h2⟩ := ih fun y hy => hn y (List.mem_cons_of_mem _ hy)
      exact ⟨x, .go (hn _ (by simp)) hj h1, h2⟩
/-- Behind: no way leaves it out. -/
theorem beh_not {k b : Nat} : Beh nx ex k b ↔ Ends nx ex k ∧ ¬ ∃ x, RchA nx (b : Int) k x ∧ ex x = true := by
  rw [way_iff]
  unfold Beh
  refine and_congr_right fun _ => ⟨fun h => ?_, fun h l hl => ?_⟩
  · rintro ⟨l, hl, hn⟩
    exact hn b (h l hl) rfl
  · by_cases e : b ∈ l
    · exact e
    · exact absurd ⟨l, hl, fun y hy e2 => e (by rw [← Int.ofNat_inj.1 e2]; exact hy)⟩ h

/-! The meet: the next one behind for sure. -/
theorem filter_len {p q : Nat → Bool} : ∀ {l : List Nat}, (∀ x ∈ l, p x = true → q x = true) → (l.filter p).length ≤ (l.filter q).length ∧ ((l.filter q).length ≤ (l.filter p).length → ∀ x ∈ l, q x = true → p x = true)
  | [], _ => by simp
  | y :: l, h => by
    obtain ⟨h1, h2⟩ := filter_len (l := l) fun x hx => h x (by simp [hx])
    have hy := h y (by simp)
    cases hp : p y with
    | true =>
      rw [hp] at hy
      have hq := hy rfl
      rw [List.filter_cons_of_pos hp, List.filter_cons_of_pos hq]
      refine ⟨by simpa using h1, fun hl x hx hqx => ?_⟩
      rcases List.mem_cons.1 hx with e | e
      · rw [e]; exact hp
      · exact h2 (by simpa using hl) x e hqx
    | false =>
      rw [List.filter_cons_of_neg (by rw [hp]; decide)]
      cases hq : q y with
      | true =>
        rw [List.filter_cons_of_pos hq]
        refine ⟨by simp; omega, fun hl => ?_⟩
        simp at hl; omega
      | false =>
        rw [List.filter_cons_of_neg (by rw [hq]; decide)]
        refine ⟨h1, fun hl x hx hqx => ?_⟩
        rcases List.mem_cons.1 hx with e | e
        · rw [e] at hqx; rw [hqx] at hq; cases hq
        · exact h2 hl x e hqx
theorem filter_less {p : Nat → Bool} {k : Nat} : ∀ {l : List Nat}, l.Nodup → k ∈ l → p k = true → (l.filter fun x => p x && x != k).length + 1 = (l.filter p).length
  | [], _, h, _ => by simp at h
  | y :: l, hn, hk, hp => by
    rw [List.nodup_cons] at hn
    by_cases e : y = k
    · subst e
      rw [List.filter_cons_of_pos hp, List.filter_cons_of_neg (by simp), List.length_cons]
      congr 2
      refine List.filter_congr fun x hx => ?_
      have : x ≠ y := fun e => hn.1 (by rw [← e]; exact hx)
      simp [this]
    · have hk' : k ∈ l := by
        rcases List.mem_cons.1 hk with h | h
        · exact absurd h.symm e
        · exact h
      have ih := filter_less (p := p) hn.2 hk' hp
      cases hpy : p y with
      | true =>
        rw [List.filter_cons_of_pos hpy, List.filter_cons_of_pos (by simp [hpy, e]), List.length_cons, List.length_cons, ih]
      | false =>
        rw [List.filter_cons_of_neg (by simp [hpy]), List.filter_cons_of_neg (by simp [hpy]), ih]
section
variable {ks : List Nat} {bh : Nat → Nat → Bool}
theorem behind_less (hn : ks.Nodup) (hb : ∀ k b, bh k b = true ↔ Beh nx ex k b) {k to : Nat} (hk : k ∈ ks) (hto : bh k to = true) (hne : to ≠ k) :
    (ks.filter (bh to)).length + 1 ≤ (ks.filter (bh k)).length ∧ ((ks.filter (bh to)).length + 1 = (ks.filter (bh k)).length → ∀ b ∈ ks, bh k b = true → b ≠ k → bh to b = true) := by
  have hB := (hb k to).1 hto
  have hkk : bh k k = true := (hb k k).2 (.self hB.1)
  have hl := filter_less hn hk hkk
  have hs : ∀ x ∈ ks, bh to x = true → (bh k x && x != k) = true := fun x _ hx => by
    have hx' := (hb to x).1 hx
    rw [Bool.and_eq_true]
    refine ⟨(hb k x).2 (hB.trans hx'), ?_⟩
    rw [bne_iff_ne]
    rintro rfl
    exact hne (hB.anti hx')
  obtain ⟨h1, h2⟩ := filter_len hs
  refine ⟨by omega, fun he b hbk h3 h4 => h2 (by omega) b hbk ?_⟩
  simp [h3, h4]
theorem meet_one (hn : ks.Nodup) (hb : ∀ k b, bh k b = true ↔ Beh nx ex k b) {k a b : Nat} (hk : k ∈ ks) (ha : a ∈ ks) (hbk : b ∈ ks) (h1 : bh k a = true) (h2 : a ≠ k) (h3 : (ks.filter (bh a)).length + 1 = (ks.filter (bh k)).length) (h4 : bh k b = true) (h5 : b ≠ k) (h6 : (ks.filter (bh b)).length + 1 = (ks.filter (bh k)).length) : a = b := by
  have e1 := (behind_less hn hb hk h1 h2).2 h3 b hbk h4 h5
  have e2 := (behind_less hn hb hk h4 h5).2 h6 a ha h1 h2
  exact ((hb b a).1 e2).anti ((hb a b).1 e1)
/-- If there is one behind, there is a next one. -/
theorem next_beh {k b : Nat} (hb : Beh nx ex k b) (hne : b ≠ k) : ∃ to, Beh nx ex k to ∧ to ≠ k ∧ ∀ c, Beh nx ex k c → c ≠ k → Beh nx ex to c := by
  have key : ∀ j l, Way nx ex j l → ¬ (Beh nx ex k j ∧ j ≠ k) → (∀ l', Way nx ex j l' → ∃ l0, Way nx ex k l0 ∧ ∀ x ∈ l0, x ∈ l' ∨ ¬ (Beh nx ex k x ∧ x ≠ k)) →
      ∃ to, (Beh nx ex k to ∧ to ≠ k) ∧ ∀ l', Way nx ex to l' → ∃ l0, Way nx ex k l0 ∧ ∀ x ∈ l0, x ∈ l' ∨ ¬ (Beh nx ex k x ∧ x ≠ k) := by
    intro j l hw
    induction hw with
    | @out j hx =>
      intro hj hP
      obtain ⟨l0, h0, h1⟩ := hP _ (.out hx)
      rcases h1 b (hb.2 l0 h0) with e | e
      · rw [List.mem_singleton] at e
        subst e
        exact absurd ⟨hb, hne⟩ hj
      · exact absurd ⟨hb, hne⟩ e
    | @step j i l hi hw ih =>
      intro hj hP
      have hP2 : ∀ l', Way nx ex i l' → ∃ l0, Way nx ex k l0 ∧ ∀ x ∈ l0, x ∈ l' ∨ ¬ (Beh nx ex k x ∧ x ≠ k) := fun l' hl' => by
        obtain ⟨l0, h0, h1⟩ := hP _ (.step hi hl')
        refine ⟨l0, h0, fun x hx => ?_⟩
        rcases h1 x hx with e | e
        · rcases List.mem_cons.1 e with e | e
          · rw [e]; exact .inr hj
          · exact .inl e
        · exact .inr e
      by_cases e : Beh nx ex k i ∧ i ≠ k
      · exact ⟨i, e, hP2⟩
      · exact ih e hP2
  obtain ⟨⟨l, hl⟩, -⟩ := id hb
  obtain ⟨to, ⟨h1, h2⟩, h3⟩ := key k l hl (fun h => h.2 rfl) fun l' hl' => ⟨l', hl', fun x hx => .inl hx⟩
  refine ⟨to, h1, h2, fun c hc hcn => ⟨h1.ends, fun l' hl' => ?_⟩⟩
  obtain ⟨l0, h0, h4⟩ := h3 l' hl'
  rcases h4 c (hc.2 l0 h0) with e | e
  · exact e
  · exact absurd ⟨hc, hcn⟩ e
theorem meet_is (hn : ks.Nodup) (hb : ∀ k b, bh k b = true ↔ Beh nx ex k b) {k b : Nat} (hk : k ∈ ks) (h : bh k b = true) (hne : b ≠ k) : ∃ to, bh k to = true ∧ to ≠ k ∧ (ks.filter (bh to)).length + 1 = (ks.filter (bh k)).length ∧ ∀ c, bh k c = true → c ≠ k → bh to c = true := by
  obtain ⟨to, h1, h2, h3⟩ := next_beh ((hb k b).1 h) hne
  have hto := (hb k to).2 h1
  have hl := filter_less hn hk ((hb k k).2 (.self h1.1))
  have hall : ∀ c, bh k c = true → c ≠ k → bh to c = true := fun c hc hcn => (hb to c).2 (h3 c ((hb k c).1 hc) hcn)
  have hs : ∀ x ∈ ks, (bh k x && x != k) = true → bh to x = true := fun x _ hx => by
    rw [Bool.and_eq_true, bne_iff_ne] at hx
    exact hall x hx.1 hx.2
  have := (filter_len hs).1
  have := (behind_less hn hb hk hto h2).1
  exact ⟨to, hto, h2, by omega, hall⟩
end
end
end Go.Proofs.YtijkdabmegbcjaaGreatDoor
