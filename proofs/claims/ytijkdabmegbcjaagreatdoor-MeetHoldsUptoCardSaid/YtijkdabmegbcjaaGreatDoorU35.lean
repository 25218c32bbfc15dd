/- Texts of this claim, merged; no condition. -/
import Derived.Test.YtijkdabmegbcjaaGreatDoorU34
import Derived.Test.YtijkdabmegbcjaaGreatDoorU26
import Derived.Test.YtijkdabmegbcjaaGreatDoorU32
set_option linter.all false
namespace Go.Proofs.YtijkdabmegbcjaaGreatDoor
open Go.RowKit Go.Shelf
section
attribute [local go_sem] Oper.semAt_some
theorem nodup_of_map {α β : Type} {f : α → β} : ∀ {l : List α}, (l.map f).Nodup → l.Nodup
  | [], _ => List.nodup_nil
  | x :: l, h => by
    rw [List.map_cons, List.nodup_cons] at h
    exact List.nodup_cons.2 ⟨fun hx => h.1 (List.mem_map.2 ⟨x, hx, rfl⟩), nodup_of_map h.2⟩
set_option maxRecDepth 100000 in
set_option maxHeartbeats 1000000 in
theorem setkeys_seq (K : List Nat) (bx bm : Nat) (W : World) (hx : W.cell? ⟨bx, 0, none⟩ = some (.map (some bm))) (hS : SetAt W bm K) :
    SeqP Tryz.prog 94 #[.pointer (some ⟨bx, 0, none⟩)] (fun x : Int => #[.int .i64 x]) (fun k => k = bm) (fun xs => xs.Perm (natI K)) (fun pre => pre.length ≤ K.length) K.length false W := by
  obtain ⟨E, clk, hm, hE⟩ := hS
  replace hE := Lib.hid hE
  intro l0 J Jx hJ hJx hY h0 _
  replace hJ := Lib.hid hJ
  replace hJx := Lib.hid hJx
  replace hY := Lib.hid hY
  have hrg := range_Q (P := Tryz.prog) (t := 95) Tryz.underlying95 hm
  have hml : bm < W.heap.size := (Array.getElem?_eq_some_iff.1 hm).1
  replace hm := Lib.hid hm
  replace h0 := Lib.hid h0
  refine callsIn_of_wp Tryz.func94 rfl trivial ?_ rfl
  simp only [Tryz.ntmps94, List.size_toArray, List.length_cons, List.length_nil, Nat.reduceAdd, Nat.reduceSub, Array.replicate_succ, Array.replicate_zero, List.push_toArray, List.append_toArray, List.nil_append, List.cons_append]
  gi_wp2
  obtain ⟨it, hit⟩ : ∃ it, it = W.heap.size := ⟨_, rfl⟩
  have hb1 : Below W.heap.size W (W.alloc (itQ bm clk [])) := xalloc (xrefl W) _
  have hi1 : (W.alloc (itQ bm clk [])).heap[it]? = some (itQ bm clk []) := by rw [hit]; exact World.alloc_heap_new W _
  have hm1 : (W.alloc (itQ bm clk [])).heap[bm]? = some (mapQ .i64 E clk) := (hb1.block bm hml).trans hm.out
  have hJ1 : J (fun k => k = it) [] (W.alloc (itQ bm clk [])) := hJ.out _ _ _ W _ h0.out (fun k h => h.elim) (Below.only hb1) (fun k e => .inr (by omega))
  have hle := hb1.size
  rw [← hit]
  generalize W.alloc (itQ bm clk []) = W1 at hi1 hm1 hJ1 hle ⊢
  replace hi1 := Lib.hid hi1
  replace hm1 := Lib.hid hm1
  replace hJ1 := Lib.hid hJ1
  clear hb1 hrg
  have hbi : ¬ bm = it := by omega
  replace hit := Lib.hid hit
  gi_loopw [3] (fun _ wr => ∃ es : List (Int × Value × Nat), Hid ((es.map (·.2.2)).Nodup ∧ ∀ e ∈ es, e ∈ E) ∧ Hid (wr.heap[it]? = some (itQ bm clk (es.map (·.2.2)))) ∧ Hid (wr.heap[bm]? = some (mapQ .i64 E clk)) ∧ Hid (J (fun k => k = it) (es.map (·.1)) wr)) (fun _ wr => E.length - seenQ wr it)
  case atStart => exact ⟨[], Lib.hid ⟨List.nodup_nil, fun j h => by cases h⟩, hi1, hm1, hJ1⟩
  case round =>
    clear hi1 hm1 hJ1
    obtain ⟨es, hs, hi, hm1, hJs⟩ := hrel
    have hsub : ∀ s ∈ es.map (·.2.2), ∃ e ∈ E, e.2.2 = s := fun s h => by
      obtain ⟨e, he, rfl⟩ := List.mem_map.1 h
      exact ⟨e, hs.out.2 e he, rfl⟩
    rcases next_Q (P := Tryz.prog) 0 hi.out hm1.out (fun e he => hE.out.lt e he) with ⟨hall, hrun⟩ | ⟨e, he, hns, W2, hrun, hon, hi2⟩
    · have hrun' : ∀ ty, (Instr.next (.pointer (some ⟨it, 0, none⟩)) false ty).run Tryz.prog wr = _ := fun ty => hrun
      clear hrun
      have hp : es.Perm E := (List.perm_ext_iff_of_nodup (nodup_of_map hs.out.1) (nodup_of_map hE.out.sn)).2 fun x => ⟨hs.out.2 x, fun hx => by
        obtain ⟨y, hy, h2⟩ := List.mem_map.1 (hall x hx)
        have := nodup_inj hE.out.sn (hs.out.2 y hy) hx h2
        rw [← this]; exact hy⟩
      replace hall := Lib.hid hall
      replace hp := Lib.hid hp
      clear hsub
      gi_wp2
      go_end0
      refine ⟨⟨_, rfl⟩, .inl ⟨_, _, ?_, fun k e => by have := hit.out; omega, hJs.out⟩⟩
      rw [← hE.out.key]
      exact hp.out.map _
    · have hrun' : ∀ ty, (Instr.next (.pointer (some ⟨it, 0, none⟩)) false ty).run Tryz.prog wr = _ := fun ty => hrun
      have hm2 : W2.heap[bm]? = some (mapQ .i64 E clk) := (hon.same bm (Array.getElem?_eq_some_iff.1 hm1.out).1 hbi).trans hm1.out
      have hen := entry_Q (P := Tryz.prog) he hE.out.sn hi2 hm2
      have hJ2 : J (fun k => k = it) (es.map (·.1)) W2 := hJ.out _ _ _ wr W2 hJs.out (fun k e => by have := hit.out; omega) hon (fun k e => .inl e)
      have hlt := stamps_lt hs.out.1 hsub he hns
      have hKl := hE.out.len
      have hlen : (es.map (·.1)).length < K.length := by rw [List.length_map] at hlt ⊢; omega
      have hsn : Hid (((es ++ [e]).map (·.2.2)).Nodup ∧ ∀ x ∈ es ++ [e], x ∈ E) := Lib.hid ⟨by rw [List.map_append, List.nodup_append]; exact ⟨hs.out.1, by simp, fun a ha b hb h => hns (by simp at hb; subst hb; rw [← h]; exact ha)⟩, fun x hx => by
        rcases List.mem_append.1 hx with h | h
        · exact hs.out.2 x h
        · rw [List.mem_singleton] at h; rw [h]; exact he⟩
      have hst : es.map (·.2.2) ++ [e.2.2] = (es ++ [e]).map (·.2.2) := by simp
      have hsnoc : (es ++ [e]).map (·.1) = es.map (·.1) ++ [e.1] := by simp
      rw [hst] at hi2
      have h2l : it < W2.heap.size := (Array.getElem?_eq_some_iff.1 hi2).1
      obtain ⟨fnc, tmps, assign, body, hy, hR⟩ := hY.out (fun k => k = it) (es.map (·.1)) e.1 W2 (fun k e => by have := hit.out; omega) hJ2 hlen (by rw [List.length_append, List.length_singleton]; omega)
      have hsl : seenQ wr it = (es.map (·.2.2)).length := seenQ_eq hi.out
      rw [← hsnoc] at hR
      have hev := hE.out.val e he
      clear hrun hJ2 hsnoc hsub hst he
      obtain ⟨en, hene⟩ : ∃ en, es ++ [e] = en := ⟨_, rfl⟩
      have henl : Hid (en.length = es.length + 1) := Lib.hid (by rw [← hene]; simp)
      rw [hene] at hi2 hsn hR
      clear hene
      rw [hev] at hrun' hen
      generalize e.1 = key at *
      generalize e.2.2 = st at *
      replace hi2 := Lib.hid hi2
      replace hm2 := Lib.hid hm2
      replace hns := Lib.hid hns
      replace hR := Lib.hid hR
      replace hsl := Lib.hid hsl
      replace hlt := Lib.hid hlt
      replace hlen := Lib.hid hlen
      replace hev := Lib.hid hev
      clear hon hJs hs hi
      gi_wp2
      refine ⟨rfl, hR.out.mono ?_⟩
      rintro e W3 (⟨rfl, hJ3, hk3⟩ | ⟨rfl, hJx3, hk3⟩)
      · have hi3 := Lib.hid ((hk3.same it (Array.getElem?_eq_some_iff.1 hi2.out).1 (.inl rfl)).trans hi2.out)
        have hm3 := Lib.hid ((hk3.same bm (Array.getElem?_eq_some_iff.1 hm2.out).1 (.inr rfl)).trans hm2.out)
        replace hJ3 := Lib.hid hJ3
        have hlt3 : E.length - seenQ W3 it < E.length - seenQ wr it := by
          have := hlt.out
          rw [hsl.out, seenQ_eq hi3.out, List.length_map, henl.out]; simp at this ⊢; omega
        replace hlt3 := Lib.hid hlt3
        clear hk3
        gi_wp2
        exact ⟨⟨en, hsn, hi3, hm3, hJ3⟩, hlt3.out⟩
      · gi_wp2
        refine bodyPost_ret (results_none rfl _ _ _) rfl ?_
        exact ⟨⟨_, rfl⟩, .inr ⟨_, _, by rw [List.length_map, henl.out]; have := hlen.out; simp at this; omega, fun k e => by have := hit.out; omega, hJx3⟩⟩
set_option maxRecDepth 100000 in
set_option maxHeartbeats 1000000 in
theorem nilkeys_seq (bx : Nat) (W : World) (hx : W.cell? ⟨bx, 0, none⟩ = some (.map none)) :
    SeqP Tryz.prog 94 #[.pointer (some ⟨bx, 0, none⟩)] (fun x : Int => #[.int .i64 x]) (fun _ => False) (fun xs => xs.Perm (natI [])) (fun pre => pre.length ≤ 0) 0 false W := by
  intro l0 J Jx hJ hJx hY h0 _
  replace hJ := Lib.hid hJ
  replace hJx := Lib.hid hJx
  replace hY := Lib.hid hY
  have hrg := run_range_nilMap (P := Tryz.prog) W 95 3 4 Tryz.underlying95
  have hnx : ∀ ty, (Instr.next (.pointer (some ⟨W.heap.size, 0, none⟩)) false ty).run Tryz.prog (W.alloc (.mapIter none 0 #[] 0)) = _ := fun ty => run_next_nilMap W ty 0 0 #[]
  have hb1 : Below W.heap.size W (W.alloc (.mapIter none 0 #[] 0)) := xalloc (xrefl W) _
  have hJ1 : J (fun k => k = W.heap.size) [] (W.alloc (.mapIter none 0 #[] 0)) := hJ.out _ _ _ W _ h0 (fun k h => h.elim) (Below.only hb1) (fun k e => .inr (by omega))
  replace hJ1 := Lib.hid hJ1
  replace h0 := Lib.hid h0
  clear hb1
  refine callsIn_of_wp Tryz.func94 rfl trivial ?_ rfl
  simp only [Tryz.ntmps94, List.size_toArray, List.length_cons, List.length_nil, Nat.reduceAdd, Nat.reduceSub, Array.replicate_succ, Array.replicate_zero, List.push_toArray, List.append_toArray, List.nil_append, List.cons_append]
  gi_wp2
  refine wpIn_loop_rounds 1 ?_
  rw [roundsIn_succ]
  gi_wp2
  go_end0
  exact ⟨⟨_, rfl⟩, .inl ⟨_, _, List.Perm.refl _, fun k e => (by omega : _), hJ1.out⟩⟩
/-- A set that may be nil. -/
def SetN (w : World) (v : Option Nat) (K : List Nat) : Prop := (v = none ∧ K = []) ∨ ∃ b, v = some b ∧ SetAt w b K
theorem SetN.below {w w' : World} {v : Option Nat} {K : List Nat} (h : SetN w v K) (hb : Below w.heap.size w w') : SetN w' v K := h.elim .inl fun ⟨b, e, h⟩ => .inr ⟨b, e, h.below hb⟩
set_option maxRecDepth 100000 in
theorem SetN.len {w : World} {v : Option Nat} {K : List Nat} (h : SetN w v K) : (Builtin.len_ #[95] 3 #[.map v]).run Tryz.prog w = .ok (.int .i64 K.length) w := by
  rcases h with ⟨rfl, rfl⟩ | ⟨b, rfl, h⟩
  · rfl
  · exact h.len (k := 3) (e := 4) Tryz.underlying95 3
set_option maxRecDepth 100000 in
theorem keysN_any (v : Option Nat) (w : World) : Calls Tryz.prog 61 #[.map v] w fun e w' => e = .returned (.func (.func 94) #[] #[.pointer (some ⟨w.heap.size, 0, none⟩)]) ∧ w.alloc (.cells #[.map v] 95) = w' := by
  go_enter Tryz.func61, Tryz.ntmps61
  go_wp2
  go_ret
  exact ⟨rfl, rfl⟩
set_option maxRecDepth 100000 in
theorem seqN {v : Option Nat} {K : List Nat} {w : World} (h : SetN w v K) (hl : K.length ≤ 1000) : SeqIn 94 #[.pointer (some ⟨w.heap.size, 0, none⟩)] (fun k => v = some k) (fun xs => xs.Perm (natI K)) (fun pre => pre.length ≤ K.length) K.length (w.alloc (.cells #[.map v] 95)) := by
  have hb : Below w.heap.size w (w.alloc (.cells #[.map v] 95)) := xalloc (xrefl w) _
  have hen := enters_of Tryz.func94 (by kernel_rfl) rfl
  have hx := (Box.new w (.map v) 95).cell
  rcases h with ⟨rfl, rfl⟩ | ⟨b, rfl, h⟩
  · exact ⟨hen, fun W hW => by have := nilkeys_seq w.heap.size W (cbel hW hx); simpa using this, fun k hk => (by cases hk), by simp⟩
  · exact ⟨hen, fun W hW => by have := setkeys_seq K w.heap.size b W (cbel hW hx) ((h.below hb).below hW); simpa [eq_comm] using this, fun k hk => (by cases hk; have := h.lt; rw [World.size_alloc]; omega), by omega⟩
set_option maxRecDepth 100000 in
theorem BehG.own {lo : Nat} {w : World} {gb : Nat} {bs : List BlkN} {hb : Nat} {F : Nat → Option (List Nat)} {D : Nat} (g : Graph bs D) (h : BehG lo w gb bs hb F) (n : Int) : ∃ v K, (Instr.lookup 97 (.map (some hb)) (.int .i64 n) false).run Tryz.prog w = .ok (.map v) w ∧ SetN w v K ∧ K.Nodup ∧ K.length = (behindZ bs D n).length ∧ ∀ x, x ∈ K ↔ x ∈ behindZ bs D n := by
  have hzm : ∀ w, (zeroValue 95).run Tryz.prog w = .ok (.map none) w := fun _ => rfl
  by_cases h0 : n < 0
  · exact ⟨none, [], h.beh.lookN Tryz.underlying97 Tryz.underlying3 hzm n h0, .inl ⟨rfl, rfl⟩, List.nodup_nil, by rw [behindZ_neg h0], fun x => by rw [behindZ_neg h0]⟩
  · obtain ⟨k, rfl⟩ := Int.eq_ofNat_of_zero_le (Int.not_lt.1 h0)
    have hz : behindZ bs D (k : Int) = behindN bs D k := behindZ_nat bs D k
    cases e : F k with
    | none => exact ⟨none, [], h.beh.look0 Tryz.underlying97 Tryz.underlying3 hzm k e, .inl ⟨rfl, rfl⟩, List.nodup_nil, by rw [hz, h.no g e], fun x => by rw [hz, h.no g e]⟩
    | some K =>
      obtain ⟨b, h1, -, h2⟩ := h.beh.look (P := Tryz.prog) (t := 97) (k := 3) (e := 95) Tryz.underlying97 Tryz.underlying3 hzm k e
      exact ⟨some b, K, h1, .inr ⟨b, rfl, h2⟩, (h.ins k K e).1, by rw [hz]; exact h.len g e, fun x => by rw [hz]; exact h.mem g e x⟩
theorem sl_set {K L : List Nat} (hL : SL L) (h : ∀ x, x ∈ K ↔ x ∈ L) : setL K = L := by
  have h2 : (natI (setL K)) = natI L := int_ext (natI_sl (setL_sl K)) (natI_sl hL) fun z => by
    rw [mem_natI, mem_natI]
    constructor
    · rintro ⟨n, hn, e⟩; exact ⟨n, (h n).1 ((mem_setL _ _).1 hn), e⟩
    · rintro ⟨n, hn, e⟩; exact ⟨n, (mem_setL _ _).2 ((h n).2 hn), e⟩
  unfold natI at h2
  have h3 := congrArg (List.map Int.toNat) h2
  rw [List.map_map, List.map_map, show (Int.toNat ∘ fun n : Nat => (n : Int)) = id from by funext x; simp, List.map_id, List.map_id] at h3
  exact h3
end
set_option maxRecDepth 100000 in
set_option maxHeartbeats 4000000 in
theorem behindM_any (cs : List Nat) (n : Int) (a : Option Addr) (c : Nat) (w : World) (h : CodeAt w a c cs) (hl : cs.length ≤ 100) :
    Calls Tryz.prog 30 #[.slice a cs.length c, .int .i64 n] w fun e w' => (∃ v, e = .returned v ∧ OwnI w w' v (behindZ (blksN cs) cs.length n)) ∧ Below w.heap.size w w' := by
  have g := graph_code cs
  have hof := Lib.hid (ofGraph_any cs a c w h hl)
  have hbl := blksN_len cs
  have hzm : ∀ w, (zeroValue 95).run Tryz.prog w = .ok (.map none) w := fun _ => rfl
  clear h
  go_enter Tryz.func30, Tryz.ntmps30
  go_wp2_with (first
    | (go_at_call 56; refine hof.out.mono ?_; rintro e w1 ⟨⟨gb, rfl, -, bh, F, hG⟩, hb1⟩; have c1 := hG.c1; obtain ⟨v, K, hlk, hSN, hnd, hlen, hmem⟩ := hG.own g n; have hkl : K.length ≤ 1000 := (by rw [hlen]; exact Nat.le_trans (behindZ_len n) (by omega)); have hseq := seqN hSN hkl; have hko := keysN_any v w1; have hso := insorted_any _ hseq (fun pre h => h) (fun xs h => by have := h.length_eq; rw [natI_len] at this; omega); replace hso := Lib.hid hso; replace hko := Lib.hid hko; replace hG := Lib.hid hG; replace hb1 := Lib.hid hb1; replace hmem := Lib.hid hmem; clear hseq hSN)
    | (go_at_call 61; refine hko.out.mono ?_; rintro e w' ⟨rfl, rfl⟩)
    | (go_at_call 60; refine hso.out.mono ?_; rintro e w2 ⟨v2, xs, rfl, hS, hown, hb2⟩; replace hS := Lib.hid hS; replace hown := Lib.hid hown; replace hb2 := Lib.hid hb2))
  go_ret
  have hp := hS.out
  have ho := hown.out
  have hsl : SL (behindZ (blksN cs) cs.length n) := by
    by_cases h0 : n < 0
    · rw [behindZ_neg h0]; exact List.Pairwise.nil
    · obtain ⟨k, rfl⟩ := Int.eq_ofNat_of_zero_le (Int.not_lt.1 h0)
      have hz : behindZ (blksN cs) cs.length (k : Int) = behindN (blksN cs) cs.length k := behindZ_nat _ _ k
      rw [hz]; exact behind_sl g k
  have hK : setL K = behindZ (blksN cs) cs.length n := sl_set hsl hmem.out
  have hxl : xs.length = (setL K).length := by have := hp.length_eq; rw [natI_len] at this; rw [hK]; omega
  rw [sort_nat hp hnd, hxl, World.size_alloc, hK] at ho
  exact ⟨⟨_, rfl, own_base ho (by have := hb1.out.size; omega)⟩, xtrans (xtrans hb1.out (xalloc (xrefl _) _)) hb2.out⟩
set_option maxRecDepth 100000 in
set_option maxHeartbeats 4000000 in
theorem endsM_any (cs : List Nat) (n : Int) (a : Option Addr) (c : Nat) (w : World) (h : CodeAt w a c cs) (hl : cs.length ≤ 100) :
    Calls Tryz.prog 28 #[.slice a cs.length c, .int .i64 n] w fun e w' => e = .returned (.bool (exitsZ (blksN cs) cs.length n (-1))) ∧ Below w.heap.size w w' := by
  have g := graph_code cs
  have hof := Lib.hid (ofGraph_any cs a c w h hl)
  have hbl := blksN_len cs
  have hx : Hid (∀ m : Nat, m = (behindZ (blksN cs) cs.length n).length → decide (0 < m) = exitsZ (blksN cs) cs.length n (-1)) := Lib.hid fun m hm => by
    rw [hm]
    by_cases h0 : n < 0
    · rw [behindZ_neg h0, exitsZ_neg h0]; rfl
    · obtain ⟨k, rfl⟩ := Int.eq_ofNat_of_zero_le (Int.not_lt.1 h0)
      have hz : behindZ (blksN cs) cs.length (k : Int) = behindN (blksN cs) cs.length k := behindZ_nat _ _ k
      have hz2 : exitsZ (blksN cs) cs.length (k : Int) (-1) = exitsN (blksN cs) cs.length k (-1) := exitsZ_nat _ _ k _
      rw [hz, hz2, Bool.eq_iff_iff, decide_eq_true_eq, ← behind_ne g]
      have := List.length_pos_iff (l := behindN (blksN cs) cs.length k)
      rw [← this]
  clear h
  go_enter Tryz.func28, Tryz.ntmps28
  go_wp2_with (go_at_call 56; refine hof.out.mono ?_; rintro e w1 ⟨⟨gb, rfl, -, bh, F, hG⟩, hb1⟩; have c1 := hG.c1; obtain ⟨v, K, hlk, hSN, hnd, hlen, hmem⟩ := hG.own g n; have hle := hSN.len; replace hG := Lib.hid hG; replace hb1 := Lib.hid hb1; replace hlen := Lib.hid hlen; clear hSN hnd hmem)
  go_ret
  exact ⟨congrArg (fun b => Ending.returned (.bool b)) (hx.out K.length hlen.out), hb1.out⟩
set_option maxRecDepth 100000 in
set_option maxHeartbeats 4000000 in
theorem meetM_any (cs : List Nat) (n : Int) (a : Option Addr) (c : Nat) (w : World) (h : CodeAt w a c cs) (hl : cs.length ≤ 100) :
    Calls Tryz.prog 26 #[.slice a cs.length c, .int .i64 n] w fun e w' => e = .returned (atV (meetZ (blksN cs) cs.length n)) ∧ Below w.heap.size w w' := by
  have g := graph_code cs
  have hof := Lib.hid (ofGraph_any cs a c w h hl)
  have hbl := blksN_len cs
  clear h
  go_enter Tryz.func26, Tryz.ntmps26
  go_wp2_with (first
    | (go_at_call 56; refine hof.out.mono ?_; rintro e w1 ⟨⟨gb, rfl, hG⟩, hb1⟩; have hme := meet_any _ _ g gb n w1 hG.meet (by omega); replace hme := Lib.hid hme; replace hb1 := Lib.hid hb1)
    | (go_at_call 57; refine hme.out.mono ?_; rintro e w2 ⟨rfl, hb2⟩; unfold atV; replace hb2 := Lib.hid (xtrans hb1.out hb2)))
  go_ret2
  exact ⟨rfl, hb2.out⟩
end Go.Proofs.YtijkdabmegbcjaaGreatDoor
namespace Go.Proofs.YtijkdabmegbcjaaGreatDoor
open Go.RowKit

def lineZ (bs : List BlkN) (D : Nat) (n : Int) : List Nat := if 0 ≤ n then lineN bs D n.toNat else []
theorem lineZ_nat (bs : List BlkN) (D k : Nat) : lineZ bs D k = lineN bs D k := by unfold lineZ; rw [if_pos (by omega), Int.toNat_natCast]
theorem lineZ_none {bs : List BlkN} {D : Nat} {n : Int} (h : exitsZ bs D n (-1) = false) : lineZ bs D n = [] := by
  unfold lineZ
  split
  · rename_i hn
    obtain ⟨k, rfl⟩ := Int.eq_ofNat_of_zero_le hn
    rw [exitsZ_nat] at h
    rw [Int.toNat_natCast]
    unfold lineN
    rw [h]; rfl
  · rfl
theorem behind_pos {bs : List BlkN} {D : Nat} (g : Graph bs D) {k : Nat} (h : exitsN bs D k (-1) = true) : 0 < (behindN bs D k).length := List.length_pos_iff.2 ((behind_ne g).2 h)
end Go.Proofs.YtijkdabmegbcjaaGreatDoor
namespace Go.Proofs.YtijkdabmegbcjaaGreatDoor
open Go.RowKit Go.Shelf

set_option maxRecDepth 100000 in
theorem BehG.ownW {lo : Nat} {w : World} {gb : Nat} {bs : List BlkN} {hb : Nat} {F : Nat → Option (List Nat)} {D : Nat} (g : Graph bs D) (h : BehG lo w gb bs hb F) (n : Int) : ∃ v K, (∀ W, Below w.heap.size w W → (Instr.lookup 97 (.map (some hb)) (.int .i64 n) false).run Tryz.prog W = .ok (.map v) W) ∧ SetN w v K ∧ K.length = (behindZ bs D n).length := by
  have hzm : ∀ w, (zeroValue 95).run Tryz.prog w = .ok (.map none) w := fun _ => rfl
  by_cases h0 : n < 0
  · exact ⟨none, [], fun W hW => (h.beh.below hW).lookN Tryz.underlying97 Tryz.underlying3 hzm n h0, .inl ⟨rfl, rfl⟩, by rw [behindZ_neg h0]⟩
  · obtain ⟨k, rfl⟩ := Int.eq_ofNat_of_zero_le (Int.not_lt.1 h0)
    have hz : behindZ bs D (k : Int) = behindN bs D k := behindZ_nat bs D k
    cases e : F k with
    | none => exact ⟨none, [], fun W hW => (h.beh.below hW).look0 Tryz.underlying97 Tryz.underlying3 hzm k e, .inl ⟨rfl, rfl⟩, by rw [hz, h.no g e]⟩
    | some K =>
      obtain ⟨E, clk, h1, h2, hp, h3⟩ := h.beh
      obtain ⟨b, e1, -, -, e4⟩ := (h3 k).2 K e
      exact ⟨some b, K, fun W hW => by rw [run_lookQ Tryz.underlying97 Tryz.underlying3 hzm _ _ ((hW.block hb h.beh.lt).trans h1), if_neg (by decide), e1]; rfl, .inr ⟨b, rfl, e4⟩, by rw [hz]; exact h.len g e⟩
def isT : Value → Bool
  | .bool b => b
  | _ => false
theorem exits_len {bs : List BlkN} {D : Nat} (g : Graph bs D) (n : Int) {m : Nat} (hm : m = (behindZ bs D n).length) : decide (0 < m) = exitsZ bs D n (-1) := by
  rw [hm]
  by_cases h0 : n < 0
  · rw [behindZ_neg h0, exitsZ_neg h0]; rfl
  · obtain ⟨k, rfl⟩ := Int.eq_ofNat_of_zero_le (Int.not_lt.1 h0)
    have hz : behindZ bs D (k : Int) = behindN bs D k := behindZ_nat _ _ k
    have hz2 : exitsZ bs D (k : Int) (-1) = exitsN bs D k (-1) := exitsZ_nat _ _ k _
    rw [hz, hz2, Bool.eq_iff_iff, decide_eq_true_eq, ← behind_ne g]
    have := List.length_pos_iff (l := behindN bs D k)
    rw [← this]
/-- What is left of a line. -/
structure LinI (bs : List BlkN) (D : Nat) (R : List Nat) (k : Nat) (pre : List Nat) : Prop where
  ex : exitsN bs D k (-1) = true
  eq : R = pre ++ lineF bs D (behindN bs D k).length k
theorem LinI.now {bs : List BlkN} {D : Nat} (g : Graph bs D) {R : List Nat} {k : Nat} {pre : List Nat} (h : LinI bs D R k pre) :
    pre.length < R.length ∧ pre ++ [k] = R.take (pre.length + 1) ∧ (meetN bs D k = none → R = pre ++ [k]) ∧ ∀ m, meetN bs D k = some m → LinI bs D R m (pre ++ [k]) ∧ (behindN bs D m).length + 1 = (behindN bs D k).length := by
  obtain ⟨f, hf⟩ : ∃ f, (behindN bs D k).length = f + 1 := ⟨(behindN bs D k).length - 1, by have := behind_pos g h.ex; omega⟩
  have he := h.eq
  rw [hf] at he
  have hLF : lineF bs D (f + 1) k = match meetN bs D k with | some m => k :: lineF bs D f m | none => [k] := rfl
  have hcons : ∃ r, R = pre ++ k :: r := by
    rw [he, hLF]
    cases meetN bs D k with
    | none => exact ⟨[], rfl⟩
    | some m => exact ⟨_, rfl⟩
  obtain ⟨r, hr⟩ := hcons
  refine ⟨by rw [hr]; simp, ?_, fun h0 => ?_, fun m hm => ?_⟩
  · rw [hr, List.take_append, List.take_of_length_le (Nat.le_succ _)]; simp
  · rw [he, hLF, h0]
  · have h2 := (meet_iff g).1 hm
    have hbm := (mem_behind g).1 h2.1
    refine ⟨⟨(exits_ends g).2 hbm.ends, ?_⟩, h2.2.2⟩
    rw [he, hLF, hm]
    have : (behindN bs D m).length = f := by have := h2.2.2; omega
    rw [this, List.append_assoc]; rfl
set_option maxRecDepth 100000 in
set_option maxHeartbeats 4000000 in
theorem steps_seq (bs : List BlkN) (D : Nat) (g : Graph bs D) (hl : bs.length ≤ 200) (n : Int) (b1 b2 gb lo : Nat) (W0 W : World) (h : MeetAt lo W0 gb bs) (ho : Old lo W0 W) (hsz0 : W0.heap.size ≤ W.heap.size) (hc1 : W.cell? ⟨b1, 0, none⟩ = some (.pointer (some ⟨gb, 0, none⟩))) (hc2 : W.cell? ⟨b2, 0, none⟩ = some (.int .i64 n)) :
    SeqP Tryz.prog 95 #[.pointer (some ⟨b1, 0, none⟩), .pointer (some ⟨b2, 0, none⟩)] (fun x : Nat => #[.int .i64 x]) (fun k => WkRd lo W0 k ∨ k = b1) (fun xs => xs = lineZ bs D n) (fun pre => ∃ k, k ≤ (lineZ bs D n).length ∧ pre = (lineZ bs D n).take k) (lineZ bs D n).length false W := by
  intro l0 J Jx hJ hJx hY h0 _
  have hR0 : Hid ((exitsZ bs D n (-1) = true → ∃ k : Nat, n = k ∧ LinI bs D (lineZ bs D n) k []) ∧ (exitsZ bs D n (-1) = false → lineZ bs D n = [])) := Lib.hid ⟨fun hX => by
    obtain ⟨k, rfl⟩ : ∃ k : Nat, n = k := by
      by_cases h0 : n < 0
      · rw [exitsZ_neg h0] at hX; cases hX
      · exact ⟨n.toNat, by omega⟩
    refine ⟨k, rfl, ?_, ?_⟩
    · rw [← exitsZ_nat]; exact hX
    · rw [lineZ_nat]
      unfold lineN
      rw [exitsZ_nat] at hX
      rw [hX]; rfl, lineZ_none⟩
  obtain ⟨R, hRe⟩ : ∃ R, lineZ bs D n = R := ⟨_, rfl⟩
  rw [hRe] at hY hR0 ⊢
  clear hRe
  have hold := Lib.hid ho
  have hme := h.old ho
  obtain ⟨bh, F, hG⟩ := id hme
  have hcg := hG.c1
  obtain ⟨v, K, hlk, hSN, hlen⟩ := hG.ownW g n
  have hx := exits_len g n hlen
  replace hx := Lib.hid hx
  replace hSN := Lib.hid hSN
  have h' := Lib.hid h
  clear hme hG hlen h ho
  replace hJ := Lib.hid hJ
  replace hJx := Lib.hid hJx
  replace hY := Lib.hid hY
  replace h0 := Lib.hid h0
  refine callsIn_of_wp Tryz.func95 rfl trivial ?_ rfl
  simp only [Tryz.ntmps95, List.size_toArray, List.length_cons, List.length_nil, Nat.reduceAdd, Nat.reduceSub, Array.replicate_succ, Array.replicate_zero, List.push_toArray, List.append_toArray, List.nil_append, List.cons_append]
  refine wpIn_wide.2 ?_
  go_wp2
  refine' wp_region_growL 8 [fixd _, fixd _, fixd _, fixd _, fixd _, fixd _, fixd _, fixd _] (by kernel_rfl) (by kernel_rfl) ?_
  rotate_left 8
  simp only [List.take_succ_cons, List.take_zero, List.drop_succ_cons, List.drop_zero]
  try simp only [Act.put, List.setIfInBounds_toArray, List.set_cons_succ, List.set_cons_zero, List.nil_append, List.cons_append]
  refine' wpGrowV_fix _ rfl rfl (fun W hb _ => by have c := cbel hb hc1; go_simp; first | exact xrefl W | exact ⟨rfl, xrefl W⟩) ?_
  try simp only [Act.put, List.setIfInBounds_toArray, List.set_cons_succ, List.set_cons_zero, List.nil_append, List.cons_append]
  refine' wpGrowV_fix _ rfl rfl (fun W hb _ => by go_simp; first | exact xrefl W | exact ⟨rfl, xrefl W⟩) ?_
  try simp only [Act.put, List.setIfInBounds_toArray, List.set_cons_succ, List.set_cons_zero, List.nil_append, List.cons_append]
  refine' wpGrowV_fix _ rfl rfl (fun W hb _ => by go_simp; first | exact xrefl W | exact ⟨rfl, xrefl W⟩) ?_
  try simp only [Act.put, List.setIfInBounds_toArray, List.set_cons_succ, List.set_cons_zero, List.nil_append, List.cons_append]
  refine' wpGrowV_fix _ rfl rfl (fun W hb _ => by have c := cbel hb hcg; go_simp; first | exact xrefl W | exact ⟨rfl, xrefl W⟩) ?_
  try simp only [Act.put, List.setIfInBounds_toArray, List.set_cons_succ, List.set_cons_zero, List.nil_append, List.cons_append]
  refine' wpGrowV_fix _ rfl rfl (fun W hb _ => by have c := cbel hb hc2; go_simp; first | exact xrefl W | exact ⟨rfl, xrefl W⟩) ?_
  try simp only [Act.put, List.setIfInBounds_toArray, List.set_cons_succ, List.set_cons_zero, List.nil_append, List.cons_append]
  refine' wpGrowV_fix (.map v) rfl rfl (fun W hb _ => by have c := hlk W hb; go_simp; first | exact xrefl W | exact ⟨rfl, xrefl W⟩) ?_
  try simp only [Act.put, List.setIfInBounds_toArray, List.set_cons_succ, List.set_cons_zero, List.nil_append, List.cons_append]
  refine' wpGrowV_fix (.int .i64 K.length) rfl rfl (fun W hb _ => by have c := (hSN.out.below hb).len; go_simp; first | exact xrefl W | exact ⟨rfl, xrefl W⟩) ?_
  try simp only [Act.put, List.setIfInBounds_toArray, List.set_cons_succ, List.set_cons_zero, List.nil_append, List.cons_append]
  refine' wpGrowV_fix _ rfl rfl (fun W hb _ => by go_simp; first | exact xrefl W | exact ⟨rfl, xrefl W⟩) ?_
  try simp only [Act.put, List.setIfInBounds_toArray, List.set_cons_succ, List.set_cons_zero, List.nil_append, List.cons_append]
  refine wpGrowV_nil fun W5 hb5 _ => ?_
  have hO5 := Lib.hid (hold.out.below hsz0 hb5)
  have hJ5 : Hid (J (fun _ => False) [] W5) := Lib.hid (hJ.out (fun _ => False) _ [] W W5 h0.out (fun k h => h.elim) (Below.only hb5) (fun k h => h.elim))
  have hc2' := cbel hb5 hc2
  have hc1' := Lib.hid (cbel hb5 hc1)
  have hsz5 := Nat.le_trans hsz0 hb5.size
  clear hb5 hc1 hcg hlk hSN hold h0 hc2
  go_wp2
  rw [hx.out]
  have hmt := Lib.hid fun (k : Nat) W1 (ho : Old lo W0 W1) => meet_any bs D g gb k W1 (h'.out.old ho) hl
  refine (wpIn_wide (n := 0)).1 ?_
  gi_loopw [4, 5] (fun iv kv wx => ∃ (is : Bool) (m : Int) (pre : List Nat), iv = .bool is ∧ kv = .int .i64 m ∧ Hid (is = true → ∃ k : Nat, m = k ∧ LinI bs D R k pre) ∧ Hid (is = false → R = pre) ∧ W0.heap.size ≤ wx.heap.size ∧ Hid (Old lo W0 wx) ∧ Hid (wx.cell? ⟨b1, 0, none⟩ = some (.pointer (some ⟨gb, 0, none⟩))) ∧ Hid (J (fun _ => False) pre wx)) (fun iv kv _ => if isT iv = true then (behindN bs D (intOf kv).toNat).length + 1 else 0)
  case atStart => exact ⟨_, n, [], rfl, rfl, Lib.hid hR0.out.1, Lib.hid hR0.out.2, hsz5, hO5, hc1', hJ5⟩
  case round =>
    clear hO5 hJ5 hsz5 hc1'
    obtain ⟨is, m, pre, rfl, rfl, hyes, hno, hsz, hO, hcb, hJs⟩ := hrel
    have cg1 := hcb.out
    cases is with
    | false =>
      have hRp := hno.out rfl
      replace hRp := Lib.hid hRp
      clear hyes hno
      gi_wp2
      repeat (refine ⟨fun f h => (by cases h), ?_⟩; gi_wp2)
      go_end0
      exact ⟨⟨_, rfl⟩, .inl ⟨_, _, hRp.out.symm, fun k h => h.elim, hJs.out⟩⟩
    | true =>
      obtain ⟨k, rfl, hL⟩ := hyes.out rfl
      obtain ⟨n1, n2, n3, n4⟩ := hL.now g
      obtain ⟨fnc, tmps, assign, body, hy, hR⟩ := hY.out (fun _ => False) pre k wr (fun k h => h.elim) hJs.out n1 ⟨pre.length + 1, n1, n2⟩
      replace hR := Lib.hid hR
      replace n1 := Lib.hid n1
      replace n2 := Lib.hid n2
      replace n3 := Lib.hid n3
      replace n4 := Lib.hid n4
      clear hyes hno hL
      gi_wp2
      refine ⟨rfl, hR.out.mono ?_⟩
      rintro e W3 (⟨rfl, hJ3, hk3⟩ | ⟨rfl, hJx3, hk3⟩)
      · have hO3 : Old lo W0 W3 := fun k hr => (hk3.same k (by have := hr.2; omega) (.inr (.inl hr))).trans (hO.out k hr)
        have cg3 : W3.cell? ⟨b1, 0, none⟩ = some (.pointer (some ⟨gb, 0, none⟩)) := (World.cell?_of_block (hk3.same b1 (cell_lt cg1) (.inr (.inr rfl)))).trans cg1
        have hm3 := Lib.hid (hmt.out k W3 hO3)
        have hsz3 := Nat.le_trans hsz hk3.size
        replace hO3 := Lib.hid hO3
        replace hJ3 := Lib.hid hJ3
        rw [meetZ_nat] at hm3
        clear hk3 hJs hO cg1 hcb
        gi_wp2
        refine ⟨trivial, rfl, (callsIn_wide.2 hm3.out).mono ?_⟩
        rintro e W4 ⟨rfl, hb4⟩
        have hJ4 := Lib.hid (hJ.out (fun _ => False) (fun _ => False) _ W3 W4 hJ3.out (fun k h => h.elim) (Below.only hb4) (fun k h => h.elim))
        have hO4 := Lib.hid (hO3.out.below hsz3 hb4)
        have hsz4 := Nat.le_trans hsz3 hb4.size
        have hcb4 := Lib.hid (cbel hb4 cg3)
        unfold atV
        cases hmm : meetN bs D k with
        | none =>
          have hRp := Lib.hid (n3.out hmm)
          clear hb4 hmm hm3 n4
          gi_wp2
          exact ⟨⟨false, _, pre ++ [k], rfl, rfl, Lib.hid (fun h => by cases h), Lib.hid (fun _ => hRp.out), hsz4, hO4, hcb4, hJ4⟩, by simp [isT]⟩
        | some m =>
          obtain ⟨hL2, hlt⟩ := n4.out m hmm
          clear hb4 hmm hm3 n4
          gi_wp2
          exact ⟨⟨true, _, pre ++ [k], rfl, rfl, Lib.hid (fun _ => ⟨m, rfl, hL2⟩), Lib.hid (fun h => by cases h), hsz4, hO4, hcb4, hJ4⟩, by simp [isT, intOf]; omega⟩
      · gi_wp2
        go_end0
        exact ⟨⟨_, rfl⟩, .inr ⟨_, _, ⟨pre.length + 1, n1.out, n2.out⟩, fun k h => h.elim, hJx3⟩⟩
end Go.Proofs.YtijkdabmegbcjaaGreatDoor
