/- Texts of this claim, merged; no condition. -/
import Derived.Test.YtijkdabmegbcjaaGreatDoorQ35
import Derived.Test.YtijkdabmegbcjaaGreatDoorQ26
import Derived.Test.YtijkdabmegbcjaaGreatDoorQ34
set_option linter.all false
namespace Go.Proofs.YtijkdabmegbcjaaGreatDoor
open Go.RowKit Go.Shelf
section
attribute [local go_sem] Oper.semAt_some
theorem nodup_of_map {α β : Type} {f : α → β} : ∀ {l : List α}, (l.map f).Nodup → l.Nodup
  | [], _ => List.nodup_nil
  | x :: l, h => by
    rw [List.map_cons, List.nodup_cons] at h
    exact List.nodup_cons.2 ⟨fun hx => h.1 (List.mem_map.2 ⟨x, hx, rfl⟩), nodup_of_map h.2⟩
set_option maxRecDepth 100000 in
set_option maxHeartbeats 1000000 in
theorem setkeys_seq (K : List Nat) (bx bm : Nat) (W : World) (hx : W.cell? ⟨bx, 0, none⟩ = some (.map (some bm))) (hS : SetAt W bm K) :
    SeqP Tryz.prog 94 #[.pointer (some ⟨bx, 0, none⟩)] (fun x : Int => #[.int .i64 x]) (fun k => k = bm) (fun xs => xs.Perm (natI K)) (fun pre => pre.length ≤ K.length) K.length false W := by
  obtain ⟨E, clk, hm, hE⟩ := hS
  replace hE := Lib.hid hE
  intro l0 J Jx hJ hJx hY h0 _
  replace hJ := Lib.hid hJ
  replace hJx := Lib.hid hJx
  replace hY := Lib.hid hY
  have hrg := range_Q (P := Tryz.prog) (t := 95) Tryz.underlying95 hm
  have hml : bm < W.heap.size := (Array.getElem?_eq_some_iff.1 hm).1
  replace hm := Lib.hid hm
  replace h0 := Lib.hid h0
  refine callsIn_of_wp Tryz.func94 rfl trivial ?_ rfl
  simp only [Tryz.ntmps94, List.size_toArray, List.length_cons, List.length_nil, Nat.reduceAdd, Nat.reduceSub, Array.replicate_succ, Array.replicate_zero, List.push_toArray, List.append_toArray, List.nil_append, List.cons_append]
  gi_wp2
  obtain ⟨it, hit⟩ : ∃ it, it = W.heap.size := ⟨_, rfl⟩
  have hb1 : Below W.heap.size W (W.alloc (itQ bm clk [])) := xalloc (xrefl W) _
  have hi1 : (W.alloc (itQ bm clk [])).heap[it]? = some (itQ bm clk []) := by rw [hit]; exact World.alloc_heap_new W _
  have hm1 : (W.alloc (itQ bm clk [])).heap[bm]? = some (mapQ .i64 E clk) := (hb1.block bm hml).trans hm.out
  have hJ1 : J (fun k => k = it) [] (W.alloc (itQ bm clk [])) := hJ.out _ _ _ W _ h0.out (fun k h => h.elim) (Below.only hb1) (fun k e => .inr (by omega))
  have hle := hb1.size
  rw [← hit]
  generalize W.alloc (itQ bm clk []) = W1 at hi1 hm1 hJ1 hle ⊢
  replace hi1 := Lib.hid hi1
  replace hm1 := Lib.hid hm1
  replace hJ1 := Lib.hid hJ1
  clear hb1 hrg
  have hbi : ¬ bm = it := by omega
  replace hit := Lib.hid hit
  gi_loopw [3] (fun _ wr => ∃ es : List (Int × Value × Nat), Hid ((es.map (·.2.2)).Nodup ∧ ∀ e ∈ es, e ∈ E) ∧ Hid (wr.heap[it]? = some (itQ bm clk (es.map (·.2.2)))) ∧ Hid (wr.heap[bm]? = some (mapQ .i64 E clk)) ∧ Hid (J (fun k => k = it) (es.map (·.1)) wr)) (fun _ wr => E.length - seenQ wr it)
  case atStart => exact ⟨[], Lib.hid ⟨List.nodup_nil, fun j h => by cases h⟩, hi1, hm1, hJ1⟩
  case round =>
    clear hi1 hm1 hJ1
    obtain ⟨es, hs, hi, hm1, hJs⟩ := hrel
    have hsub : ∀ s ∈ es.map (·.2.2), ∃ e ∈ E, e.2.2 = s := fun s h => by
      obtain ⟨e, he, rfl⟩ := List.mem_map.1 h
      exact ⟨e, hs.out.2 e he, rfl⟩
    rcases next_Q (P := Tryz.prog) 0 hi.out hm1.out (fun e he => hE.out.lt e he) with ⟨hall, hrun⟩ | ⟨e, he, hns, W2, hrun, hon, hi2⟩
    · have hrun' : ∀ ty, (Instr.next (.pointer (some ⟨it, 0, none⟩)) false ty).run Tryz.prog wr = _ := fun ty => hrun
      clear hrun
      have hp : es.Perm E := (List.perm_ext_iff_of_nodup (nodup_of_map hs.out.1) (nodup_of_map hE.out.sn)).2 fun x => ⟨hs.out.2 x, fun hx => by
        obtain ⟨y, hy, h2⟩ := List.mem_map.1 (hall x hx)
        have := nodup_inj hE.out.sn (hs.out.2 y hy) hx h2
        rw [← this]; exact hy⟩
      replace hall := Lib.hid hall
      replace hp := Lib.hid hp
      clear hsub
      gi_wp2
      go_end0
      refine ⟨⟨_, rfl⟩, .inl ⟨_, _, ?_, fun k e => by have := hit.out; omega, hJs.out⟩⟩
      rw [← hE.out.key]
      exact hp.out.map _
    · have hrun' : ∀ ty, (Instr.next (.pointer (some ⟨it, 0, none⟩)) false ty).run Tryz.prog wr = _ := fun ty => hrun
      have hm2 : W2.heap[bm]? = some (mapQ .i64 E clk) := (hon.same bm (Array.getElem?_eq_some_iff.1 hm1.out).1 hbi).trans hm1.out
      have hen := entry_Q (P := Tryz.prog) he hE.out.sn hi2 hm2
      have hJ2 : J (fun k => k = it) (es.map (·.1)) W2 := hJ.out _ _ _ wr W2 hJs.out (fun k e => by have := hit.out; omega) hon (fun k e => .inl e)
      have hlt := stamps_lt hs.out.1 hsub he hns
      have hKl := hE.out.len
      have hlen : (es.map (·.1)).length < K.length := by rw [List.length_map] at hlt ⊢; omega
      have hsn : Hid (((es ++ [e]).map (·.2.2)).Nodup ∧ ∀ x ∈ es ++ [e], x ∈ E) := Lib.hid ⟨by rw [List.map_append, List.nodup_append]; exact ⟨hs.out.1, by simp, fun a ha b hb h => hns (by simp at hb; subst hb; rw [← h]; exact ha)⟩, fun x hx => by
        rcases List.mem_append.1 hx with h | h
        · exact hs.out.2 x h
        · rw [List.mem_singleton] at h; rw [h]; exact he⟩
      have hst : es.map (·.2.2) ++ [e.2.2] = (es ++ [e]).map (·.2.2) := by simp
      have hsnoc : (es ++ [e]).map (·.1) = es.map (·.1) ++ [e.1] := by simp
      rw [hst] at hi2
      have h2l : it < W2.heap.size := (Array.getElem?_eq_some_iff.1 hi2).1
      obtain ⟨fnc, tmps, assign, body, hy, hR⟩ := hY.out (fun k => k = it) (es.map (·.1)) e.1 W2 (fun k e => by have := hit.out; omega) hJ2 hlen (by rw [List.length_append, List.length_singleton]; omega)
      have hsl : seenQ wr it = (es.map (·.2.2)).length := seenQ_eq hi.out
      rw [← hsnoc] at hR
      have hev := hE.out.val e he
      clear hrun hJ2 hsnoc hsub hst he
      obtain ⟨en, hene⟩ : ∃ en, es ++ [e] = en := ⟨_, rfl⟩
      have henl : Hid (en.length = es.length + 1) := Lib.hid (by rw [← hene]; simp)
      rw [hene] at hi2 hsn hR
      clear hene
      rw [hev] at hrun' hen
      generalize e.1 = key at *
      generalize e.2.2 = st at *
      replace hi2 := Lib.hid hi2
      replace hm2 := Lib.hid hm2
      replace hns := Lib.hid hns
      replace hR := Lib.hid hR
      replace hsl := Lib.hid hsl
      replace hlt := Lib.hid hlt
      replace hlen := Lib.hid hlen
      replace hev := Lib.hid hev
      clear hon hJs hs hi
      gi_wp2
      refine ⟨rfl, hR.out.mono ?_⟩
      rintro e W3 (⟨rfl, hJ3, hk3⟩ | ⟨rfl, hJx3, hk3⟩)
      · have hi3 := Lib.hid ((hk3.same it (Array.getElem?_eq_some_iff.1 hi2.out).1 (.inl rfl)).trans hi2.out)
        have hm3 := Lib.hid ((hk3.same bm (Array.getElem?_eq_some_iff.1 hm2.out).1 (.inr rfl)).trans hm2.out)
        replace hJ3 := Lib.hid hJ3
        have hlt3 : E.length - seenQ W3 it < E.length - seenQ wr it := by
          have := hlt.out
          rw [hsl.out, seenQ_eq hi3.out, List.length_map, henl.out]; simp at this ⊢; omega
        replace hlt3 := Lib.hid hlt3
        clear hk3
        gi_wp2
        exact ⟨⟨en, hsn, hi3, hm3, hJ3⟩, hlt3.out⟩
      · gi_wp2
        refine bodyPost_ret (results_none rfl _ _ _) rfl ?_
        exact ⟨⟨_, rfl⟩, .inr ⟨_, _, by rw [List.length_map, henl.out]; have := hlen.out; simp at this; omega, fun k e => by have := hit.out; omega, hJx3⟩⟩
set_option maxRecDepth 100000 in
set_option maxHeartbeats 1000000 in
theorem nilkeys_seq (bx : Nat) (W : World) (hx : W.cell? ⟨bx, 0, none⟩ = some (.map none)) :
    SeqP Tryz.prog 94 #[.pointer (some ⟨bx, 0, none⟩)] (fun x : Int => #[.int .i64 x]) (fun _ => False) (fun xs => xs.Perm (natI [])) (fun pre => pre.length ≤ 0) 0 false W := by
  intro l0 J Jx hJ hJx hY h0 _
  replace hJ := Lib.hid hJ
  replace hJx := Lib.hid hJx
  replace hY := Lib.hid hY
  have hrg := run_range_nilMap (P := Tryz.prog) W 95 3 4 Tryz.underlying95
  have hnx : ∀ ty, (Instr.next (.pointer (some ⟨W.heap.size, 0, none⟩)) false ty).run Tryz.prog (W.alloc (.mapIter none 0 #[] 0)) = _ := fun ty => run_next_nilMap W ty 0 0 #[]
  have hb1 : Below W.heap.size W (W.alloc (.mapIter none 0 #[] 0)) := xalloc (xrefl W) _
  have hJ1 : J (fun k => k = W.heap.size) [] (W.alloc (.mapIter none 0 #[] 0)) := hJ.out _ _ _ W _ h0 (fun k h => h.elim) (Below.only hb1) (fun k e => .inr (by omega))
  replace hJ1 := Lib.hid hJ1
  replace h0 := Lib.hid h0
  clear hb1
  refine callsIn_of_wp Tryz.func94 rfl trivial ?_ rfl
  simp only [Tryz.ntmps94, List.size_toArray, List.length_cons, List.length_nil, Nat.reduceAdd, Nat.reduceSub, Array.replicate_succ, Array.replicate_zero, List.push_toArray, List.append_toArray, List.nil_append, List.cons_append]
  gi_wp2
  refine wpIn_loop_rounds 1 ?_
  rw [roundsIn_succ]
  gi_wp2
  go_end0
  exact ⟨⟨_, rfl⟩, .inl ⟨_, _, List.Perm.refl _, fun k e => (by omega : _), hJ1.out⟩⟩
/-- A set that may be nil. -/
def SetN (w : World) (v : Option Nat) (K : List Nat) : Prop := (v = none ∧ K = []) ∨ ∃ b, v = some b ∧ SetAt w b K
theorem SetN.below {w w' : World} {v : Option Nat} {K : List Nat} (h : SetN w v K) (hb : Below w.heap.size w w') : SetN w' v K := h.elim .inl fun ⟨b, e, h⟩ => .inr ⟨b, e, h.below hb⟩
set_option maxRecDepth 100000 in
theorem SetN.len {w : World} {v : Option Nat} {K : List Nat} (h : SetN w v K) : (Builtin.len_ #[95] 3 #[.map v]).run Tryz.prog w = .ok (.int .i64 K.length) w := by
  rcases h with ⟨rfl, rfl⟩ | ⟨b, rfl, h⟩
  · rfl
  · exact h.len (k := 3) (e := 4) Tryz.underlying95 3
set_option maxRecDepth 100000 in
theorem keysN_any (v : Option Nat) (w : World) : Calls Tryz.prog 61 #[.map v] w fun e w' => e = .returned (.func (.func 94) #[] #[.pointer (some ⟨w.heap.size, 0, none⟩)]) ∧ w.alloc (.cells #[.map v] 95) = w' := by
  go_enter Tryz.func61, Tryz.ntmps61
  go_wp2
  go_ret
  exact ⟨rfl, rfl⟩
set_option maxRecDepth 100000 in
theorem seqN {v : Option Nat} {K : List Nat} {w : World} (h : SetN w v K) (hl : K.length ≤ 1000) : SeqIn 94 #[.pointer (some ⟨w.heap.size, 0, none⟩)] (fun k => v = some k) (fun xs => xs.Perm (natI K)) (fun pre => pre.length ≤ K.length) K.length (w.alloc (.cells #[.map v] 95)) := by
  have hb : Below w.heap.size w (w.alloc (.cells #[.map v] 95)) := xalloc (xrefl w) _
  have hen := enters_of Tryz.func94 (by kernel_rfl) rfl
  have hx := (Box.new w (.map v) 95).cell
  rcases h with ⟨rfl, rfl⟩ | ⟨b, rfl, h⟩
  · exact ⟨hen, fun W hW => by have := nilkeys_seq w.heap.size W (cbel hW hx); simpa using this, fun k hk => (by cases hk), by simp⟩
  · exact ⟨hen, fun W hW => by have := setkeys_seq K w.heap.size b W (cbel hW hx) ((h.below hb).below hW); simpa [eq_comm] using this, fun k hk => (by cases hk; have := h.lt; rw [World.size_alloc]; omega), by omega⟩
set_option maxRecDepth 100000 in
theorem BehG.own {lo : Nat} {w : World} {gb : Nat} {bs : List BlkN} {hb : Nat} {F : Nat → Option (List Nat)} {D : Nat} (g : Graph bs D) (h : BehG lo w gb bs hb F) (n : Int) : ∃ v K, (Instr.lookup 97 (.map (some hb)) (.int .i64 n) false).run Tryz.prog w = .ok (.map v) w ∧ SetN w v K ∧ K.Nodup ∧ K.length = (behindZ bs D n).length ∧ ∀ x, x ∈ K ↔ x ∈ behindZ bs D n := by
  have hzm : ∀ w, (zeroValue 95).run Tryz.prog w = .ok (.map none) w := fun _ => rfl
  by_cases h0 : n < 0
  · exact ⟨none, [], h.beh.lookN Tryz.underlying97 Tryz.underlying3 hzm n h0, .inl ⟨rfl, rfl⟩, List.nodup_nil, by rw [behindZ_neg h0], fun x => by rw [behindZ_neg h0]⟩
  · obtain ⟨k, rfl⟩ := Int.eq_ofNat_of_zero_le (Int.not_lt.1 h0)
    have hz : behindZ bs D (k : Int) = behindN bs D k := behindZ_nat bs D k
    cases e : F k with
    | none => exact ⟨none, [], h.beh.look0 Tryz.underlying97 Tryz.underlying3 hzm k e, .inl ⟨rfl, rfl⟩, List.nodup_nil, by rw [hz, h.no g e], fun x => by rw [hz, h.no g e]⟩
    | some K =>
      obtain ⟨b, h1, -, h2⟩ := h.beh.look (P := Tryz.prog) (t := 97) (k := 3) (e := 95) Tryz.underlying97 Tryz.underlying3 hzm k e
      exact ⟨some b, K, h1, .inr ⟨b, rfl, h2⟩, (h.ins k K e).1, by rw [hz]; exact h.len g e, fun x => by rw [hz]; exact h.mem g e x⟩
theorem sl_set {K L : List Nat} (hL : SL L) (h : ∀ x, x ∈ K ↔ x ∈ L) : setL K = L := by
  have h2 : (natI (setL K)) = natI L := int_ext (natI_sl (setL_sl K)) (natI_sl hL) fun z => by
    rw [mem_natI, mem_natI]
    constructor
    · rintro ⟨n, hn, e⟩; exact ⟨n, (h n).1 ((mem_setL _ _).1 hn), e⟩
    · rintro ⟨n, hn, e⟩; exact ⟨n, (mem_setL _ _).2 ((h n).2 hn), e⟩
  unfold natI at h2
  have h3 := congrArg (List.map Int.toNat) h2
  rw [List.map_map, List.map_map, show (Int.toNat ∘ fun n : Nat => (n : Int)) = id from by funext x; simp, List.map_id, List.map_id] at h3
  exact h3
end
set_option maxRecDepth 100000 in
set_option maxHeartbeats 4000000 in
theorem behindM_any (cs : List Nat) (n : Int) (a : Option Addr) (c : Nat) (w : World) (h : CodeAt w a c cs) (hl : cs.length ≤ 100) :
    Calls Tryz.prog 30 #[.slice a cs.length c, .int .i64 n] w fun e w' => (∃ v, e = .returned v ∧ OwnI w w' v (behindZ (blksN cs) cs.length n)) ∧ Below w.heap.size w w' := by
  have g := graph_code cs
  have hof := Lib.hid (ofGraph_any cs a c w h hl)
  have hbl := blksN_len cs
  have hzm : ∀ w, (zeroValue 95).run Tryz.prog w = .ok (.map none) w := fun _ => rfl
  clear h
  go_enter Tryz.func30, Tryz.ntmps30
  go_wp2_with (first
    | (go_at_call 56; refine hof.out.mono ?_; rintro e w1 ⟨⟨gb, rfl, -, bh, F, hG⟩, hb1⟩; have c1 := hG.c1; obtain ⟨v, K, hlk, hSN, hnd, hlen, hmem⟩ := hG.own g n; have hkl : K.length ≤ 1000 := (by rw [hlen]; exact Nat.le_trans (behindZ_len n) (by omega)); have hseq := seqN hSN hkl; have hko := keysN_any v w1; have hso := insorted_any _ hseq (fun pre h => h) (fun xs h => by have := h.length_eq; rw [natI_len] at this; omega); replace hso := Lib.hid hso; replace hko := Lib.hid hko; replace hG := Lib.hid hG; replace hb1 := Lib.hid hb1; replace hmem := Lib.hid hmem; clear hseq hSN)
    | (go_at_call 61; refine hko.out.mono ?_; rintro e w' ⟨rfl, rfl⟩)
    | (go_at_call 60; refine hso.out.mono ?_; rintro e w2 ⟨v2, xs, rfl, hS, hown, hb2⟩; replace hS := Lib.hid hS; replace hown := Lib.hid hown; replace hb2 := Lib.hid hb2))
  go_ret
  have hp := hS.out
  have ho := hown.out
  have hsl : SL (behindZ (blksN cs) cs.length n) := by
    by_cases h0 : n < 0
    · rw [behindZ_neg h0]; exact List.Pairwise.nil
    · obtain ⟨k, rfl⟩ := Int.eq_ofNat_of_zero_le (Int.not_lt.1 h0)
      have hz : behindZ (blksN cs) cs.length (k : Int) = behindN (blksN cs) cs.length k := behindZ_nat _ _ k
      rw [hz]; exact behind_sl g k
  have hK : setL K = behindZ (blksN cs) cs.length n := sl_set hsl hmem.out
  have hxl : xs.length = (setL K).length := by have := hp.length_eq; rw [natI_len] at this; rw [hK]; omega
  rw [sort_nat hp hnd, hxl, World.size_alloc, hK] at ho
  exact ⟨⟨_, rfl, own_base ho (by have := hb1.out.size; omega)⟩, xtrans (xtrans hb1.out (xalloc (xrefl _) _)) hb2.out⟩
set_option maxRecDepth 100000 in
set_option maxHeartbeats 4000000 in
theorem endsM_any (cs : List Nat) (n : Int) (a : Option Addr) (c : Nat) (w : World) (h : CodeAt w a c cs) (hl : cs.length ≤ 100) :
    Calls Tryz.prog 28 #[.slice a cs.length c, .int .i64 n] w fun e w' => e = .returned (.bool (exitsZ (blksN cs) cs.length n (-1))) ∧ Below w.heap.size w w' := by
  have g := graph_code cs
  have hof := Lib.hid (ofGraph_any cs a c w h hl)
  have hbl := blksN_len cs
  have hx : Hid (∀ m : Nat, m = (behindZ (blksN cs) cs.length n).length → decide (0 < m) = exitsZ (blksN cs) cs.length n (-1)) := Lib.hid fun m hm => by
    rw [hm]
    by_cases h0 : n < 0
    · rw [behindZ_neg h0, exitsZ_neg h0]; rfl
    · obtain ⟨k, rfl⟩ := Int.eq_ofNat_of_zero_le (Int.not_lt.1 h0)
      have hz : behindZ (blksN cs) cs.length (k : Int) = behindN (blksN cs) cs.length k := behindZ_nat _ _ k
      have hz2 : exitsZ (blksN cs) cs.length (k : Int) (-1) = exitsN (blksN cs) cs.length k (-1) := exitsZ_nat _ _ k _
      rw [hz, hz2, Bool.eq_iff_iff, decide_eq_true_eq, ← behind_ne g]
      have := List.length_pos_iff (l := behindN (blksN cs) cs.length k)
      rw [← this]
  clear h
  go_enter Tryz.func28, Tryz.ntmps28
  go_wp2_with (go_at_call 56; refine hof.out.mono ?_; rintro e w1 ⟨⟨gb, rfl, -, bh, F, hG⟩, hb1⟩; have c1 := hG.c1; obtain ⟨v, K, hlk, hSN, hnd, hlen, hmem⟩ := hG.own g n; have hle := hSN.len; replace hG := Lib.hid hG; replace hb1 := Lib.hid hb1; replace hlen := Lib.hid hlen; clear hSN hnd hmem)
  go_ret
  exact ⟨congrArg (fun b => Ending.returned (.bool b)) (hx.out K.length hlen.out), hb1.out⟩
set_option maxRecDepth 100000 in
set_option maxHeartbeats 4000000 in
theorem meetM_any (cs : List Nat) (n : Int) (a : Option Addr) (c : Nat) (w : World) (h : CodeAt w a c cs) (hl : cs.length ≤ 100) :
    Calls Tryz.prog 26 #[.slice a cs.length c, .int .i64 n] w fun e w' => e = .returned (atV (meetZ (blksN cs) cs.length n)) ∧ Below w.heap.size w w' := by
  have g := graph_code cs
  have hof := Lib.hid (ofGraph_any cs a c w h hl)
  have hbl := blksN_len cs
  clear h
  go_enter Tryz.func26, Tryz.ntmps26
  go_wp2_with (first
    | (go_at_call 56; refine hof.out.mono ?_; rintro e w1 ⟨⟨gb, rfl, hG⟩, hb1⟩; have hme := meet_any _ _ g gb n w1 hG.meet (by omega); replace hme := Lib.hid hme; replace hb1 := Lib.hid hb1)
    | (go_at_call 57; refine hme.out.mono ?_; rintro e w2 ⟨rfl, hb2⟩; unfold atV; replace hb2 := Lib.hid (xtrans hb1.out hb2)))
  go_ret2
  exact ⟨rfl, hb2.out⟩
end Go.Proofs.YtijkdabmegbcjaaGreatDoor
namespace Go.Proofs.YtijkdabmegbcjaaGreatDoor
open Go.RowKit

def lineZ (bs : List BlkN) (D : Nat) (n : Int) : List Nat := if 0 ≤ n then lineN bs D n.toNat else []
theorem lineZ_nat (bs : List BlkN) (D k : Nat) : lineZ bs D k = lineN bs D k := by unfold lineZ; rw [if_pos (by omega), Int.toNat_natCast]
theorem lineZ_none {bs : List BlkN} {D : Nat} {n : Int} (h : exitsZ bs D n (-1) = false) : lineZ bs D n = [] := by
  unfold lineZ
  split
  · rename_i hn
    obtain ⟨k, rfl⟩ := Int.eq_ofNat_of_zero_le hn
    rw [exitsZ_nat] at h
    rw [Int.toNat_natCast]
    unfold lineN
    rw [h]; rfl
  · rfl
theorem behind_pos {bs : List BlkN} {D : Nat} (g : Graph bs D) {k : Nat} (h : exitsN bs D k (-1) = true) : 0 < (behindN bs D k).length := List.length_pos_iff.2 ((behind_ne g).2 h)
set_option maxRecDepth 100000 in
set_option maxHeartbeats 2000000 in
theorem ref12Line_any (cs : List Nat) (n : Int) (a : Option Addr) (c : Nat) (w : World) (h : CodeAt w a c cs) (hl : cs.length ≤ 100) :
    Calls Tryz.prog 32 #[.slice a cs.length c, .int .i64 n] w fun e w' => (∃ v, e = .returned v ∧ OwnI w w' v (lineZ (blksN cs) cs.length n)) ∧ Below w.heap.size w w' := by
  obtain ⟨i0, hi0, hz0, hz1, hz2⟩ := info_parts info_int
  have g := graph_code cs
  have hb1 := Lib.hid (refBlocks_any cs a c w h)
  have hbl := blksN_len cs
  have hxe := Lib.hid fun p q W h => refExits_any (blksN cs) cs.length g n (-1) p q W h (by omega) hl
  have hm := Lib.hid fun p q W h (k : Nat) => refMeetB_any (blksN cs) cs.length g (k : Int) p q W h (by omega) hl
  generalize cs.length = D at *
  generalize blksN cs = bs at *
  clear h
  cases hX : exitsZ bs D n (-1) with
  | false =>
    rw [lineZ_none hX]
    rw [hX] at hxe
    have hO := OwnI.nil w
    clear hm hX
    go_enter Tryz.func32, Tryz.ntmps32
    go_wp2_with (first
      | (go_at_call 15; refine hb1.out.mono ?_; rintro e w1 ⟨⟨p, q, rfl, hP, -⟩, hw1⟩; replace hP := Lib.hid hP; replace hw1 := Lib.hid hw1)
      | (go_at_call 59; refine (hxe.out p q _ hP.out).mono ?_; rintro e w2 ⟨rfl, hw2⟩; replace hw2 := Lib.hid (xtrans hw1.out hw2)))
    go_ret
    exact ⟨⟨_, rfl, hO.below hw2.out⟩, hw2.out⟩
  | true =>
    obtain ⟨k, rfl⟩ : ∃ k : Nat, n = k := by
      by_cases h0 : n < 0
      · rw [exitsZ_neg h0] at hX; cases hX
      · exact ⟨n.toNat, by omega⟩
    have hXk := hX
    rw [exitsZ_nat] at hXk
    have hR : lineZ bs D k = lineF bs D (behindN bs D k).length k := by rw [lineZ_nat]; unfold lineN; rw [hXk]; rfl
    obtain ⟨R, hR2⟩ : ∃ R, R = lineF bs D (behindN bs D k).length k := ⟨_, rfl⟩
    rw [hR, ← hR2]
    rw [hX] at hxe
    have hbk := behind_len g k
    have hbp := behind_pos g hXk
    replace hR2 := Lib.hid hR2
    replace hXk := Lib.hid hXk
    clear hX hR
    go_enter Tryz.func32, Tryz.ntmps32
    go_wp2_with (first
      | (go_at_call 15; refine hb1.out.mono ?_; rintro e w1 ⟨⟨p, q, rfl, hP, -⟩, hw1⟩; replace hP := Lib.hid hP; replace hw1 := Lib.hid hw1)
      | (go_at_call 59; refine (hxe.out p q _ hP.out).mono ?_; rintro e ws ⟨rfl, hws⟩; have hPs := Lib.hid (hP.out.below hws); replace hws := Lib.hid (xtrans hw1.out hws)))
    have hO : Hid (OwnI ws (ws.alloc (.cells #[.int .i64 k] 3)) (.slice (some ⟨ws.heap.size, 0, none⟩) 1 1) [k]) := Lib.hid (own_one ws 3 [.int .i64 k] 1 rfl _ (Nat.le_refl _))
    have hb3 := Lib.hid (xalloc (xrefl ws) (.cells #[.int .i64 k] 3))
    go_loopw [1, 6] (fun fv ov wx => ∃ (kk f : Nat) (pre : List Nat), fv = .int .i64 kk ∧ f = (behindN bs D kk).length ∧ 0 < f ∧ pre.length + f ≤ bs.length ∧ Hid (exitsN bs D kk (-1) = true) ∧ Hid (R = pre ++ lineF bs D f kk) ∧ Hid (OwnI ws wx ov (pre ++ [kk])) ∧ Hid (Below ws.heap.size ws wx)) (fun fv _ _ => (behindN bs D (intOf fv).toNat).length)
    case atStart => exact ⟨k, _, [], rfl, rfl, hbp, by simpa using hbk, hXk, Lib.hid hR2.out, hO, hb3⟩
    case round =>
      clear hO hb3
      obtain ⟨kk, f, pre, rfl, hf, hf0, hpl, hE, hRR, hO, hb⟩ := hrel
      have hmt := hm.out p q wr (hPs.out.below hb.out) kk
      rw [meetZ_nat] at hmt
      have hmi := fun m => meet_iff g (k := kk) (m := m)
      have hends := exits_ends g (k := kk)
      obtain ⟨f, rfl⟩ : ∃ f', f = f' + 1 := ⟨f - 1, by omega⟩
      have hLF : lineF bs D (f + 1) kk = match meetN bs D kk with | some m => kk :: lineF bs D f m | none => [kk] := rfl
      unfold atV at hmt
      cases hmm : meetN bs D kk with
      | none =>
        rw [hmm] at hmt hLF
        have hfin : pre ++ [kk] = R := by rw [hRR.out, hLF]
        rw [hfin] at hO
        replace hmt := Lib.hid hmt
        clear hmi hLF hends hfin hmm
        go_wp2_with (go_at_call 58; refine hmt.out.mono ?_; rintro e w2 ⟨rfl, hw2⟩; replace hw2 := Lib.hid hw2)
        go_ret
        exact ⟨⟨_, rfl, OwnI.base (hO.out.below hw2.out) hws.out.size⟩, xtrans hws.out (xtrans hb.out hw2.out)⟩
      | some m =>
        obtain ⟨m1, m2, m3⟩ := (hmi m).1 hmm
        have hB := (mem_behind g).1 m1
        have hEm : Hid (exitsN bs D m (-1) = true) := Lib.hid ((exits_ends g).2 hB.ends)
        have hpm := behind_pos g hEm.out
        rw [hmm] at hmt hLF
        have hR3 : Hid (R = (pre ++ [kk]) ++ lineF bs D f m) := Lib.hid (by rw [hRR.out, hLF]; simp)
        have hfm : f = (behindN bs D m).length := by omega
        have hmeas : (behindN bs D m).length < (behindN bs D kk).length := by omega
        replace hmt := Lib.hid hmt
        replace hmeas := Lib.hid hmeas
        replace hfm := Lib.hid hfm
        have hpre : (pre ++ [kk]).length ≤ 100 := by rw [List.length_append, List.length_singleton]; omega
        have hprl : (pre ++ [kk]).length = pre.length + 1 := by simp
        have hplm : (pre ++ [kk]).length + f ≤ bs.length := by omega
        have hf0m : 0 < f := by rw [hfm.out]; exact hpm
        clear hmi hLF hends hmm m1 m2 m3 hf hprl hpm hRR hpl
        generalize pre ++ [kk] = P at *
        go_wp2_with (first
          | (go_at_call 58; refine hmt.out.mono ?_; rintro e w2 ⟨rfl, hw2⟩; have hO2 := Lib.hid (hO.out.below hw2); replace hw2 := Lib.hid (xtrans hb.out hw2); have hsb := (xalloc hw2.out (.cells #[.int .i64 (m : Int)] 3)).size)
          | (at_builtin; refine wpList_append_row (w2.alloc (.cells #[.int .i64 (m : Int)] 3)) rfl _ _ 42 rfl ws.heap.size 3 i0 (.int .i64 0) 8 Tryz.underlying42 hi0 hz0 hz1 hz2 rfl _ P.length _ rfl (hO2.out.alloc _) (some ⟨w2.heap.size, 0, none⟩) 1 .i64 [(m : Int)] rfl (by simp) (rowAt_one w2 3 (m : Int)) (by unfold maxLen; simp; omega) (by simp; omega) hsb ?_; intro v3 w3 ho3 hg3; have hb3 := (xalloc hw2.out _).grown hg3 hsb (fun j hj => (hO2.out.lt j hj).1); replace hb3 := Lib.hid hb3; replace ho3 := Lib.hid ho3; clear hg3))
        exact ⟨⟨m, f, P, rfl, hfm.out, hf0m, hplm, hEm, hR3, Lib.hid (OwnI.snoc ho3.out), hb3⟩, hmeas.out⟩
end Go.Proofs.YtijkdabmegbcjaaGreatDoor
