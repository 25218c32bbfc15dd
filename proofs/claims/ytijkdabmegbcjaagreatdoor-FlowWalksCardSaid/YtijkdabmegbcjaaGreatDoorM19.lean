/- The document's flow: to which blocks one may come. -/
import Derived.Test.YtijkdabmegbcjaaGreatDoorM18
set_option linter.unusedVariables false
set_option linter.unusedSimpArgs false
namespace Go.Proofs.YtijkdabmegbcjaaGreatDoor
open Go.RowKit

def stepC (x : Nat × Nat) : List Value := [.int .i64 x.1, .int .i64 x.2]
/-- Steps, as a slice. -/
structure StepsAt (w : World) (a : Option Addr) (c : Nat) (l : List (Nat × Nat)) : Prop where
  elt : ∀ i (h : i < l.length), ∃ b o, a = some ⟨b, o, none⟩ ∧ w.rangeAt b (o + i * 2) (stepC l[i])
  nil : a = none → c = 0
theorem StepsAt.below {w w' : World} {a : Option Addr} {c : Nat} {l : List (Nat × Nat)} (h : StepsAt w a c l) (hb : Below w.heap.size w w') : StepsAt w' a c l := ⟨fun i hi => by
  obtain ⟨b, o, e, h1⟩ := h.elt i hi
  exact ⟨b, o, e, rangeAt_below h1 hb⟩, h.nil⟩
def OwnS (w w' : World) (v : Value) (l : List (Nat × Nat)) : Prop := w'.ownsRow w.heap.size 45 2 v l.length (l.flatMap stepC)
theorem OwnS.at {w w' : World} {v : Value} {l : List (Nat × Nat)} (h : OwnS w w' v l) : ∃ a c, v = .slice a l.length c ∧ StepsAt w' a c l ∧ ∀ x, a = some x → w.heap.size ≤ x.block := by
  obtain ⟨a, c, rfl, hr, hn, hx, hl, h0⟩ := rowV_own h
  refine ⟨a, c, rfl, ⟨fun i hi => ?_, hn⟩, hx⟩
  have hlen := flat_len 2 stepC (fun _ => rfl) l
  have h00 : i * 2 < (l.flatMap stepC).length := by rw [hlen]; omega
  obtain ⟨b, o, e, -⟩ := hr (i * 2) h00
  refine ⟨b, o, e, fun j u hj => ?_⟩
  have hj2 : j < 2 := (List.getElem?_eq_some_iff.1 hj).1
  have hlt : i * 2 + j < (l.flatMap stepC).length := by rw [hlen]; omega
  obtain ⟨b', o', e', hc⟩ := hr (i * 2 + j) hlt
  rw [e] at e'; cases e'
  have := flat_get 2 stepC (fun _ => rfl) l i j hi hj2
  rw [List.getElem?_eq_getElem hlt, hj] at this
  injection this with this
  rw [Nat.add_assoc, hc, this]
def MadeS (w w' : World) (e : Ending) (l : List (Nat × Nat)) : Prop := ∃ p q, e = .returned (.slice p l.length q) ∧ StepsAt w' p q l ∧ ∀ x, p = some x → w.heap.size ≤ x.block
theorem OwnS.made {w w' : World} {v : Value} {l : List (Nat × Nat)} (h : OwnS w w' v l) : MadeS w w' (.returned v) l := by
  obtain ⟨a, c, e, h1, h2⟩ := h.at
  exact ⟨a, c, by rw [e], h1, h2⟩
theorem info_step : (Tryz.prog.info? 45).map (fun i => (i.zero, i.size, i.bytes)) = some (some (.agg #[.int .i64 0, .int .i64 0]), 2, 16) := by kernel_rfl
theorem OwnS.nil (w : World) : OwnS w w (.slice none 0 0) [] := ⟨rfl, .inl ⟨rfl, rfl⟩⟩
theorem own_one (w : World) (T : TypeId) (vs : List Value) (k : Nat) (hk : vs.length = k) (B : Nat) (hB : B ≤ w.heap.size) : (w.alloc (.cells vs.toArray T)).ownsRow B T k (.slice (some ⟨w.heap.size, 0, none⟩) 1 1) 1 vs := by
  refine ⟨by omega, .inr ⟨w.heap.size, 1, vs.toArray, rfl, hB, World.alloc_heap_new w _, by omega, by unfold maxLen; omega, by simp [hk], ?_⟩⟩
  subst hk
  simp
theorem OwnI.ints {w w' : World} {p : Option Addr} {n q : Nat} {l : List Nat} (h : OwnI w w' (.slice p n q) l) : IntsAt w' p q l := by
  obtain ⟨a, c, e, hI, -⟩ := h.at
  cases e
  exact hI
theorem own_other {w w' : World} {B B' e e' s s' n n' : Nat} {v v' : Value} {xs xs' : List Value} (h : w.ownsRow B e s v n xs) (h' : w.ownsRow B' e' s' v' n' xs') (ne : e ≠ e') (hg : w.grownBy w' v'.ownBlock) : w'.ownsRow B e s v n xs := by
  refine ⟨h.1, ?_⟩
  rcases h.2 with hn | ⟨g, cap, cur, rfl, hb, hgg, r⟩
  · exact .inl hn
  · refine .inr ⟨g, cap, cur, rfl, hb, ?_, r⟩
    rw [hg.block g (Array.getElem?_eq_some_iff.1 hgg).1 ?_]
    · exact hgg
    · intro e2
      rcases h'.2 with ⟨rfl, -⟩ | ⟨g', cap', cur', rfl, hb', hgg', r'⟩
      · cases e2
      · have e3 : g' = g := (Option.some.inj e2).symm
        subst e3
        rw [hgg] at hgg'
        injection hgg' with h1
        injection h1 with h2 h3
        exact ne h3
theorem walk_start (w3 : World) (k : Nat) : Hid (OwnS w3 (((w3.alloc (.cells #[.int .i64 k, .int .i64 0] 45)).alloc (.cells #[.int .i64 k] 3)).alloc (.cells #[.int .i64 k] 3)) (.slice (some ⟨w3.heap.size, 0, none⟩) 1 1) [(k, 0)] ∧
    OwnI w3 (((w3.alloc (.cells #[.int .i64 k, .int .i64 0] 45)).alloc (.cells #[.int .i64 k] 3)).alloc (.cells #[.int .i64 k] 3)) (.slice (some ⟨w3.heap.size + 1, 0, none⟩) 1 1) [k] ∧
    OwnI w3 (((w3.alloc (.cells #[.int .i64 k, .int .i64 0] 45)).alloc (.cells #[.int .i64 k] 3)).alloc (.cells #[.int .i64 k] 3)) (.slice (some ⟨w3.heap.size + 1 + 1, 0, none⟩) 1 1) [k] ∧
    Below w3.heap.size w3 (((w3.alloc (.cells #[.int .i64 k, .int .i64 0] 45)).alloc (.cells #[.int .i64 k] 3)).alloc (.cells #[.int .i64 k] 3))) := Lib.hid (by
  have a := own_one w3 45 [.int .i64 k, .int .i64 0] 2 rfl w3.heap.size (Nat.le_refl _)
  have b := own_one (w3.alloc (.cells #[.int .i64 k, .int .i64 0] 45)) 3 [.int .i64 k] 1 rfl w3.heap.size (by rw [World.size_alloc]; omega)
  have c := own_one ((w3.alloc (.cells #[.int .i64 k, .int .i64 0] 45)).alloc (.cells #[.int .i64 k] 3)) 3 [.int .i64 k] 1 rfl w3.heap.size (by rw [World.size_alloc, World.size_alloc]; omega)
  rw [World.size_alloc] at b c
  rw [World.size_alloc] at c
  exact ⟨(a.alloc _).alloc _, b.alloc _, c, xalloc (xalloc (xalloc (xrefl _) _) _) _⟩)
theorem OwnS.snoc {w w' : World} {v : Value} {l : List (Nat × Nat)} {x d : Nat} (h : w'.ownsRow w.heap.size 45 2 v (l.length + 1) (l.flatMap stepC ++ [.int .i64 x, .int .i64 d])) : OwnS w w' v (l ++ [(x, d)]) := by
  unfold OwnS
  rw [List.length_append, List.flatMap_append]
  simpa [stepC] using h
def lenV (v : Value) : Nat := match v with | .slice _ n _ => n | _ => 0
set_option maxRecDepth 100000 in
set_option maxHeartbeats 8000000 in
theorem refWalk_any (cs : List Nat) (n : Int) (a : Option Addr) (c : Nat) (w : World) (h : CodeAt w a c cs) :
    Calls Tryz.prog 20 #[.slice a cs.length c, .int .i64 n] w fun e w' => MadeS w w' e (walkZ cs n) ∧ Below w.heap.size w w' := by
  obtain ⟨i0, hi0, hz0, hz1, hz2⟩ := info_parts info_step
  have hlen := h.len
  have hbl := refBlocks_any cs a c w h
  have hbn : (blksN cs).length ≤ 200 := by have := blksN_len cs; omega
  have hu := Tryz.underlying51
  have hnl := Lib.hid fun k => nextOf_len (cs := cs) k
  have hnm := Lib.hid fun k x h => nextOf_lt (cs := cs) (k := k) (x := x) h
  have hnone := walkZ_none (cs := cs) (n := n)
  have hsome := fun B => walkZ_some (cs := cs) (n := n) (B := B)
  have hnext := Lib.hid fun (k : Nat) => nextOf_get (blksN cs) k
  clear h
  replace hbl := Lib.hid hbl
  generalize hbs : blksN cs = bs at *
  clear hbs
  generalize walkZ cs n = T at *
  cases hf : findZ bs n with
  | none =>
    have hT := hnone hf
    subst hT
    clear hnone hsome hnl hnm hnext
    replace hf := Lib.hid hf
    go_enter Tryz.func20, Tryz.ntmps20
    go_wp2_with (first
      | (go_at_call 15; refine hbl.out.mono ?_; rintro e w1 ⟨⟨pb, qb, rfl, hB, hzb⟩, hb1⟩; clear hbl hzb; replace hB := Lib.hid hB; replace hb1 := Lib.hid hb1)
      | (go_at_call 34; refine (refFind_any bs n pb qb w1 hB.out (by omega)).mono ?_; rw [hf.out]; rintro e w2 ⟨⟨p2, q2, rfl, hI2⟩, hb2⟩; clear hI2; replace hB := Lib.hid (hB.out.below hb2); replace hb1 := Lib.hid (xtrans hb1.out hb2); clear hb2)
      | (refine wpList_store_blkG rfl 51 _ _ rfl w2.heap.size rfl 51 (blkC none 0 blk0) (blkC p2 q2 blk0) (BlkG.new w2 _ _) rfl rfl (by kernel_rfl) rfl ?_; intro w3 hD3 ho3; clear hD3; have hb3 := ho3.below (xalloc (xrefl w2) _) (by rw [World.size_alloc]; omega) (by rintro k rfl; exact Nat.le_refl _); replace hB := Lib.hid (hB.out.below hb3); replace hb1 := Lib.hid (xtrans hb1.out hb3); clear ho3 hb3))
    go_ret
    exact ⟨⟨none, 0, rfl, ⟨fun i hi => absurd hi (by simp), fun _ => rfl⟩, fun x hx => by cases hx⟩, hb1.out⟩
  | some B =>
    obtain ⟨fst, rfl, hfl, hT⟩ := hsome B hf
    subst hT
    clear hnone hsome
    replace hf := Lib.hid hf
    generalize hTT : [(fst, 0)] ++ walkT bs cs.length [fst] [fst] 1 = T
    replace hTT := Lib.hid hTT.symm
    go_enter Tryz.func20, Tryz.ntmps20
    go_wp2_with (first
      | (go_at_call 15; refine hbl.out.mono ?_; rintro e w1 ⟨⟨pb, qb, rfl, hB, hzb⟩, hb1⟩; clear hbl hzb; replace hB := Lib.hid hB; replace hb1 := Lib.hid hb1)
      | (go_at_call 34; refine (refFind_any bs fst pb qb w1 hB.out (by omega)).mono ?_; rw [hf.out]; rintro e w2 ⟨⟨p2, q2, rfl, hI2⟩, hb2⟩; clear hI2; replace hB := Lib.hid (hB.out.below hb2); replace hb1 := Lib.hid (xtrans hb1.out hb2); clear hb2)
      | (refine wpList_store_blkG rfl 51 _ _ rfl w2.heap.size rfl 51 (blkC none 0 blk0) (blkC p2 q2 B) (BlkG.new w2 _ _) rfl rfl (by kernel_rfl) rfl ?_; intro w3 hD3 ho3; clear hD3; have hb3 := ho3.below (xalloc (xrefl w2) _) (by rw [World.size_alloc]; omega) (by rintro k rfl; exact Nat.le_refl _); replace hB := Lib.hid (hB.out.below hb3); replace hb1 := Lib.hid (xtrans hb1.out hb3); clear ho3 hb3))
    have hstart := walk_start w3 fst
    go_loopw [8, 9, 10, 11] (fun ov sv nv dv wx => ∃ (P : List (Nat × Nat)) (S N : List Nat) (d fu : Nat) (ps pn : Option Addr) (qs qn : Nat), sv = .slice ps S.length qs ∧ nv = .slice pn N.length qn ∧ dv = .int .i64 d ∧ d ≤ S.length + 1 ∧ S.length ≤ 200 ∧ N.length ≤ 200 ∧ (N ≠ [] → d ≤ S.length) ∧ P.length ≤ 200 * d ∧ Hid (SL S ∧ (∀ x ∈ S, x < cs.length) ∧ (N ≠ [] → cs.length + 1 ≤ fu + S.length)) ∧ Hid (T = P ++ walkT bs fu S N d) ∧ Hid (OwnI w3 wx sv S) ∧ Hid (OwnI w3 wx nv N) ∧ Hid (OwnS w3 wx ov P) ∧ Hid (Below w3.heap.size w3 wx)) (fun _ sv nv _ _ => 2 * (cs.length - lenV sv) + min 1 (lenV nv))
    case atStart =>
      exact ⟨[(fst, 0)], [fst], [fst], 1, cs.length, _, _, _, _, rfl, rfl, rfl, by simp, by simp, by simp, by simp, by simp, Lib.hid ⟨by unfold SL; simp, by simpa using hfl, by simp⟩, hTT, Lib.hid hstart.out.2.1, Lib.hid hstart.out.2.2.1, Lib.hid hstart.out.1, Lib.hid hstart.out.2.2.2⟩
    case round =>
      clear hstart
      obtain ⟨P, S, N, d, fu, ps, pn, qs, qn, rfl, rfl, rfl, hd1, hS2, hN2, hdN, hPl, hSN, hT, hOS, hON, hO, hb⟩ := hrel
      by_cases h0 : N = []
      · subst h0
        have hT2 : T = P := by rw [hT.out, walkT_nil, List.append_nil]
        clear hdN
        replace hT2 := Lib.hid hT2
        go_wp2
        go_ret
        rw [hT2.out]
        obtain ⟨p, q, e, h1, h2⟩ := hO.out.made
        exact ⟨⟨p, q, e, h1, fun x hx => Nat.le_trans hb1.out.size (h2 x hx)⟩, xtrans hb1.out hb.out⟩
      · have hN0 : 0 < N.length := List.length_pos_iff.2 h0
        have hNI : (0 : Int) < N.length := by omega
        have hdS := hdN h0
        obtain ⟨hst, hgr⟩ := walkT_step (bs := bs) (n := cs.length) d h0 hSN.out.1 hSN.out.2.1 (layer_lt hnm.out) (hSN.out.2.2 h0)
        replace hst := Lib.hid hst
        replace hgr := Lib.hid hgr
        replace h0 := Lib.hid h0
        clear hdN
        have hnb : Hid (∀ D : List Nat, ∀ y ∈ D, ∀ x ∈ nextOf bs y, x < cs.length) := Lib.hid fun D y _ x hx => hnm.out y x hx
        obtain ⟨wo, rfl⟩ : ∃ wo : World, wo = wr := ⟨_, rfl⟩
        go_wp2
        go_loopw [12, 13] (fun xv iv wx => ∃ (i : Nat) (p : Option Addr) (q : Nat), i ≤ N.length ∧ iv = .int .i64 i ∧ xv = .slice p (offL S ((N.take i).flatMap (nextOf bs))).length q ∧ Hid (OwnI w3 wx xv (offL S ((N.take i).flatMap (nextOf bs)))) ∧ Hid (Below wo.heap.size wo wx)) (fun _ iv _ => N.length - (intOf iv).toNat)
        case atStart => exact ⟨0, none, 0, by omega, rfl, rfl, Lib.hid ⟨rfl, .inl ⟨rfl, rfl⟩⟩, Lib.hid (xrefl _)⟩
        case round =>
          obtain ⟨i, p, q, hi, rfl, rfl, hOx, hbx⟩ := hrel
          by_cases hlt : i < N.length
          · have hltI : (i : Int) < N.length := by omega
            obtain ⟨wi, rfl⟩ : ∃ wi : World, wi = wr := ⟨_, rfl⟩
            obtain ⟨bn, on, rfl, hcn⟩ := (hON.out.below hbx.out).ints.get hlt
            have hns := Lib.hid (nexts_step bs N i hlt)
            have hBx := hB.out.below (xtrans hb.out hbx.out)
            have hfd := refFind_any bs (N[i] : Int) pb qb wi hBx (by omega)
            obtain ⟨⟨xf, xl, M, xe⟩, hX, hXf⟩ : ∃ X : BlkN, X.next = nextOf bs N[i] ∧ Calls Tryz.prog 34 #[.slice pb bs.length qb, .int .i64 N[i]] wi (fun e w' => (∃ p q b, e = .returned (.tuple #[blkV p q X, .bool b]) ∧ IntsAt w' p q X.next) ∧ Below wi.heap.size wi w') :=
              ⟨_, (hnext.out _).symm, hfd.mono fun e w' ⟨⟨p, q, h1, h2⟩, h3⟩ => ⟨⟨p, q, _, h1, h2⟩, h3⟩⟩
            have hX2 : M = nextOf bs N[i] := hX
            have hMl : M.length ≤ cs.length := by rw [hX2]; exact hnl.out _
            have hMlt : Hid (∀ x ∈ M, x < cs.length) := Lib.hid fun x hx => hnm.out N[i] x (by rw [← hX2]; exact hx)
            rw [← hX2] at hns
            clear hX hX2 hfd hBx
            have hDlt : Hid (∀ x ∈ (N.take i).flatMap (nextOf bs), x < cs.length) := Lib.hid fun x hx => by
              obtain ⟨k, -, hk⟩ := List.mem_flatMap.1 hx
              exact hnm.out k x hk
            generalize N[i] = y at *
            generalize hDD : (N.take i).flatMap (nextOf bs) = D at *
            clear hDD
            replace hXf := Lib.hid hXf
            go_wp2_with (first
              | (go_at_call 34; refine hXf.out.mono ?_; rintro e w4 ⟨⟨p4, q4, b4, rfl, hI4⟩, hb4⟩; replace hI4 := Lib.hid hI4; replace hb4 := Lib.hid hb4)
              | (refine wpList_store_blkG rfl 51 _ _ rfl w4.heap.size rfl 51 (blkC none 0 blk0) (blkC p4 q4 ⟨xf, xl, M, xe⟩) (BlkG.new w4 _ _) rfl rfl (by kernel_rfl) rfl ?_; intro w5 hD5 ho5; have hb5 := Lib.hid (ho5.below (xalloc (xrefl w4) _) (by rw [World.size_alloc]; omega) (by rintro k rfl; exact Nat.le_refl _)); replace hD5 := Lib.hid hD5; clear ho5))
            have hx2 := Lib.hid (hD5.out.cell 2 (by show 2 < 4; omega))
            have hI5 := Lib.hid (hI4.out.below hb5.out)
            have hOx5 := Lib.hid (OwnI.below hOx.out (xtrans hb4.out hb5.out))
            have hbw5 := Lib.hid (xtrans hbx.out (xtrans hb4.out hb5.out))
            clear hOx hbx hI4 hb4 hb5 hXf hD5 hcn
            go_loopw [12, 16] (fun xv kv wx => ∃ (k : Nat) (p : Option Addr) (q : Nat), k ≤ M.length ∧ kv = .int .i64 k ∧ xv = .slice p (offL S (D ++ M.take k)).length q ∧ Hid (OwnI w3 wx xv (offL S (D ++ M.take k))) ∧ Hid (Below w5.heap.size w5 wx)) (fun _ kv _ => M.length - (intOf kv).toNat)
            case atStart =>
              refine ⟨0, p, q, by omega, rfl, by rw [List.take_zero, List.append_nil], ?_, Lib.hid (xrefl _)⟩
              rw [List.take_zero, List.append_nil]
              exact hOx5
            case round =>
              clear hOx5
              obtain ⟨k, p, q, hk, rfl, rfl, hOx, hb6⟩ := hrel
              have hx6 : wr.cell? ⟨w4.heap.size, 2, none⟩ = some (.slice p4 M.length q4) := cbel hb6.out hx2.out
              by_cases hlt3 : k < M.length
              · have hltK : (k : Int) < M.length := by omega
                obtain ⟨bm, om, rfl, hcm⟩ := (hI5.out.below hb6.out).get hlt3
                have hml := hMlt.out _ (List.getElem_mem hlt3)
                have hD3 : D ++ M.take (k + 1) = (D ++ M.take k) ++ [M[k]] := by rw [List.take_succ_eq_append_getElem hlt3, List.append_assoc]
                have hSI := (OwnI.below hOS.out (xtrans hbw5.out hb6.out)).ints
                have hInc := refIn_any S (M[k] : Int) ps qs wr hSI (by omega)
                rw [inN_nat] at hInc
                have hDl : (offL S (D ++ M.take k)).length ≤ 400 := by
                  have := offL_len (S := S) (D := D ++ M.take k) (n := cs.length) fun x hx => by
                    rcases List.mem_append.1 hx with h | h
                    · exact hDlt.out x h
                    · exact hMlt.out x (List.mem_of_mem_take h)
                  omega
                replace hD3 := Lib.hid hD3
                clear hSI
                by_cases hm : M[k] ∈ S
                · rw [decide_eq_true hm] at hInc
                  have hst3 := Lib.hid (offL_in (D := D ++ M.take k) hm)
                  generalize M[k] = m at *
                  replace hInc := Lib.hid hInc
                  replace hm := Lib.hid hm
                  go_wp2_with (go_at_call 47; refine hInc.out.mono ?_; rintro e w' ⟨rfl, rfl⟩)
                  refine ⟨⟨k + 1, p, q, by omega, by go_num, by rw [hD3.out, hst3.out], ?_, hb6⟩, by simp [intOf]; omega⟩
                  rw [hD3.out, hst3.out]
                  exact hOx
                · rw [decide_eq_false hm] at hInc
                  have hst3 := Lib.hid (offL_out (D := D ++ M.take k) hm)
                  have hwith := refWith_any (offL S (D ++ M.take k)) M[k] p q wr hOx.out.ints hDl
                  generalize M[k] = m at *
                  replace hInc := Lib.hid hInc
                  replace hm := Lib.hid hm
                  replace hwith := Lib.hid hwith
                  clear hDl
                  have hsz : w3.heap.size ≤ wr.heap.size := by have h1 := hb.out.size; have h2 := hbw5.out.size; have h3 := hb6.out.size; omega
                  generalize hEE : offL S (D ++ M.take k) = E at *
                  go_wp2_with (first
                    | (go_at_call 47; refine hInc.out.mono ?_; rintro e w' ⟨rfl, rfl⟩)
                    | (go_at_call 52; refine hwith.out.mono ?_; rintro e w7 ⟨⟨v7, rfl, hv7⟩, hb7⟩; obtain ⟨p7, q7, rfl, -⟩ := hv7.at; replace hv7 := Lib.hid (OwnI.base hv7 hsz); replace hb7 := Lib.hid hb7))
                  refine ⟨⟨k + 1, p7, q7, by omega, by go_num, by rw [hD3.out, hst3.out], ?_, Lib.hid (xtrans hb6.out hb7.out)⟩, by simp [intOf]; omega⟩
                  rw [hD3.out, hst3.out]
                  exact hv7
              · obtain rfl : k = M.length := by omega
                rw [List.take_length] at hOx
                have hns2 := hns.out
                clear hlt3
                go_wp2
                refine ⟨⟨i + 1, p, q, by omega, by go_num, by rw [hns2, List.take_length], ?_, Lib.hid (xtrans hbw5.out hb6.out)⟩, by simp [intOf]; omega⟩
                rw [hns2, List.take_length]
                exact hOx
          · obtain rfl : i = N.length := by omega
            clear hlt
            rw [List.take_length, ← layer_off] at hOx
            rw [List.take_length, ← layer_off]
            have hLlt : Hid (∀ x ∈ layerN bs S N, x < cs.length) := Lib.hid (layer_lt hnm.out)
            have hLl : (layerN bs S N).length ≤ cs.length := sl_len (setL_sl _) hLlt.out
            have hle := insAll_le (l := layerN bs S N) hSN.out.1
            have hsl := Lib.hid (insAll_sl (l := layerN bs S N) hSN.out.1)
            have hlt' := Lib.hid (insAll_lt hSN.out.2.1 hLlt.out)
            have hS' := sl_len hsl.out hlt'.out
            have hpre : Hid (∀ i, (insAll S ((layerN bs S N).take i)).length ≤ cs.length) := Lib.hid fun i => sl_len (insAll_sl hSN.out.1) (insAll_lt hSN.out.2.1 fun x hx => hLlt.out x (List.mem_of_mem_take hx))
            generalize layerN bs S N = L at *
            obtain ⟨wl, rfl⟩ : ∃ wl : World, wl = wr := ⟨_, rfl⟩
            have hOS2 := Lib.hid (OwnI.below hOS.out hbx.out)
            have hO2 := Lib.hid (show OwnS w3 wl u8 P from own_keep hO.out hbx.out)
            have hb2 := Lib.hid (xtrans hb.out hbx.out)
            clear hOS hO hON hb hbx hNI hN0
            go_wp2
            go_loopw [8, 9, 17] (fun ov sv iv wx => ∃ (i : Nat) (ps : Option Addr) (qs : Nat), i ≤ L.length ∧ iv = .int .i64 i ∧ sv = .slice ps (insAll S (L.take i)).length qs ∧ Hid (OwnI w3 wx sv (insAll S (L.take i))) ∧ Hid (OwnI w3 wx (.slice p L.length q) L) ∧ Hid (OwnS w3 wx ov (P ++ (L.take i).map (fun k => (k, d)))) ∧ Hid (Below w3.heap.size w3 wx)) (fun _ _ iv _ => L.length - (intOf iv).toNat)
            case atStart => exact ⟨0, ps, qs, by omega, rfl, rfl, hOS2, hOx, by simpa using hO2, hb2⟩
            case round =>
              clear hOS2 hOx hO2 hb2
              obtain ⟨i, ps, qs, hi, rfl, rfl, hOS, hOL, hO, hb⟩ := hrel
              by_cases hlt : i < L.length
              · have hltI : (i : Int) < L.length := by omega
                obtain ⟨bl, ol, rfl, hcl⟩ := hOL.out.ints.get hlt
                have hsz : w3.heap.size ≤ wr.heap.size := hb.out.size
                have hwith := refWith_any (insAll S (L.take i)) L[i] ps qs wr hOS.out.ints (by have := hpre.out i; omega)
                have hst1 := Lib.hid (insAll_take S L i hlt)
                have hst2 : Hid (P ++ (L.take (i + 1)).map (fun k => (k, d)) = (P ++ (L.take i).map (fun k => (k, d))) ++ [(L[i], d)]) := Lib.hid (by rw [List.take_succ_eq_append_getElem hlt, List.map_append, List.append_assoc]; rfl)
                have hPl2 : (P ++ (L.take i).map (fun k => (k, d))).length ≤ 200 * d + 200 := by rw [List.length_append, List.length_map, List.length_take]; omega
                generalize L[i] = x at *
                generalize P ++ (L.take i).map (fun k => (k, d)) = P1 at *
                generalize insAll S (L.take i) = S1 at *
                replace hwith := Lib.hid hwith
                have hq1 : P1.length + 1 ≤ maxLen := by unfold maxLen; omega
                have hq2 : (P1.length + 1) * 16 ≤ 140737488355328 := by omega
                go_wp2_with (first
                  | (go_at_call 52; refine hwith.out.mono ?_; rintro e w7 ⟨⟨v7, rfl, hv7⟩, hb7⟩; obtain ⟨p7, q7, rfl, -⟩ := hv7.at; replace hv7 := Lib.hid (OwnI.base hv7 hsz); have hO7 := Lib.hid (show OwnS w3 w7 u8 P1 from own_keep hO.out hb7); have hL7 := Lib.hid (OwnI.below hOL.out hb7); have hc7 : w7.cell? ⟨bl, ol + i, none⟩ = some (.int .i64 x) := cbel hb7 hcl; replace hb7 := Lib.hid (xtrans hb.out hb7); have hs7 : w3.heap.size ≤ w7.heap.size := hb7.out.size)
                  | (at_builtin; refine wpList_append_vals (w7.alloc (.cells #[.int .i64 x, .int .i64 d] 45)) rfl _ _ 36 rfl w3.heap.size 45 i0 (.agg #[.int .i64 0, .int .i64 0]) 2 16 Tryz.underlying36 hi0 hz0 hz1 hz2 rfl (by decide) _ P1.length _ rfl (hO7.out.alloc _) (some ⟨w7.heap.size, 0, none⟩) 1 1 [.int .i64 x, .int .i64 d] rfl (by simp) rfl (rowV_new w7 45 [.int .i64 x, .int .i64 d]) (by simp [Value.oneCell']) hq1 hq2 (by rw [World.size_alloc]; exact Nat.le_succ_of_le hs7) ?_; intro v8 w8 ho8 hg8; have hb8 := Lib.hid ((xalloc hb7.out _).grown hg8 (by rw [World.size_alloc]; omega) (fun j hj => (hO7.out.lt j hj).1)); have hS8 := Lib.hid (show OwnI w3 w8 _ (insW x S1) from own_other (hv7.out.alloc _) (hO7.out.alloc _) (by decide) hg8); have hL8 := Lib.hid (show OwnI w3 w8 _ L from own_other (hL7.out.alloc _) (hO7.out.alloc _) (by decide) hg8); replace ho8 := Lib.hid (OwnS.snoc ho8); clear hg8))
                refine ⟨⟨i + 1, p7, q7, by omega, by go_num, by rw [hst1.out], ?_, hL8, ?_, hb8⟩, by simp [intOf]; omega⟩
                · rw [hst1.out]; exact hS8
                · rw [hst2.out]; exact ho8
              · obtain rfl : i = L.length := by omega
                rw [List.take_length] at hOS hO
                rw [List.take_length]
                clear hlt
                go_wp2
                refine ⟨⟨P ++ L.map (fun k => (k, d)), insAll S L, L, d + 1, fu - 1, ps, p, qs, q, rfl, rfl, by go_num, by omega, by omega, by omega, fun h => by have := (hgr.out h).2; omega, by simp; omega, Lib.hid ⟨hsl.out, hlt'.out, fun h => (hgr.out h).1⟩, Lib.hid (by rw [hT.out, hst.out, List.append_assoc]), hOS, hOL, hO, hb⟩, ?_⟩
                show 2 * (cs.length - (insAll S L).length) + min 1 L.length < 2 * (cs.length - S.length) + min 1 N.length
                have hN0 : 0 < N.length := List.length_pos_iff.2 h0.out
                by_cases h9 : L = []
                · subst h9; simp; omega
                · have := (hgr.out h9).2
                  have := List.length_pos_iff.2 h9
                  omega
end Go.Proofs.YtijkdabmegbcjaaGreatDoor
